/- A part of the proof: what functions of the program answer; conditions stand in each theorem. -/
import Derived.Test.YtiiannaficbjeaaDoorVD
import Derived.Test.YtiiannaficbjeaaDoorVB
set_option linter.unusedVariables false
set_option linter.unusedSimpArgs false
set_option linter.unusedSectionVars false
namespace Go.Proofs.Sw
abbrev zI:Ins:=⟨0,0,0,0,0⟩
def nth (code:List Ins) (k:Nat):Ins:=code.getD k zI
def nd (need:List Bool) (k:Nat):Bool:=need.getD k false
structure Sv where
 ins:Int
 need:List Bool
 code:List Ins
 outs:List Int
def Qbu (S:Sv):Nat→Int→Int
 | 0,r=>if r<S.ins then -1-r else -1000
 | k+1,r=>if nd S.need k=true∧(nth S.code k).to=r then (k:Int) else Qbu S k r
def askV (S:Sv) (k:Nat) (v:Int):Bool:=nd S.need k&&(asks (nth S.code k)).any fun r=>decide (Qbu S k r=v)
def QeY (S:Sv):Nat→Int→Int
 | 0,_=>-2000
 | k+1,v=>if askV S k v=true then (k:Int) else QeY S k v
def outV (S:Sv) (v:Int):Bool:=S.outs.any fun r=>decide (Qbu S S.code.length r=v)
def QaX (S:Sv) (v:Int):Int:=if outV S v=true then (S.code.length:Int) else QeY S S.code.length v
def Qc2 (S:Sv) (k:Nat):List Int:=((List.range S.ins.toNat).map fun (r:Nat)=>-1-(r:Int))++(-1000::((List.range k).filter fun j=>nd S.need j).map fun (j:Nat)=>(j:Int))
def Qbz (S:Sv) (k:Nat):List Int:=(Qc2 S k).filter fun w=>decide ((k:Int)≤QaX S w)
def QgF (S:Sv) (k:Nat):List Int:=(Qbz S k).filter fun w=>decide (QaX S w≠k)
theorem QrW (S:Sv) (v:Int):∀ k:Nat,QeY S k v<k
 | 0=>by simp [QeY]
 | k+1=>by
  rw[QeY]
  have:=QrW S v k
  split<;>omega
theorem Qv4 {S:Sv} {v:Int} {j:Nat} (h:askV S j v=true):∀ {k:Nat},j<k→(j:Int)≤QeY S k v
 | 0,hj=>by omega
 | k+1,hj=>by
  rw[QeY]
  by_cases e:j=k
  ·subst e;rw [if_pos h];exact Int.le_refl _
  ·have:=Qv4 h (k:=k) (by omega)
   split<;>omega
theorem Q2c {S:Sv} {v:Int} {j:Nat}:∀ {k:Nat},QeY S k v=j→askV S j v=true∧j<k
 | 0,h=>by rw [QeY] at h;omega
 | k+1,h=>by
  rw[QeY] at h
  split at h
  ·rename_i ha
   have:j=k:=by omega
   subst this
   exact⟨ha,by omega⟩
  ·have:=Q2c h
   exact⟨this.1,by omega⟩
theorem QBj (S:Sv) (v:Int):QaX S v≤S.code.length:=by
 unfold QaX
 have:=QrW S v S.code.length
 split<;>omega
theorem Qw3 {S:Sv} {v:Int} {j:Nat} (h:askV S j v=true) (hj:j<S.code.length):(j:Int)≤QaX S v:=by
 unfold QaX
 have:=Qv4 h hj
 split<;>omega
theorem QvB {S:Sv} {r:Int} (h:r ∈ S.outs):QaX S (Qbu S S.code.length r)=S.code.length:=by
 unfold QaX
 rw[if_pos]
 unfold outV
 rw[List.any_eq_true]
 exact⟨r,h,by simp⟩
theorem Qf2 {S:Sv} {v:Int} {j:Nat} (hj:j<S.code.length) (h:QaX S v=j):askV S j v=true:=by
 unfold QaX at h
 split at h
 ·omega
 ·exact(Q2c h).1
theorem QwV {S:Sv} {v:Int} (h:QaX S v=S.code.length):outV S v=true:=by
 unfold QaX at h
 split at h
 ·assumption
 ·have:=QrW S v S.code.length;omega
theorem QaS {S:Sv} {k:Nat} {w:Int}:w ∈ Qc2 S k↔(∃ r:Nat,r<S.ins.toNat∧w=-1-(r:Int))∨w=-1000∨(∃ j:Nat,j<k∧nd S.need j=true∧w=j):=by
 simp only[Qc2,List.mem_append,List.mem_map,List.mem_range,List.mem_cons,List.mem_filter]
 constructor
 ·rintro(⟨r,h,rfl⟩ | h | ⟨j,⟨h1,h2⟩,rfl⟩)
  ·exact .inl ⟨r,h,rfl⟩
  ·exact .inr (.inl h)
  ·exact .inr (.inr ⟨j,h1,h2,rfl⟩)
 ·rintro(⟨r,h,rfl⟩ | h | ⟨j,h1,h2,rfl⟩)
  ·exact .inl ⟨r,h,rfl⟩
  ·exact .inr (.inl h)
  ·exact .inr (.inr ⟨j,⟨h1,h2⟩,rfl⟩)
theorem QcS {S:Sv} {k:Nat} {w:Int} (h:w ∈ Qc2 S k):w<k:=by
 rcases QaS.1 h with ⟨r,h,rfl⟩ | h | ⟨j,h1,h2,rfl⟩<;>omega
theorem Qhx {S:Sv} {k j:Nat} {w:Int} (h:w ∈ Qc2 S k) (hj:k≤j):w ∈ Qc2 S j:=by
 rw[QaS] at h ⊢
 rcases h with h | h | ⟨i,h1,h2,rfl⟩
 ·exact .inl h
 ·exact .inr (.inl h)
 ·exact .inr (.inr ⟨i,by omega,h2,rfl⟩)
theorem QdX {S:Sv} {r:Int} (hr:0≤r):∀ k,Qbu S k r ∈ Qc2 S k
 | 0=>by
  rw[Qbu,QaS]
  split
  ·exact .inl ⟨r.toNat,by omega,by omega⟩
  ·exact .inr (.inl rfl)
 | k+1=>by
  rw[Qbu]
  split
  ·rename_i h
   exact QaS.2 (.inr (.inr ⟨k,by omega,h.1,rfl⟩))
  ·exact Qhx (QdX hr k) (by omega)
theorem Qfj {S:Sv} {k:Nat} (hn:nd S.need k=false):Qc2 S (k+1)=Qc2 S k:=by
 simp[Qc2,List.range_succ,List.filter_append,hn]
theorem Qfp {S:Sv} {k:Nat} (hn:nd S.need k=true):Qc2 S (k+1)=Qc2 S k++[(k:Int)]:=by
 simp[Qc2,List.range_succ,List.filter_append,hn]
theorem Qdy {S:Sv} {k:Nat} (hk:k<S.code.length) (hn:nd S.need k=false):Qbz S (k+1)=Qbz S k:=by
 unfold Qbz
 rw[Qfj hn]
 apply List.filter_congr
 intro w _
 have:QaX S w≠k:=fun h=>by
  have:=Qf2 hk h
  simp[askV,hn] at this
 rw[decide_eq_decide]
 omega
theorem Qd4 {S:Sv} {k:Nat} (hn:nd S.need k=true) (hu:(k:Int)<QaX S k):Qbz S (k+1)=QgF S k++[(k:Int)]:=by
 unfold QgF Qbz
 rw[Qfp hn,List.filter_append,List.filter_filter]
 congr 1
 ·apply List.filter_congr
  intro w _
  rw[Bool.eq_iff_iff,Bool.and_eq_true,decide_eq_true_eq,decide_eq_true_eq,decide_eq_true_eq]
  omega
 ·rw[List.filter_cons,if_pos (by simp;omega)];rfl
theorem QbT {S:Sv} {k:Nat} {w:Int}:w ∈ Qbz S k↔w ∈ Qc2 S k∧(k:Int)≤QaX S w:=by simp [Qbz]
theorem QAE {S:Sv} {k:Nat} {w:Int}:w ∈ QgF S k↔w ∈ Qc2 S k∧(k:Int)<QaX S w:=by
 simp only[QgF,List.mem_filter,QbT,decide_eq_true_eq]
 constructor
 ·rintro⟨⟨a,b⟩,c⟩;exact ⟨a,by omega⟩
 ·rintro⟨a,b⟩;exact ⟨⟨a,by omega⟩,by omega⟩
def mexF (l:List Int):Nat→Nat→Nat
 | 0,r=>r
 | f+1,r=>if (r:Int) ∈ l then mexF l f (r+1) else r
def mex (l:List Int):Nat:=mexF l l.length 0
theorem Qyg:∀ (r:Nat) (l:List Int),(∀ i:Nat,i<r→(i:Int) ∈ l)→r≤l.length
 | 0,_,_=>Nat.zero_le _
 | r+1,l,h=>by
  have hm:=h r (by omega)
  have h1:=Qyg r (l.erase (r:Int)) fun i hi=>(List.mem_erase_of_ne (by omega)).2 (h i (by omega))
  rw[List.length_erase_of_mem hm] at h1
  have:=List.length_pos_of_mem hm
  omega
theorem QkK (l:List Int):∀ (f r:Nat),(∀ i:Nat,i<r→(i:Int) ∈ l)→l.length≤r+f→((mexF l f r:Nat):Int) ∉ l∧∀ i:Nat,i<mexF l f r→(i:Int) ∈ l
 | 0,r,h,hl=>by
  refine⟨fun hm=>?_,h⟩
  have:=Qyg (r+1) l fun i hi=>by
   by_cases e:i=r
   ·subst e;exact hm
   ·exact h i (by omega)
  omega
 | f+1,r,h,hl=>by
  rw[mexF]
  split
  ·rename_i hm
   exact QkK l f (r+1) (fun i hi=>by
    by_cases e:i=r
    ·subst e;exact hm
    ·exact h i (by omega)) (by omega)
  ·rename_i hm
   exact⟨hm,h⟩
theorem QyM (l:List Int):((mex l:Nat):Int) ∉ l:=(QkK l l.length 0 (fun i hi=>by omega) (by omega)).1
theorem QAs (l:List Int) {i:Nat} (h:i<mex l):(i:Int) ∈ l:=(QkK l l.length 0 (fun i hi=>by omega) (by omega)).2 i h
theorem QF9 (l:List Int):mex l≤l.length:=Qyg _ l fun _ h=>QAs l h
theorem Q5F {l:List Int} {m:Nat} (h1:(m:Int) ∉ l) (h2:∀ i:Nat,i<m→(i:Int) ∈ l):mex l=m:=by
 by_cases h:mex l<m
 ·exact absurd (h2 _ h) (QyM l)
 ·by_cases h':m<mex l
  ·exact absurd (QAs l h') h1
  ·omega
def gP (S:Sv):Nat→Int→Int
 | 0,w=>if w=-1000 then S.ins else -1-w
 | k+1,w=>if nd S.need k=true∧w=k then ((mex ((QgF S k).map (gP S k)):Nat):Int) else gP S k w
theorem QfJ (S:Sv):gP S 0 (-1000)=S.ins:=if_pos rfl
theorem QiK {S:Sv} (h:S.ins≤900) {r:Nat} (hr:r<S.ins.toNat):gP S 0 (-1-(r:Int))=r:=by
 rw[gP,if_neg (by omega)];omega
theorem QwG {S:Sv} {k:Nat} (hn:nd S.need k=true):gP S (k+1) k=((mex ((QgF S k).map (gP S k)):Nat):Int):=by rw [gP,if_pos ⟨hn,rfl⟩]
theorem Qjm {S:Sv} {k:Nat} {w:Int} (h:w≠k):gP S (k+1) w=gP S k w:=by rw [gP,if_neg fun x=>h x.2]
def gI (S:Sv) (k:Nat):Ins :=
 ⟨(nth S.code k).op,gP S (k+1) k,gP S k (Qbu S k (nth S.code k).a),if (nth S.code k).op=3∨(nth S.code k).op=4 then gP S k (Qbu S k (nth S.code k).b) else (nth S.code k).b,(nth S.code k).c⟩
def gC (S:Sv):Nat→List Ins
 | 0=>[]
 | k+1=>if nd S.need k=true then gC S k++[gI S k] else gC S k
def gR (S:Sv):Nat→Int
 | 0=>if 0≤QaX S (-1000) then S.ins+1 else S.ins
 | k+1=>if nd S.need k=true then (if gP S (k+1) k+1 > gR S k then gP S (k+1) k+1 else gR S k) else gR S k
def QyJ (S:Sv):List Int:=S.outs.map fun r=>gP S S.code.length (Qbu S S.code.length r)
def Qn2 (S:Sv):Pg:=⟨S.ins,gR S S.code.length,gC S S.code.length,QyJ S⟩
structure SvOk (S:Sv):Prop where
 ins:0≤S.ins
 use:∀ k:Nat,k<S.code.length→nd S.need k=true→(k:Int)<QaX S k
 small:S.ins≤900
theorem QcQ {S:Sv} (h:SvOk S):∀ (k:Nat) {w:Int},w ∈ Qc2 S k→0≤gP S k w
 | 0,w,hw=>by
  have:=h.ins
  rw[gP]
  rcases QaS.1 hw with ⟨r,hr,rfl⟩ | rfl | ⟨j,hj,_⟩
  ·split<;>omega
  ·rw[if_pos rfl];omega
  ·omega
 | k+1,w,hw=>by
  rw[gP]
  split
  ·omega
  ·rename_i hne
   refine QcQ h k ?_
   rw[QaS] at hw ⊢
   rcases hw with hw | hw | ⟨j,h1,h2,rfl⟩
   ·exact .inl hw
   ·exact .inr (.inl hw)
   ·by_cases e:j=k
    ·subst e;exact absurd ⟨h2,rfl⟩ hne
    ·exact .inr (.inr ⟨j,by omega,h2,rfl⟩)
theorem Qbl {S:Sv} {k:Nat} {w:Int} (h:w ∈ QgF S k):w ∈ Qbz S k:=(List.mem_filter.1 h).1
theorem QaA {S:Sv} {k:Nat} {w:Int} (h:w ∈ Qbz S k):w ∈ Qc2 S k:=(QbT.1 h).1
theorem Q7w {S:Sv} (h:SvOk S):∀ (k:Nat),k≤S.code.length→∀ {w v:Int},w ∈ Qbz S k→v ∈ Qbz S k→gP S k w=gP S k v→w=v
 | 0,_,w,v,hw,hv,e=>by
  have hs:=h.small
  have h1:=QaS.1 (QaA hw)
  have h2:=QaS.1 (QaA hv)
  rcases h1 with ⟨r,hr,rfl⟩ | rfl | ⟨j,hj,_⟩
  ·rw[QiK hs hr] at e
   rcases h2 with ⟨q,hq,rfl⟩ | rfl | ⟨j,hj,_⟩
   ·rw[QiK hs hq] at e;omega
   ·rw[QfJ] at e;omega
   ·omega
  ·rw[QfJ] at e
   rcases h2 with ⟨q,hq,rfl⟩ | rfl | ⟨j,hj,_⟩
   ·rw[QiK hs hq] at e;omega
   ·rfl
   ·omega
  ·omega
 | k+1,hk,w,v,hw,hv,e=>by
  by_cases hn:nd S.need k=true
  ·rw[Qd4 hn (h.use k (by omega) hn),List.mem_append,List.mem_singleton] at hw hv
   have hnot:=QyM ((QgF S k).map (gP S k))
   have key:∀ {x:Int},x ∈ QgF S k→gP S (k+1) x=gP S k x:=fun {x} hx=>Qjm (by have:=QcS (QaA (Qbl hx));omega)
   rcases hw with hw | rfl
   ·rcases hv with hv | rfl
    ·rw[key hw,key hv] at e
     exact Q7w h k (by omega) (Qbl hw) (Qbl hv) e
    ·rw[key hw,QwG hn] at e
     exact absurd (List.mem_map.2 ⟨w,hw,e⟩) hnot
   ·rcases hv with hv | rfl
    ·rw[key hv,QwG hn] at e
     exact absurd (List.mem_map.2 ⟨v,hv,e.symm⟩) hnot
    ·rfl
  ·have hn':nd S.need k=false:=by simpa using hn
   rw[Qdy (by omega) hn'] at hw hv
   have key:∀ {x:Int},x ∈ Qbz S k→gP S (k+1) x=gP S k x:=fun {x} hx=>Qjm (by have:=QcS (QaA hx);omega)
   rw[key hw,key hv] at e
   exact Q7w h k (by omega) hw hv e
end Go.Proofs.Sw
namespace Go.Proofs.Sw
def cnt (S:Sv) (k:Nat):Nat:=((List.range k).filter fun j=>nd S.need j).length
theorem QjB {S:Sv} {k:Nat} (hn:nd S.need k=true):cnt S (k+1)=cnt S k+1:=by simp [cnt,List.range_succ,List.filter_append,hn]
theorem QgB {S:Sv} {k:Nat} (hn:nd S.need k=false):cnt S (k+1)=cnt S k:=by simp [cnt,List.range_succ,List.filter_append,hn]
theorem QBp (S:Sv) (k:Nat):cnt S k≤cnt S (k+1):=by
 cases hn:nd S.need k
 ·rw[QgB hn];exact Nat.le_refl _
 ·rw[QjB hn];omega
theorem cnt_mono {S:Sv} {j:Nat}:∀ k,j≤k→cnt S j≤cnt S k
 | 0,h=>by rw [show j=0 by omega];exact Nat.le_refl _
 | k+1,h=>by
  by_cases e:j=k+1
  ·rw[e];exact Nat.le_refl _
  ·exact Nat.le_trans (cnt_mono k (by omega)) (QBp S k)
theorem cnt_lt {S:Sv} {j k:Nat} (hn:nd S.need j=true) (h:j<k):cnt S j<cnt S k:=by
 have:=cnt_mono (S:=S) (j:=j+1) k h
 rw[QjB hn] at this
 omega
theorem QCR (S:Sv) (k:Nat):cnt S k≤k:=by
 unfold cnt
 have:=List.length_filter_le (fun j=>nd S.need j) (List.range k)
 simpa using this
theorem Qyi {S:Sv} {k:Nat} (hn:nd S.need k=true):gC S (k+1)=gC S k++[gI S k]:=by rw [gC,if_pos hn]
theorem QhR {S:Sv} {k:Nat} (hn:nd S.need k=false):gC S (k+1)=gC S k:=by rw [gC,hn,if_neg (by simp)]
theorem Qhz (S:Sv):∀ k,(gC S k).length=cnt S k
 | 0=>rfl
 | k+1=>by
  cases hn:nd S.need k
  ·rw[QhR hn,QgB hn,Qhz S k]
  ·rw[Qyi hn,QjB hn,List.length_append,Qhz S k];rfl
theorem Q7V {S:Sv} {x:Ins}:∀ k,x ∈ gC S k→∃ j,j<k∧nd S.need j=true∧x=gI S j
 | 0,h=>by simp [gC] at h
 | k+1,h=>by
  cases hn:nd S.need k
  ·rw[QhR hn] at h
   obtain⟨j,h1,h2⟩:=Q7V k h
   exact⟨j,by omega,h2⟩
  ·rw[Qyi hn,List.mem_append,List.mem_singleton] at h
   rcases h with h | rfl
   ·obtain⟨j,h1,h2⟩:=Q7V k h
    exact⟨j,by omega,h2⟩
   ·exact⟨k,by omega,hn,rfl⟩
theorem QyP (S:Sv) (k:Nat):gR S k≤gR S (k+1):=by
 rw[gR]
 split
 ·split<;>omega
 ·exact Int.le_refl _
theorem QhY {S:Sv} {j:Nat}:∀ k,j≤k→gR S j≤gR S k
 | 0,h=>by rw [show j=0 by omega];exact Int.le_refl _
 | k+1,h=>by
  by_cases e:j=k+1
  ·rw[e];exact Int.le_refl _
  ·exact Int.le_trans (QhY k (by omega)) (QyP S k)
theorem QCO {S:Sv} {k:Nat} (hn:nd S.need k=true):gP S (k+1) k<gR S (k+1):=by
 rw[gR,if_pos hn]
 split<;>omega
theorem QyT {S:Sv} (h:SvOk S):∀ (k:Nat),k≤S.code.length→∀ {w:Int},w ∈ Qbz S k→gP S k w<gR S k
 | 0,_,w,hw=>by
  have hs:=h.small
  obtain⟨hv,hu⟩:=QbT.1 hw
  rw[gR]
  rcases QaS.1 hv with ⟨r,hr,rfl⟩ | rfl | ⟨j,hj,_⟩
  ·rw[QiK hs hr]
   split<;>omega
  ·rw[QfJ,if_pos (by exact hu)];omega
  ·omega
 | k+1,hk,w,hw=>by
  cases hn:nd S.need k
  ·rw[Qdy (by omega) hn] at hw
   have:=QyT h k (by omega) hw
   have h2:=QyP S k
   rw[Qjm (by have:=QcS (QaA hw);omega)]
   omega
  ·rw[Qd4 hn (h.use k (by omega) hn),List.mem_append,List.mem_singleton] at hw
   rcases hw with hw | rfl
   ·have:=QyT h k (by omega) (Qbl hw)
    have h2:=QyP S k
    rw[Qjm (by have:=QcS (QaA (Qbl hw));omega)]
    omega
   ·exact QCO hn
theorem QtS:∀ (l m:List Int),l.Nodup→(∀ x ∈ l,x ∈ m)→l.length≤m.length
 | [],_,_,_=>Nat.zero_le _
 | x::l,m,hn,h=>by
  obtain⟨h1,h2⟩:=List.nodup_cons.1 hn
  have hm:=h x (by simp)
  have ih:=QtS l (m.erase x) h2 fun y hy=>(List.mem_erase_of_ne (fun e=>h1 (by rw [← e];exact hy))).2 (h y (by simp [hy]))
  rw[List.length_erase_of_mem hm] at ih
  have:=List.length_pos_of_mem hm
  rw[List.length_cons]
  omega
theorem Q5T {S:Sv} (h:SvOk S) (k:Nat):(Qc2 S k).Nodup:=by
 have hs:=h.small
 have h1:((List.range S.ins.toNat).map fun (r:Nat)=>-1-(r:Int)).Nodup:=List.Pairwise.map _ (fun a b hab=>by omega) List.nodup_range
 have h2:(((List.range k).filter fun j=>nd S.need j).map fun (j:Nat)=>(j:Int)).Nodup:=List.Pairwise.map _ (fun a b hab=>by omega) (List.Pairwise.filter _ List.nodup_range)
 unfold Qc2
 rw[List.nodup_append]
 refine⟨h1,List.nodup_cons.2 ⟨fun hm=>?_,h2⟩,fun a ha b hb=>?_⟩
 ·simp only[List.mem_map] at hm
  obtain⟨j,_,hj⟩:=hm
  omega
 ·simp only[List.mem_map,List.mem_range,List.mem_cons] at ha hb
  obtain⟨r,hr,rfl⟩:=ha
  rcases hb with rfl | ⟨j,_,rfl⟩<;>omega
structure SvIn (S:Sv) (n:Nat):Prop where
 asks:∀ k:Nat,k<S.code.length→nd S.need k=true→∀ r ∈ asks (nth S.code k),0≤r∧r<(n:Int)
 outs:∀ r ∈ S.outs,0≤r∧r<(n:Int)
 ins:S.ins≤n
theorem Qkk {S:Sv} {k:Nat} {r w:Int} (hw:w<k):∀ j,k≤j→Qbu S j r=w→Qbu S k r=w
 | 0,h,e=>by rw [show k=0 by omega];exact e
 | j+1,h,e=>by
  by_cases hk:k=j+1
  ·rw[hk];exact e
  ·rw[Qbu] at e
   split at e
   ·omega
   ·exact Qkk hw j (by omega) e
theorem Qpb {S:Sv} {n:Nat} (hi:SvIn S n) {k:Nat} {w:Int} (hw:w ∈ Qbz S k):∃ r:Nat,r<n∧Qbu S k r=w:=by
 obtain⟨hv,hu⟩:=QbT.1 hw
 have hlt:=QcS hv
 have hle:=QBj S w
 by_cases e:QaX S w=S.code.length
 ·have ho:=QwV e
  unfold outV at ho
  rw[List.any_eq_true] at ho
  obtain⟨r,hr,he⟩:=ho
  have:=hi.outs r hr
  refine⟨r.toNat,by omega, ?_⟩
  rw[Int.toNat_of_nonneg this.1]
  exact Qkk hlt S.code.length (by omega) (by simpa using he)
 ·obtain⟨u,hU⟩:∃ u:Nat,QaX S w=u:=⟨(QaX S w).toNat,by omega⟩
  have ha:=Qf2 (by omega) hU
  unfold askV at ha
  rw[Bool.and_eq_true,List.any_eq_true] at ha
  obtain⟨hn,r,hr,he⟩:=ha
  have:=hi.asks u (by omega) hn r hr
  refine⟨r.toNat,by omega, ?_⟩
  rw[Int.toNat_of_nonneg this.1]
  exact Qkk hlt u (by omega) (by simpa using he)
theorem QAM {S:Sv} (h:SvOk S) {n:Nat} (hi:SvIn S n) (k:Nat):(Qbz S k).length≤n:=by
 have:=QtS (Qbz S k) ((List.range n).map fun (r:Nat)=>Qbu S k r) (List.Pairwise.filter _ (Q5T h k)) fun w hw=>by
  obtain⟨r,h1,h2⟩:=Qpb hi hw
  exact List.mem_map.2 ⟨r,List.mem_range.2 h1,h2⟩
 simpa using this
theorem Q7M {S:Sv} (h:SvOk S) {k:Nat} (hk:k<S.code.length) (hn:nd S.need k=true):gP S (k+1) k+1≤(Qbz S (k+1)).length:=by
 rw[QwG hn,Qd4 hn (h.use k hk hn),List.length_append]
 have:=QF9 ((QgF S k).map (gP S k))
 rw[List.length_map] at this
 simp only[List.length_cons,List.length_nil]
 omega
theorem Q6P {S:Sv} (h:SvOk S) {n:Nat} (hi:SvIn S n):S.ins≤gR S 0∧gR S 0≤n∧gR S 0≤S.ins+1:=by
 have:=hi.ins
 have hs:=h.small
 rw[gR]
 split
 ·rename_i hu
  obtain⟨r,h1,h2⟩:=Qpb hi (k:=0) (w:=-1000) (QbT.2 ⟨QaS.2 (.inr (.inl rfl)),hu⟩)
  rw[Qbu] at h2
  split at h2<;>omega
 ·omega
theorem QF3 {S:Sv} (h:SvOk S) {n:Nat} (hi:SvIn S n):∀ k,k≤S.code.length→gR S k≤n
 | 0,_=>(Q6P h hi).2.1
 | k+1,hk=>by
  have ih:=QF3 h hi k (by omega)
  rw[gR]
  split
  ·rename_i hn
   have h1:=Q7M h (by omega) hn
   have h2:=QAM h hi (k+1)
   split<;>omega
  ·exact ih
theorem QrT (outs:List Int):∀ (code:List Ins) (k:Nat),k<code.length→nd (QgG outs code) k=Qko outs (nth code k).to (code.drop (k+1)) (QgG outs (code.drop (k+1)))
 | [],k,h=>by simp at h
 | i::rest,0,h=>rfl
 | i::rest,k+1,h=>by
  have:=QrT outs rest k (by simpa using h)
  exact this
theorem Q9K {l:List Int} {r:Int}:(l.any (· == r))=true↔r ∈ l:=by
 rw[List.any_eq_true]
 constructor
 ·rintro⟨x,h1,h2⟩
  have:x=r:=by simpa using h2
  exact this ▸ h1
 ·intro h
  exact⟨r,h,by simp⟩
theorem QA2 {code:List Ins} {k:Nat} (h:k<code.length):code.drop k=nth code k::code.drop (k+1):=by
 rw[List.drop_eq_getElem_cons h]
 congr 1
 rw[nth,List.getD_eq_getElem?_getD,List.getElem?_eq_getElem h];rfl
theorem Q8T {S:Sv} (hS:S.need=QgG S.outs S.code):∀ (d j:Nat),j+d=S.code.length→∀ (r:Int),Qko S.outs r (S.code.drop j) (QgG S.outs (S.code.drop j))=true→(j:Int)≤QaX S (Qbu S j r)
 | 0,j,h,r,hf=>by
  have:j=S.code.length:=by omega
  subst this
  rw[List.drop_length,QgG,Qko] at hf
  rw[QvB (Q9K.1 hf)]
  exact Int.le_refl _
  all_goals simp
 | d+1,j,h,r,hf=>by
  have hj:j<S.code.length:=by omega
  rw[QA2 hj,QgG,Qko,Bool.or_eq_true,Bool.and_eq_true,Bool.and_eq_true] at hf
  rcases hf with ⟨h1,h2⟩ | ⟨h1,h2⟩
  ·refine Qw3 ?_ hj
   unfold askV
   rw[Bool.and_eq_true,hS,QrT _ _ _ hj]
   refine⟨h1, ?_⟩
   rw[List.any_eq_true]
   exact⟨r,Q9K.1 h2,by simp⟩
  ·have ih:=Q8T hS d (j+1) (by omega) r h2
   have hne:¬ (nth S.code j).to=r:=by simpa using h1
   rw[Qbu,if_neg fun x=>hne x.2] at ih
   omega
theorem QDu {S:Sv} (hS:S.need=QgG S.outs S.code) (h0:0≤S.ins) (h1:S.ins≤900):SvOk S:=by
 refine⟨h0,fun k hk hn=>?_,h1⟩
 have h2:=hn
 rw[hS,QrT _ _ _ hk] at h2
 have:=Q8T hS (S.code.length-(k+1)) (k+1) (by omega) _ h2
 rw[Qbu,if_pos ⟨hn,rfl⟩] at this
 omega
end Go.Proofs.Sw
namespace Go.Proofs.Sw
structure SvOp (S:Sv):Prop where
 ops:∀ k:Nat,k<S.code.length→nd S.need k=true→1≤(nth S.code k).op∧(nth S.code k).op≤8
theorem QdE {S:Sv} {n:Nat} (hi:SvIn S n) {j:Nat} (hj:j<S.code.length) (hn:nd S.need j=true) {r:Int} (hr:r ∈ asks (nth S.code j)):Qbu S j r ∈ Qbz S j:=by
 refine QbT.2 ⟨QdX (hi.asks j hj hn r hr).1 j,Qw3 ?_ hj⟩
 unfold askV
 rw[hn,Bool.true_and,List.any_eq_true]
 exact⟨r,hr,by simp⟩
theorem Qmk {S:Sv} {n:Nat} (hi:SvIn S n) {r:Int} (hr:r ∈ S.outs):Qbu S S.code.length r ∈ Qbz S S.code.length:=by
 refine QbT.2 ⟨QdX (hi.outs r hr).1 _, ?_⟩
 rw[QvB hr]
 exact Int.le_refl _
theorem QB4 {x:Ins} (h:1≤x.op∧x.op≤8):x.a ∈ asks x:=by
 by_cases h2:x.op=3∨x.op=4
 ·unfold asks;rw [if_pos h2];simp
 ·unfold asks;rw [if_neg h2,if_pos h];simp
theorem QAN {x:Ins} (h:x.op=3∨x.op=4):x.b ∈ asks x:=by
 unfold asks
 rw[if_pos h];simp
end Go.Proofs.Sw
namespace Go.Proofs.Sw
open Go.Ab
variable [Globals]
def pk0 (p:Pg):Pk :=
 let g:=p.ins.toNat
 let unt:=untM p
 if 0≤unt.getD g 0 then ⟨layP g++[(p.ins,(g:Int))],layF unt g++[decide (unt.getD g 0<0)],[],(g:Int)+1⟩ else ⟨layP g,layF unt g,[],g⟩
def Q51 (p:Pg):Pk:=pkAt (QbU p) (untM p) (pk0 p) (QaB p) p.code p.code.length
def Qbo (p:Pg):Pg:=⟨p.ins,(Q51 p).regs,(Q51 p).code,atL (Q51 p).at_ (QyO p)⟩
def svP (p:Pg):Sv:=⟨p.ins,QaB p,p.code,p.outs⟩
def ph (S:Sv) (w:Int):Int:=if w=-1000 then S.ins else if w<0 then -1-w else S.ins+1+cnt S w.toNat
theorem Qgw (S:Sv):ph S (-1000)=S.ins:=if_pos rfl
theorem QxB {S:Sv} (h:SvOk S) {r:Nat} (hr:r<S.ins.toNat):ph S (-1-(r:Int))=r:=by
 have:=h.small
 rw[ph,if_neg (by omega),if_pos (by omega)];omega
theorem Qiq (S:Sv) (j:Nat):ph S (j:Int)=S.ins+1+cnt S j:=by
 rw[ph,if_neg (by omega),if_neg (by omega),Int.toNat_natCast]
theorem QfI {S:Sv} (h:SvOk S) {k:Nat} {w:Int} (hw:w ∈ Qc2 S k):0≤ph S w∧ph S w<S.ins+1+cnt S k:=by
 have h0:=h.ins
 rcases QaS.1 hw with ⟨r,hr,rfl⟩ | rfl | ⟨j,h1,h2,rfl⟩
 ·rw[QxB h hr];omega
 ·rw[Qgw];omega
 ·have:=cnt_lt (S:=S) h2 h1
  rw[Qiq];omega
theorem Q1X {S:Sv} (h:SvOk S) {k:Nat} {w v:Int} (hw:w ∈ Qc2 S k) (hv:v ∈ Qc2 S k) (e:ph S w=ph S v):w=v:=by
 have h0:=h.ins
 rcases QaS.1 hw with ⟨r,hr,rfl⟩ | rfl | ⟨j,h1,h2,rfl⟩
 ·rw[QxB h hr] at e
  rcases QaS.1 hv with ⟨q,hq,rfl⟩ | rfl | ⟨i,h3,h4,rfl⟩
  ·rw[QxB h hq] at e;omega
  ·rw[Qgw] at e;omega
  ·rw[Qiq] at e;omega
 ·rw[Qgw] at e
  rcases QaS.1 hv with ⟨q,hq,rfl⟩ | rfl | ⟨i,h3,h4,rfl⟩
  ·rw[QxB h hq] at e;omega
  ·rfl
  ·rw[Qiq] at e;omega
 ·rw[Qiq] at e
  rcases QaS.1 hv with ⟨q,hq,rfl⟩ | rfl | ⟨i,h3,h4,rfl⟩
  ·rw[QxB h hq] at e;omega
  ·rw[Qgw] at e;omega
  ·rw[Qiq] at e
   by_cases hij:i<j
   ·have:=cnt_lt (S:=S) h4 hij;omega
   ·by_cases hji:j<i
    ·have:=cnt_lt (S:=S) h2 hji;omega
    ·rw[show i=j by omega]
theorem QeR {code:List Ins} {k:Nat} (h:k<code.length):nth code k=code[k]:=by
 rw[nth,List.getD_eq_getElem?_getD,List.getElem?_eq_getElem h];rfl
def en (x:Int):Int:=if x<0 then -1 else x
theorem QpY {S:Sv} {n:Nat} (hi:SvIn S n) {v:Nat}:∀ j,j≤v→j≤S.code.length→QeY S j v=-2000
 | 0,_,_=>rfl
 | j+1,h,hj=>by
  have ih:=QpY hi (v:=v) j (by omega) (by omega)
  rw[QeY,ih,if_neg]
  intro ha
  unfold askV at ha
  rw[Bool.and_eq_true,List.any_eq_true] at ha
  obtain⟨hn,r,hr,he⟩:=ha
  have he':Qbu S j r=v:=by simpa using he
  have:=QcS (QdX (S:=S) (hi.asks j (by omega) hn r hr).1 j)
  omega
theorem Qr9 {S:Sv} {k:Nat} (hn:nd S.need k=true) (ho:1≤(nth S.code k).op∧(nth S.code k).op≤8) (w:Int) :
  askV S k w=true↔Qbu S k (nth S.code k).a=w∨(if (nth S.code k).op=3∨(nth S.code k).op=4 then Qbu S k (nth S.code k).b else Qbu S k (nth S.code k).a)=w:=by
 unfold askV
 rw[hn,Bool.true_and]
 by_cases h:(nth S.code k).op=3∨(nth S.code k).op=4
 ·rw[Qdc h,if_pos h];simp
 ·rw[QgZ h ho,if_neg h];simp
structure PgOk (p:Pg):Prop where
 ok:SvOk (svP p)
 inn:SvIn (svP p) p.regs.toNat
 op:SvOp (svP p)
 ins:0<p.ins
 to:∀ k:Nat,k<p.code.length→0≤(nth p.code k).to∧(nth p.code k).to<p.regs
 regs:p.ins≤p.regs
 regs2:p.regs≤128
theorem pgOk {p:Pg} (hr:Qax p=true):PgOk p:=by
 have hr':=hr
 simp only[Qax,Qdh,Bool.and_eq_true,decide_eq_true_eq] at hr'
 obtain⟨⟨hh,ho⟩,hc⟩:=hr'
 obtain⟨ins,regs,code,outs⟩:=p
 simp only at hh ho hc
 obtain⟨n,rfl⟩:∃ n:Nat,regs=n:=⟨regs.toNat,by omega⟩
 have hm:∀ k,k<code.length→mayM (nth code k) n=true:=fun k hk=>by
  rw[QeR hk]
  exact List.all_eq_true.1 hc _ (List.getElem_mem hk)
 refine⟨QDu (Q7z n ins code outs hr).symm (by show 0≤ins;omega) (by show ins≤900;omega),⟨fun k hk _ r h=>?_,fun r h=>?_, ?_⟩,⟨fun k hk _=>?_⟩,by show 0<ins;omega,fun k hk=>?_,by simp only;omega,by simp only;omega⟩
 ·have:=(Qrd (hm k hk)).2 r h
  simpa using this
 ·have:=List.all_eq_true.1 ho r h
  have h2:0≤r∧r<(n:Int):=by simpa using this
  simpa using h2
 ·show ins≤((n:Int).toNat:Int)
  omega
 ·exact(QaO (hm k hk)).1
 ·exact(Qrd (hm k hk)).1
structure LvRel (S:Sv) (n k:Nat) (q:Lv):Prop where
 len:(q.unt.length:Int)=S.ins+1+cnt S k
 hlen:q.held.length=n
 held:∀ r:Nat,r<n→q.held.getD r 0=ph S (Qbu S k r)
 unt:∀ w ∈ Qc2 S k,q.unt.getD (ph S w).toNat 0=en (QeY S k w)
theorem QtJ {p:Pg} (hp:PgOk p):∀ k,k≤p.code.length→LvRel (svP p) p.regs.toNat k (lvAt (Qbd p.ins p.regs.toNat p.code.length) (QaB p) p.code k)
 | 0,_=>by
  have h0:=hp.ok.ins
  have hs:=hp.ok.small
  have e0:(svP p).ins=p.ins:=rfl
  rw[e0] at h0 hs
  refine⟨?_,Qbk _ _,fun r hr=>?_,fun w hw=>?_⟩
  ·show ((List.replicate (p.ins.toNat+1) (-1:Int)).length:Int)=p.ins+1+((cnt (svP p) 0:Nat):Int)
   rw[List.length_replicate,show cnt (svP p) 0=0 from rfl];omega
  ·show (Qbs p.ins p.regs.toNat).getD r 0=_
   have e1:(Qbs p.ins p.regs.toNat).getD r 0=if p.ins<(r:Int) then p.ins else (r:Int):=by
    simp[Qbs,List.getD_eq_getElem?_getD,hr]
   rw[e1,Qbu,e0]
   by_cases h:(r:Int)<p.ins
   ·rw[if_neg (by omega),if_pos h,QxB hp.ok (by rw [e0];omega)]
   ·rw[if_neg h,Qgw,e0]
    split<;>omega
  ·show (List.replicate (p.ins.toNat+1) (-1:Int)).getD _ 0=_
   have:=QfI hp.ok hw
   rw[e0,show cnt (svP p) 0=0 from rfl] at this
   rw[QeY,List.getD_eq_getElem?_getD,List.getElem?_replicate,if_pos (by omega)];rfl
 | k+1,hk=>by
  obtain⟨h1,h2,h3,h4⟩:=QtJ hp k (by omega)
  have hc:(svP p).code=p.code:=rfl
  have hnd:(svP p).need=QaB p:=rfl
  rw[Qfv (by omega)]
  cases hn:nd (svP p).need k
  ·have hn':¬ (QaB p).getD k false=true:=by rw [← hnd];show ¬ nd _ k=true;rw [hn];simp
   rw[if_neg hn']
   refine⟨by rw [QgB hn];exact h1,h2,fun r hr=>?_,fun w hw=>?_⟩
   ·rw[Qbu,hn,if_neg (by simp)];exact h3 r hr
   ·rw[Qfj hn] at hw
    have:askV (svP p) k w=false:=by simp [askV,hn]
    rw[QeY,this,if_neg (by simp)]
    exact h4 w hw
  ·have hn':(QaB p).getD k false=true:=hn
   rw[if_pos hn',← QeR (show k<p.code.length by omega)]
   obtain⟨x,hx⟩:∃ x,x=nth p.code k:=⟨_,rfl⟩
   have ht:=hp.to k (by omega)
   have hop:=hp.op.ops k (by rw [hc];omega) hn
   have hasks:=hp.inn.asks k (by rw [hc];omega) hn
   rw[hc,← hx] at hop hasks
   rw[← hx] at ht ⊢
   obtain⟨q,hq⟩:∃ q,q=lvAt (Qbd p.ins p.regs.toNat p.code.length) (QaB p) p.code k:=⟨_,rfl⟩
   rw[← hq] at h1 h2 h3 h4 ⊢
   have hra:=hasks _ (QB4 hop)
   have hva:q.held.getD x.a.toNat 0=ph (svP p) (Qbu (svP p) k x.a):=by
    rw[h3 _ (by omega),Int.toNat_of_nonneg hra.1]
   have hma:Qbu (svP p) k x.a ∈ Qc2 (svP p) k:=QdX hra.1 k
   obtain⟨vb,hvb,hmb,hbe⟩:∃ vb,lvB q.held x=ph (svP p) vb∧vb ∈ Qc2 (svP p) k∧vb=(if x.op=3∨x.op=4 then Qbu (svP p) k x.b else Qbu (svP p) k x.a):=by
    unfold lvB
    by_cases h34:x.op=3∨x.op=4
    ·have hrb:=hasks _ (QAN h34)
     rw[if_pos h34,if_pos h34]
     exact⟨_,by rw [h3 _ (by omega),Int.toNat_of_nonneg hrb.1],QdX hrb.1 k,rfl⟩
    ·rw[if_neg h34,if_neg h34]
     exact⟨_,hva,hma,rfl⟩
   have e0:(svP p).ins=p.ins:=rfl
   have h0:=hp.ok.ins
   refine⟨by rw [QfD,QjB hn];omega,by simp [Qdi,h2],fun r hr=>?_,fun w hw=>?_⟩
   ·show (q.held.set x.to.toNat q.unt.length).getD r 0=_
    rw[QfN,Qbu,hc,← hx]
    by_cases e:x.to=r
    ·rw[if_pos ⟨by omega,by omega⟩,if_pos ⟨hn,e⟩,Qiq,h1]
    ·rw[if_neg (by omega),if_neg (fun h=>e h.2)]
     exact h3 r hr
   ·show (((q.unt.set (q.held.getD x.a.toNat 0).toNat k).set (lvB q.held x).toNat k)++[-1]).getD (ph (svP p) w).toNat 0=_
    rw[Qfp hn,List.mem_append,List.mem_singleton] at hw
    rcases hw with hw | rfl
    ·have hrg:=QfI hp.ok hw
     have hiff:=Qr9 (S:=svP p) (k:=k) hn (by rw [hc,← hx];exact hop) w
     rw[hc,← hx,← hbe] at hiff
     have hlt:(ph (svP p) w).toNat<q.unt.length:=by omega
     rw[List.getD_eq_getElem?_getD,List.getElem?_append_left (by simpa using hlt),← List.getD_eq_getElem?_getD,QfN,QfN,QeY,hva,hvb]
     have ra:=QfI hp.ok hma
     have rb:=QfI hp.ok hmb
     by_cases eb:vb=w
     ·subst eb
      rw[if_pos ⟨rfl,by simpa using hlt⟩,if_pos (hiff.2 (.inr rfl)),en,if_neg (by omega)]
     ·have nb:¬ ((ph (svP p) vb).toNat=(ph (svP p) w).toNat∧(ph (svP p) vb).toNat<(q.unt.set (ph (svP p) (Qbu (svP p) k x.a)).toNat ↑k).length):=fun h=>eb (Q1X hp.ok hmb hw (by omega))
      rw[if_neg nb]
      by_cases ea:Qbu (svP p) k x.a=w
      ·rw[ea,if_pos ⟨rfl,hlt⟩,if_pos (hiff.2 (.inl ea)),en,if_neg (by omega)]
      ·rw[if_neg (fun h=>ea (Q1X hp.ok hma hw (by omega))),if_neg (fun h=>by
        rcases hiff.1 h with h | h
        ·exact ea h
        ·exact eb h)]
       exact h4 w hw
    ·rw[Qiq]
     have hidx:((svP p).ins+1+(cnt (svP p) k:Int)).toNat=q.unt.length:=by omega
     have hyoung:=QpY hp.inn (v:=k) k (Nat.le_refl _) (by rw [hc];omega)
     have hask:askV (svP p) k k=false:=by
      cases ha:askV (svP p) k k
      ·rfl
      ·rcases(Qr9 (S:=svP p) (k:=k) hn (by rw [hc,← hx];exact hop) k).1 ha with h | h
       ·rw[hc,← hx] at h
        have:=QcS hma;omega
       ·rw[hc,← hx,← hbe] at h
        have:=QcS hmb;omega
     rw[hidx,QeY,hask,if_neg (by simp),hyoung,List.getD_eq_getElem?_getD,List.getElem?_append_right (by simp)]
     simp[en]
theorem QzR (held:List Int) (N:Int):∀ (rs unt:List Int) (i:Nat),i<unt.length→(untO held N unt rs).getD i 0=if (rs.any fun r=>decide ((held.getD r.toNat 0).toNat=i))=true then N else unt.getD i 0
 | [],unt,i,_=>by simp [untO]
 | r::rs,unt,i,h=>by
  rw[untO,QzR held N rs _ i (by simpa using h),QfN,List.any_cons]
  by_cases e:(held.getD r.toNat 0).toNat=i
  ·have e2:(held.getD r.toNat 0).toNat=i∧(held.getD r.toNat 0).toNat<unt.length:=⟨e,by omega⟩
   rw[decide_eq_true e,Bool.true_or,if_pos e2,if_pos (show true=true from rfl)]
   split<;>rfl
  ·rw[decide_eq_false e,Bool.false_or,if_neg (show ¬ ((held.getD r.toNat 0).toNat=i∧(held.getD r.toNat 0).toNat<unt.length) from fun h=>e h.1)]
theorem QrX {p:Pg} (hp:PgOk p) {w:Int} (hw:w ∈ Qc2 (svP p) p.code.length):(untM p).getD (ph (svP p) w).toNat 0=en (QaX (svP p) w):=by
 obtain⟨h1,h2,h3,h4⟩:=QtJ hp p.code.length (Nat.le_refl _)
 have hr:=QfI hp.ok hw
 have hc:(svP p).code=p.code:=rfl
 unfold untM QbU
 rw[QzR _ _ _ _ _ (by omega),h4 w hw]
 have:(p.outs.any fun r=>decide (((lvAt (Qbd p.ins p.regs.toNat p.code.length) (QaB p) p.code p.code.length).held.getD r.toNat 0).toNat=(ph (svP p) w).toNat))=outV (svP p) w:=by
  unfold outV
  rw[Bool.eq_iff_iff,List.any_eq_true,List.any_eq_true,hc]
  constructor
  ·rintro⟨r,hr',he⟩
   have hro:=hp.inn.outs r hr'
   refine⟨r,hr', ?_⟩
   rw[decide_eq_true_eq] at he ⊢
   rw[h3 _ (by omega),Int.toNat_of_nonneg hro.1] at he
   have hm:=QdX (S:=svP p) hro.1 p.code.length
   have:=QfI hp.ok hm
   exact Q1X hp.ok hm hw (by omega)
  ·rintro⟨r,hr',he⟩
   have hro:=hp.inn.outs r hr'
   refine⟨r,hr', ?_⟩
   rw[decide_eq_true_eq] at he ⊢
   rw[h3 _ (by omega),Int.toNat_of_nonneg hro.1,he]
 rw[this]
 unfold QaX
 rw[hc]
 split
 ·rw[en,if_neg (by omega)]
 ·rfl
theorem Qnh {x:Int}:en x<0↔x<0:=by unfold en;split<;>omega
theorem QGF {x:Int} {k:Nat}:en x=k↔x=k:=by unfold en;split<;>omega
theorem bd125 (a:Nat):QbD Tryd.prog 75 [(0,.hmap a)]=some (.agg [.hmap a,.c (.slice [] 0 true (some 0))]):=by kernel_rfl
theorem QFv (a b:Int):QbD Tryd.prog 25 [(0,.c (.int .i64 a)),(1,.c (.int .i64 b))]=some (.agg [.c (.int .i64 a),.c (.int .i64 b),.c (.slice [] 0 true (some 0)),.c (.slice [] 0 true (some 0))]):=by kernel_rfl
theorem Q8i (k:Nat) (ins:Int) (n:Nat) (code:List Ins) (outs:List Int) (nl:Bool) (cap:Option Nat) (nl2:Bool) (cap2:Option Nat) (hk:outs.length+code.length+3000≤k) (hr:Qax ⟨ins,n,code,outs⟩=true) :
  ∃ X,Qav Tryd.prog (Qac tab) (k+3) (.fn 15) [aP ⟨ins,n,code,outs⟩ nl cap nl2 cap2] [] =
   some (.tup [.agg [ii ins,ii (Qbo ⟨ins,n,code,outs⟩).regs,lv 0 5 (Qbo ⟨ins,n,code,outs⟩).code.length,hI 1 outs.length],ii 0],cdO (Qbo ⟨ins,n,code,outs⟩).code::rI (Qbo ⟨ins,n,code,outs⟩).outs::X):=by
 obtain⟨X0,hL⟩:=QAz k ins n code outs nl cap nl2 cap2 (by omega) hr
 have hr':=hr
 simp only[Qax,Qdh,Bool.and_eq_true,decide_eq_true_eq] at hr'
 obtain⟨⟨hh,ho⟩,hc⟩:=hr'
 obtain⟨g,rfl⟩:∃ g:Nat,ins=g:=⟨ins.toNat,by omega⟩
 obtain⟨P,hP⟩:∃ P:Pg,P=⟨(g:Int),n,code,outs⟩:=⟨_,rfl⟩
 have hule:(untM P).length=(QbU P).unt.length:=Qe8 _ _ _ _
 have hule2:=hule
 rw[hP] at hule2
 rw[← hule2] at hL
 have hok0:LvOk (Qbd (g:Int) n code.length) n code.length:=QfM (by omega)
 have hok:LvOk (QbU P) n code.length:=by rw [hP];exact (Qg3 hok0 _).1
 have hug:g<(untM P).length∧(untM P).length≤g+1+code.length:=by
  rw[hule,hP]
  have h1:=(Qg3 (need:=QaB ⟨(g:Int),n,code,outs⟩) (code:=code) hok0 code.length).2
  have h2:∀ i,g+1≤(lvAt (Qbd (g:Int) n code.length) (QaB ⟨(g:Int),n,code,outs⟩) code i).unt.length:=by
   intro i
   induction i with
   | zero=>simp [lvAt,Qbd]
   | succ i ih=>exact Nat.le_trans ih (QlY i)
  have h3:=h2 code.length
  simp only[Qbd,List.length_replicate,Int.toNat_natCast] at h1
  exact⟨h3,h1⟩
 have hvalX:∀ i,i<code.length→(QaB P).getD i false=true→(0≤(QbU P).a.getD i 0∧(QbU P).a.getD i 0<(untM P).length)∧(0≤(QbU P).b.getD i 0∧(QbU P).b.getD i 0<(untM P).length):=by
  intro i hi hn
  subst hP
  have hm0:mayM code[i] (n:Int)=true:=List.all_eq_true.1 hc code[i] (List.getElem_mem hi)
  have hm:=QaO hm0
  obtain⟨_,_,m5,m7⟩:=hm
  have ha:=Q86 hok0 (List.getElem?_eq_getElem hi) hn code.length hi (Nat.le_refl _)
  obtain⟨hk,hkl⟩:=Qg3 (need:=QaB ⟨(g:Int),n,code,outs⟩) (code:=code) hok0 i
  have hmono:∀ j,(lvAt (Qbd (g:Int) n code.length) (QaB ⟨(g:Int),n,code,outs⟩) code i).unt.length≤(lvAt (Qbd (g:Int) n code.length) (QaB ⟨(g:Int),n,code,outs⟩) code (i+j)).unt.length:=by
   intro j
   induction j with
   | zero=>exact Nat.le_refl _
   | succ j ih=>exact Nat.le_trans ih (QlY _)
  have hm2:=hmono (code.length-i)
  rw[show i+(code.length-i)=code.length by omega] at hm2
  have v1:=hk.vals _ (QfG (show (code[i].a).toNat<_ by rw [hk.held];omega))
  have v2:=QHo hk m5 m7
  rw[hule]
  have w1:(QbU ⟨(g:Int),n,code,outs⟩).a.getD i 0=_:=ha.1
  have w2:(QbU ⟨(g:Int),n,code,outs⟩).b.getD i 0=_:=ha.2.1
  rw[w1,w2]
  exact⟨⟨v1.1,Int.lt_of_lt_of_le v1.2 (Int.ofNat_le.2 hm2)⟩,v2.1,Int.lt_of_lt_of_le v2.2 (Int.ofNat_le.2 hm2)⟩
 simp only[aP,ii,sC,sI,sB,rI,hI] at hL
 rw[ev15]
 simp only[Tryd.f15,aP,ii,hL,bd125,FT,seval]
 rw[Qai Q4H QGz];rotate_left;rfl;rfl;rfl
 generalize hz:Qar _ _ _ _ _ _ _ _ _ _ _ _=z
 rw[hP] at hug hvalX
 obtain⟨hug1,hug2⟩:=hug
 have hol:(QyO ⟨(g:Int),n,code,outs⟩).length=outs.length:=QiA _ _
 obtain⟨unt,hunt⟩:∃ unt,unt=untM ⟨(g:Int),n,code,outs⟩:=⟨_,rfl⟩
 rw[← hunt] at hug1 hug2 hz hvalX
 obtain⟨l1,rfl,e1,e2,e4,e6,_,_⟩:=Q59 (k+1) _ _ _ _ _ _ _ _ _ _ _ _ _ code.length outs.length _ _ _ _ unt g hug1 (by omega) _ _ z hz (by omega) (by rfl) (by rfl) (by rfl) (by rfl) (by rfl) (by rfl)
 clear hz
 have hfl:=Qgv (unt:=unt) (i:=g) (by omega)
 have hgp:0<g:=by omega
 have hul:=Qaj unt
 have hx:=QaL (l:=unt) (r:=(g:Int)) (by omega) (by omega)
 rw[Int.toNat_natCast] at hx
 have hgi:(g:Int)<unt.length:=by omega
 have hg0:(0:Int)≤g:=by omega
 simp only[e1,e2,e4,e6,Qct (s:=2) (sz:=1) hgp,Qcm (e:=4) hgp,Nat.mul_one,FT,seval]
 rw[Qaf Tryd.f15 10 QD0];rotate_left;rfl
 simp only[e1,e2,e4,e6,hul,hx,hgi,hg0,EVd,List.getElem?_nil,Nat.reducePow,Nat.reduceDiv,Nat.reduceMod,FT,seval]
 obtain⟨G2,hLay⟩:=Q7E (k+1) (layP g) (layF unt g) g (unt.getD g 0) (by intro h;rw [h] at hfl;simp at hfl;omega) (Qfm g) (by omega)
 simp only[hfl,ii,Qct (s:=2) (sz:=1) hgp,Nat.mul_one] at hLay
 by_cases hu0:0≤unt.getD g 0
 ·simp only[hu0,FT,seval]
  rw[Qaf Tryd.f15 11 QEg];rotate_left;rfl
  simp only[e1,e2,e4,e6,hul,hx,hgi,hg0,hLay,Qet,Qev,EVd,List.getElem?_nil,Nat.reducePow,Nat.reduceDiv,Nat.reduceMod,FT,seval]
  rw[Qaf Tryd.f15 12 Q62];rotate_left;rfl
  simp only[e1,e2,e4,e6,QFv,EVd,List.getElem?_nil,Nat.reducePow,Nat.reduceDiv,Nat.reduceMod,FT,seval]
  rw[Qai QkE Q9z];rotate_left;rfl;rfl;rfl
  generalize hz:Qar _ _ _ _ _ _ _ _ _ _ _ _=z
  have hpk:pk0 ⟨(g:Int),n,code,outs⟩=⟨layP g++[((g:Int),(g:Int))],layF unt g++[decide (unt.getD g 0<0)],[],((g:Int)+1)⟩:=by
   unfold pk0
   simp only[Int.toNat_natCast,← hunt,hu0,if_true,if_false]
  have hbl:(layF unt g++[decide (unt.getD g 0<0)]).length=g+1:=by simp [hfl]
  have hpk0:PkOk ⟨layP g++[((g:Int),(g:Int))],layF unt g++[decide (unt.getD g 0<0)],[],((g:Int)+1)⟩:=⟨by simp only [hbl];omega,fun e he=>by
   simp only[layP,List.mem_append,List.mem_map,List.mem_range,List.mem_singleton] at he
   simp only[hbl]
   rcases he with ⟨v,hv,rfl⟩ | rfl<;>simp only<;>omega⟩
  have hk0:∀ e ∈ (⟨layP g++[((g:Int),(g:Int))],layF unt g++[decide (unt.getD g 0<0)],[],((g:Int)+1)⟩:Pk).at_,e.1<(Qbd (g:Int) n code.length).unt.length:=fun e he=>by
   simp only[layP,List.mem_append,List.mem_map,List.mem_range,List.mem_singleton] at he
   simp only[Qbd,List.length_replicate,Int.toNat_natCast]
   rcases he with ⟨v,hv,rfl⟩ | rfl<;>simp only<;>omega
  have hx2:AV.hsl 2 0 (g+1) (g+1) 1=hI 2 (layF unt g++[decide (unt.getD g 0<0)]).length:=by rw [hbl]
  rw[hx2] at hz
  have hmx1:(if ((g+1:Nat):Int) > (g:Int) then ((g+1:Nat):Int) else (g:Int))=(g:Int)+1:=by rw [if_pos (by omega)];omega
  have hmx2:(if (g:Int) > (g:Int) then (g:Int) else (g:Int))=(g:Int):=by rw [if_neg (by omega)]
  simp only[hmx1,hmx2] at hz
  obtain⟨l2,rfl,f2,f4,f6,f8,_,_,_⟩:=Qmo (k+1) _ _ _ _ _ _ _ _ _ _ _ _ outs.length g _ (QbU ⟨(g:Int),n,code,outs⟩) unt ⟨layP g++[((g:Int),(g:Int))],layF unt g++[decide (unt.getD g 0<0)],[],((g:Int)+1)⟩ (QaB ⟨(g:Int),n,code,outs⟩) code (Qig _ _) nl cap hpk0 (by simp only [hbl];omega) rfl (by simp only;omega) (by omega) (by omega) (by omega) (by have:=hok.a;rw [hP] at this;exact this) (by have:=hok.b;rw [hP] at this;exact this) (by have:=hok.sets;rw [hP] at this;exact this) hvalX (fun i hi hn=>QrK hok0 rfl hk0 i hi hn) _ _ z hz (by omega) e2 e4 e6 (by rfl) (by rfl) (by rfl) (by rfl)
  clear hz
  obtain⟨q,hq⟩:∃ q,q=pkAt (QbU ⟨(g:Int),n,code,outs⟩) unt ⟨layP g++[((g:Int),(g:Int))],layF unt g++[decide (unt.getD g 0<0)],[],((g:Int)+1)⟩ (QaB ⟨(g:Int),n,code,outs⟩) code code.length:=⟨_,rfl⟩
  obtain⟨vs,hvs⟩:∃ vs,vs=QyO ⟨(g:Int),n,code,outs⟩:=⟨_,rfl⟩
  rw[← hq]
  simp only[f2,f4,f6,f8,FT,seval]
  rw[Qai Qmg QAg];rotate_left;rfl;rfl;rfl
  generalize hz:Qar _ _ _ _ _ _ _ _ _ _ _ _=z
  rw[← hvs] at hol
  rw[← hvs,← hol] at hz
  obtain⟨l3,rfl,g2,g6,g8,_,_,_⟩:=QlA (k+2) _ _ _ _ _ _ _ _ _ (by simp only [FT,seval]) (by simp only [FT,seval]) (by simp only [FT,seval]) (by simp only [FT,seval]) (by simp only [FT,seval]) (by simp only [FT,seval]) (by simp only [FT,seval]) (by simp only [FT,seval]) (by simp only [FT,seval]) q.at_ q.free.length q.code.length _ _ vs (by rw [hol];omega) _ _ z hz (by omega) f2 f6 f8 (by rfl) (by rfl) (by rfl)
  clear hz
  have hop:0<vs.length:=by omega
  simp only[g2,g6,g8,List.take_length,Qcm (e:=3) hop,Qct (s:=1) (sz:=1) hop,FT,seval]
  rw[← hol]
  have hpm:Qbo ⟨(g:Int),n,code,outs⟩=⟨g,q.regs,q.code,atL q.at_ vs⟩:=by
   unfold Qbo Q51
   rw[hpk,← hunt,← hvs]
   simp only[← hq]
  rw[hpm]
  exact⟨_,by rfl⟩
 ·simp only[hu0,FT,seval]
  rw[Qaf Tryd.f15 12 Q62];rotate_left;rfl
  simp only[e1,e2,e4,e6,hul,hx,hgi,hg0,QFv,EVd,List.getElem?_nil,Nat.reducePow,Nat.reduceDiv,Nat.reduceMod,FT,seval]
  rw[Qai QkE Q9z];rotate_left;rfl;rfl;rfl
  generalize hz:Qar _ _ _ _ _ _ _ _ _ _ _ _=z
  have hpk:pk0 ⟨(g:Int),n,code,outs⟩=⟨layP g,layF unt g,[],(g:Int)⟩:=by
   unfold pk0
   simp only[Int.toNat_natCast,← hunt,hu0,if_true,if_false]
  have hbl:(layF unt g).length=g:=by simp [hfl]
  have hpk0:PkOk ⟨layP g,layF unt g,[],(g:Int)⟩:=⟨by simp only [hbl];omega,fun e he=>by
   simp only[layP,List.mem_append,List.mem_map,List.mem_range,List.mem_singleton] at he
   simp only[hbl]
   obtain⟨v,hv,rfl⟩:=he
   simp only
   omega⟩
  have hk0:∀ e ∈ (⟨layP g,layF unt g,[],(g:Int)⟩:Pk).at_,e.1<(Qbd (g:Int) n code.length).unt.length:=fun e he=>by
   simp only[layP,List.mem_append,List.mem_map,List.mem_range,List.mem_singleton] at he
   simp only[Qbd,List.length_replicate,Int.toNat_natCast]
   obtain⟨v,hv,rfl⟩:=he
   simp only
   omega
  have hx2:AV.hsl 2 0 g g 1=hI 2 (layF unt g).length:=by rw [hbl]
  rw[hx2] at hz
  have hmx1:(if ((g+1:Nat):Int) > (g:Int) then ((g+1:Nat):Int) else (g:Int))=(g:Int)+1:=by rw [if_pos (by omega)];omega
  have hmx2:(if (g:Int) > (g:Int) then (g:Int) else (g:Int))=(g:Int):=by rw [if_neg (by omega)]
  simp only[hmx1,hmx2] at hz
  obtain⟨l2,rfl,f2,f4,f6,f8,_,_,_⟩:=Qmo (k+1) _ _ _ _ _ _ _ _ _ _ _ _ outs.length g _ (QbU ⟨(g:Int),n,code,outs⟩) unt ⟨layP g,layF unt g,[],(g:Int)⟩ (QaB ⟨(g:Int),n,code,outs⟩) code (Qig _ _) nl cap hpk0 (by simp only [hbl];omega) rfl (by simp only;omega) (by omega) (by omega) (by omega) (by have:=hok.a;rw [hP] at this;exact this) (by have:=hok.b;rw [hP] at this;exact this) (by have:=hok.sets;rw [hP] at this;exact this) hvalX (fun i hi hn=>QrK hok0 rfl hk0 i hi hn) _ _ z hz (by omega) e2 e4 e6 (by rfl) (by rfl) (by rfl) (by rfl)
  clear hz
  obtain⟨q,hq⟩:∃ q,q=pkAt (QbU ⟨(g:Int),n,code,outs⟩) unt ⟨layP g,layF unt g,[],(g:Int)⟩ (QaB ⟨(g:Int),n,code,outs⟩) code code.length:=⟨_,rfl⟩
  obtain⟨vs,hvs⟩:∃ vs,vs=QyO ⟨(g:Int),n,code,outs⟩:=⟨_,rfl⟩
  rw[← hq]
  simp only[f2,f4,f6,f8,FT,seval]
  rw[Qai Qmg QAg];rotate_left;rfl;rfl;rfl
  generalize hz:Qar _ _ _ _ _ _ _ _ _ _ _ _=z
  rw[← hvs] at hol
  rw[← hvs,← hol] at hz
  obtain⟨l3,rfl,g2,g6,g8,_,_,_⟩:=QlA (k+2) _ _ _ _ _ _ _ _ _ (by simp only [FT,seval]) (by simp only [FT,seval]) (by simp only [FT,seval]) (by simp only [FT,seval]) (by simp only [FT,seval]) (by simp only [FT,seval]) (by simp only [FT,seval]) (by simp only [FT,seval]) (by simp only [FT,seval]) q.at_ q.free.length q.code.length _ _ vs (by rw [hol];omega) _ _ z hz (by omega) f2 f6 f8 (by rfl) (by rfl) (by rfl)
  clear hz
  have hop:0<vs.length:=by omega
  simp only[g2,g6,g8,List.take_length,Qcm (e:=3) hop,Qct (s:=1) (sz:=1) hop,FT,seval]
  rw[← hol]
  have hpm:Qbo ⟨(g:Int),n,code,outs⟩=⟨g,q.regs,q.code,atL q.at_ vs⟩:=by
   unfold Qbo Q51
   rw[hpk,← hunt,← hvs]
   simp only[← hq]
  rw[hpm]
  exact⟨_,by rfl⟩
theorem Qu1 {k:Int}:∀ {es fs:List (Int × Int)} {p:Nat × Int},Qcj k es=some p→Qcj k (es++fs)=some p
 | [],_,_,h=>by cases h
 | e::es,fs,p,h=>by
  rw[List.cons_append,Qcj]
  rw[Qcj] at h
  split at h
  ·rename_i hk;rw [if_pos hk];exact h
  ·rename_i hk
   rw[if_neg hk]
   obtain⟨q,hq,rfl⟩:=Option.map_eq_some_iff.1 h
   rw[Qu1 hq];rfl
theorem QsQ {k v:Int}:∀ {es:List (Int × Int)},Qcj k es=none→Qcj k (es++[(k,v)])=some (es.length,v)
 | [],_=>by simp [Qcj]
 | e::es,h=>by
  rw[List.cons_append,Qcj]
  rw[Qcj] at h
  split at h
  ·cases h
  ·rename_i hk
   rw[if_neg hk,QsQ (Option.map_eq_none_iff.1 h)];rfl
theorem QzV {k k' v:Int} (hne:k≠k'):∀ {es:List (Int × Int)},Qcj k es=none→Qcj k (es++[(k',v)])=none
 | [],_=>by simp [Qcj,hne]
 | e::es,h=>by
  rw[List.cons_append,Qcj]
  rw[Qcj] at h
  split at h
  ·cases h
  ·rename_i hk
   rw[if_neg hk,QzV hne (Option.map_eq_none_iff.1 h)];rfl
theorem Q8K {k k' v:Int} {es:List (Int × Int)} (hne:k≠k'):atI (es++[(k',v)]) k=atI es k:=by
 unfold atI
 cases h:Qcj k es with
 | none=>rw [QzV hne h]
 | some p=>rw [Qu1 h]
theorem Qzr {k v:Int} {es:List (Int × Int)} (h:Qcj k es=none):atI (es++[(k,v)]) k=v:=by
 unfold atI
 rw[QsQ h]
theorem QyF:∀ {g r:Nat},r<g→atI (layP g) (r:Int)=r
 | 0,r,h=>by omega
 | g+1,r,h=>by
  rw[QvI]
  by_cases e:r=g
  ·subst e
   exact Qzr (Qfm r)
  ·rw[Q8K (by omega)]
   exact QyF (by omega)
theorem Q2l {unt:List Int} {g r:Nat} (h:r<g) (hu:g≤unt.length):(layF unt g).getD r false=decide (unt.getD r 0<0):=by
 unfold layF
 have:r<unt.length:=by omega
 simp[h,List.getElem?_take,this]
structure PkRel (S:Sv) (k:Nat) (q:Pk):Prop where
 at_:∀ w ∈ Qc2 S k,(w=-1000→0≤QaX S (-1000))→atI q.at_ (ph S w)=gP S k w
 fr:∀ r:Nat,r<q.free.length→(q.free.getD r false=false↔∃ w ∈ Qbz S k,gP S k w=r)
 lt:∀ w ∈ Qbz S k,gP S k w<q.free.length
 code:q.code=gC S k
 regs:q.regs=gR S k
theorem QfS {S:Sv} {k:Nat} {w:Int} (h:w ∈ Qbz S k):w=-1000→0≤QaX S (-1000):=by
 rintro rfl
 have:=(QbT.1 h).2
 omega
theorem QB3 {p:Pg} (hp:PgOk p):PkRel (svP p) 0 (pk0 p):=by
 have h0:=hp.ok.ins
 have hs:=hp.ok.small
 have e0:(svP p).ins=p.ins:=rfl
 rw[e0] at h0 hs
 obtain⟨g,hg⟩:∃ g:Nat,p.ins=g:=⟨p.ins.toNat,by omega⟩
 have hgt:p.ins.toNat=g:=by omega
 have hmem:∀ {w:Int},w ∈ Qc2 (svP p) 0→w ∈ Qc2 (svP p) p.code.length:=fun h=>Qhx h (by omega)
 have hul:g<(untM p).length:=by
  obtain⟨h1,_⟩:=QtJ hp p.code.length (Nat.le_refl _)
  have:(untM p).length=(QbU p).unt.length:=Qe8 _ _ _ _
  unfold QbU at this
  omega
 have hN:(untM p).getD g 0=en (QaX (svP p) (-1000)):=by
  have:=QrX hp (w:=-1000) (hmem (QaS.2 (.inr (.inl rfl))))
  rwa [Qgw,e0,hgt] at this
 have hI:∀ r:Nat,r<g→(untM p).getD r 0=en (QaX (svP p) (-1-(r:Int))):=fun r hr=>by
  have:=QrX hp (w:=-1-(r:Int)) (hmem (QaS.2 (.inl ⟨r,by rw [e0];omega,rfl⟩)))
  rwa [QxB hp.ok (by rw [e0];omega),Int.toNat_natCast] at this
 have hin:∀ w ∈ Qc2 (svP p) 0,(∃ r:Nat,r<g∧w=-1-(r:Int)∧ph (svP p) w=r∧gP (svP p) 0 w=r)∨(w=-1000∧ph (svP p) w=g∧gP (svP p) 0 w=g):=fun w hw=>by
  rcases QaS.1 hw with ⟨r,hr,rfl⟩ | rfl | ⟨j,hj,_⟩
  ·rw[e0] at hr
   exact .inl ⟨r,by omega,rfl,QxB hp.ok (by rw [e0];exact hr),QiK hp.ok.small (by rw [e0];exact hr)⟩
  ·exact .inr ⟨rfl,by rw [Qgw,e0,hg],by rw [QfJ,e0,hg]⟩
  ·omega
 have hlf:(layF (untM p) g).length=g:=Qgv (by omega)
 by_cases hu:0≤(untM p).getD g 0
 ·have hU:0≤QaX (svP p) (-1000):=by
   rw[hN] at hu
   have:=Qnh (x:=QaX (svP p) (-1000))
   omega
  have e:pk0 p=⟨layP g++[((g:Int),(g:Int))],layF (untM p) g++[decide ((untM p).getD g 0<0)],[],(g:Int)+1⟩:=by
   unfold pk0
   simp only[hg,Int.toNat_natCast,hu,if_true]
  rw[e]
  refine⟨fun w hw hz=>?_,fun r hr=>?_,fun w hw=>?_,rfl, ?_⟩
  ·simp only
   rcases hin w hw with ⟨r,hr,_,h2,h3⟩ | ⟨_,h2,h3⟩
   ·rw[h2,h3,Q8K (by omega)]
    exact QyF hr
   ·rw[h2,h3]
    exact Qzr (Qfm g)
  ·simp only at hr ⊢
   rw[List.length_append,hlf] at hr
   simp only[List.length_cons,List.length_nil] at hr
   by_cases hrg:r<g
   ·rw[List.getD_eq_getElem?_getD,List.getElem?_append_left (by omega),← List.getD_eq_getElem?_getD,Q2l hrg (by omega),hI r hrg,decide_eq_false_iff_not]
    constructor
    ·intro h
     refine⟨-1-(r:Int),QbT.2 ⟨QaS.2 (.inl ⟨r,by rw [e0];omega,rfl⟩), ?_⟩,QiK hp.ok.small (by rw [e0];omega)⟩
     rw[Qnh] at h
     omega
    ·rintro⟨w,hw,hgp⟩
     obtain⟨hv,hu2⟩:=QbT.1 hw
     rcases hin w hv with ⟨q,hq,h1,_,h3⟩ | ⟨_,_,h3⟩
     ·have:q=r:=by omega
      subst this
      rw[h1] at hu2
      rw[Qnh]
      omega
     ·omega
   ·have:r=g:=by omega
    subst this
    rw[List.getD_eq_getElem?_getD,List.getElem?_append_right (by omega),hlf,Nat.sub_self]
    have:decide ((untM p).getD r 0<0)=false:=decide_eq_false (by omega)
    simp only[List.getElem?_cons_zero,Option.getD_some]
    constructor
    ·intro _
     exact⟨-1000,QbT.2 ⟨QaS.2 (.inr (.inl rfl)),by omega⟩,by rw [QfJ,e0,hg]⟩
    ·intro _
     exact this
  ·simp only[List.length_append,hlf,List.length_cons,List.length_nil]
   rcases hin w (QaA hw) with ⟨q,hq,h1,_,h3⟩ | ⟨_,_,h3⟩<;>omega
  ·simp only[gR,if_pos hU,e0,hg]
 ·have hU:¬ 0≤QaX (svP p) (-1000):=by
   rw[hN] at hu
   have:=Qnh (x:=QaX (svP p) (-1000))
   omega
  have e:pk0 p=⟨layP g,layF (untM p) g,[],(g:Int)⟩:=by
   unfold pk0
   simp only[hg,Int.toNat_natCast,hu,if_false]
  rw[e]
  refine⟨fun w hw hz=>?_,fun r hr=>?_,fun w hw=>?_,rfl, ?_⟩
  ·simp only
   rcases hin w hw with ⟨r,hr,_,h2,h3⟩ | ⟨h1,_,_⟩
   ·rw[h2,h3]
    exact QyF hr
   ·exact absurd (hz h1) hU
  ·simp only at hr ⊢
   have hrg:r<g:=by omega
   rw[Q2l hrg (by omega),hI r hrg,decide_eq_false_iff_not]
   constructor
   ·intro h
    refine⟨-1-(r:Int),QbT.2 ⟨QaS.2 (.inl ⟨r,by rw [e0];omega,rfl⟩), ?_⟩,QiK hp.ok.small (by rw [e0];omega)⟩
    rw[Qnh] at h
    omega
   ·rintro⟨w,hw,hgp⟩
    obtain⟨hv,hu2⟩:=QbT.1 hw
    rcases hin w hv with ⟨q,hq,h1,_,h3⟩ | ⟨_,_,h3⟩
    ·have:q=r:=by omega
     subst this
     rw[h1] at hu2
     rw[Qnh]
     omega
    ·omega
  ·simp only[hlf]
   rcases hin w (QaA hw) with ⟨q,hq,h1,_,h3⟩ | ⟨h1,_,h3⟩
   ·omega
   ·exact absurd (QfS hw h1) hU
  ·simp only[gR,if_neg hU,e0,hg]
theorem Q75 {fl:List Bool} (h:Qbe fl<fl.length):fl.getD (Qbe fl) false=true:=by
 have:=List.findIdx_getElem (p:=id) (xs:=fl) (w:=h)
 rw[List.getD_eq_getElem?_getD,List.getElem?_eq_getElem h]
 exact this
theorem Q7I {fl:List Bool} {i:Nat} (h:i<Qbe fl):fl.getD i false=false:=by
 have h2:=Qeh fl
 have:=List.not_of_lt_findIdx (p:=id) (xs:=fl) h
 rw[List.getD_eq_getElem?_getD,List.getElem?_eq_getElem (by omega)]
 simpa using this
theorem Qeo {l:List Bool} {i k:Nat} {v:Bool} (hi:i<l.length):(l.set i v).getD k false=if i=k then v else l.getD k false:=by
 rw[List.getD_eq_getElem?_getD,List.getD_eq_getElem?_getD,List.getElem?_set]
 by_cases h:i=k
 ·subst h;simp [hi]
 ·simp[h]
def vA (S:Sv) (k:Nat):Int:=Qbu S k (nth S.code k).a
def vB (S:Sv) (k:Nat):Int:=if (nth S.code k).op=3∨(nth S.code k).op=4 then Qbu S k (nth S.code k).b else Qbu S k (nth S.code k).a
theorem Q8Q {p:Pg} (hp:PgOk p) {k:Nat} (hk:k<p.code.length) (hn:nd (svP p).need k=true) :
  (vA (svP p) k ∈ Qbz (svP p) k∧vB (svP p) k ∈ Qbz (svP p) k)∧(QbU p).a.getD k 0=ph (svP p) (vA (svP p) k)∧(QbU p).b.getD k 0=ph (svP p) (vB (svP p) k)∧(QbU p).sets.getD k 0=ph (svP p) k ∧
  ∀ w ∈ Qbz (svP p) k,(QaX (svP p) w=k→w=vA (svP p) k∨w=vB (svP p) k):=by
 have hc:(svP p).code=p.code:=rfl
 have hop:=hp.op.ops k (by rw [hc];exact hk) hn
 have h1:vA (svP p) k ∈ Qbz (svP p) k:=QdE hp.inn (by rw [hc];exact hk) hn (QB4 hop)
 have hasks:=hp.inn.asks k (by rw [hc];omega) hn
 have hra:=hasks _ (QB4 hop)
 obtain⟨l1,l2,l3,_⟩:=QtJ hp k (by omega)
 have e:p.code[k]?=some (nth p.code k):=by rw [QeR hk,List.getElem?_eq_getElem hk]
 have hok0:LvOk (Qbd p.ins p.regs.toNat p.code.length) p.regs.toNat p.code.length:=QfM (by have:=hp.ok.ins;exact this)
 obtain⟨a1,a2,a3⟩:=Q86 (need:=QaB p) hok0 e hn p.code.length hk (Nat.le_refl _)
 have hA:(QbU p).a.getD k 0=ph (svP p) (vA (svP p) k):=by
  show (lvAt _ _ _ _).a.getD k 0=_
  rw[a1,l3 _ (by rw [hc] at hra;omega)]
  rw[hc] at hra
  rw[Int.toNat_of_nonneg hra.1];rfl
 have hset:(QbU p).sets.getD k 0=ph (svP p) k:=by
  show (lvAt _ _ _ _).sets.getD k 0=_
  rw[a3,Qiq];exact l1
 have hB:vB (svP p) k ∈ Qbz (svP p) k∧(QbU p).b.getD k 0=ph (svP p) (vB (svP p) k):=by
  have hb:(QbU p).b.getD k 0=lvB (lvAt (Qbd p.ins p.regs.toNat p.code.length) (QaB p) p.code k).held (nth p.code k):=a2
  by_cases h34:(nth (svP p).code k).op=3∨(nth (svP p).code k).op=4
  ·have hrb:=hasks _ (QAN h34)
   have ev:vB (svP p) k=Qbu (svP p) k (nth (svP p).code k).b:=if_pos h34
   rw[ev]
   refine⟨QdE hp.inn (by rw [hc];exact hk) hn (QAN h34), ?_⟩
   rw[hb]
   unfold lvB
   rw[if_pos (by rw [hc] at h34;exact h34)]
   rw[hc] at hrb
   rw[l3 _ (by omega),Int.toNat_of_nonneg hrb.1];rfl
  ·have ev:vB (svP p) k=vA (svP p) k:=if_neg h34
   rw[ev]
   refine⟨h1, ?_⟩
   rw[hb]
   unfold lvB
   rw[if_neg (by rw [hc] at h34;exact h34),← a1];exact hA
 refine⟨⟨h1,hB.1⟩,hA,hB.2,hset,fun w hw hu=>?_⟩
 have:=(Qr9 hn hop w).1 (Qf2 (by rw [hc];exact hk) hu)
 rcases this with h | h
 ·exact .inl h.symm
 ·exact .inr h.symm
theorem QBN {p:Pg} (hp:PgOk p):∀ k,k≤p.code.length→PkRel (svP p) k (pkAt (QbU p) (untM p) (pk0 p) (QaB p) p.code k)
 | 0,_=>QB3 hp
 | k+1,hk=>by
  have ih:=QBN hp k (by omega)
  have hc:(svP p).code=p.code:=rfl
  have hfresh0:nd (svP p).need k=true→Qcj ((QbU p).sets.getD k 0) (pkAt (QbU p) (untM p) (pk0 p) (QaB p) p.code k).at_=none:=fun hn=>by
   have h0:=hp.ok.ins
   have e0:(svP p).ins=p.ins:=rfl
   rw[e0] at h0
   refine QrK (QfM h0) rfl ?_ k (by omega) hn
   intro e he
   simp only[Qbd,List.length_replicate]
   unfold pk0 at he
   simp only at he
   split at he
   ·simp only[layP,List.mem_append,List.mem_map,List.mem_range,List.mem_singleton] at he
    rcases he with ⟨v,hv,rfl⟩ | rfl<;>simp only<;>omega
   ·simp only[layP,List.mem_map,List.mem_range] at he
    obtain⟨v,hv,rfl⟩:=he
    simp only
    omega
  obtain⟨q,hq⟩:∃ q,q=pkAt (QbU p) (untM p) (pk0 p) (QaB p) p.code k:=⟨_,rfl⟩
  rw[Qkc (by omega)]
  rw[← hq] at ih hfresh0 ⊢
  obtain⟨r1,r2,r3,r4,r5⟩:=ih
  cases hn:nd (svP p).need k
  ·have hn':¬ (QaB p).getD k false=true:=by show ¬ nd (svP p).need k=true;rw [hn];simp
   rw[if_neg hn']
   have hal:=Qdy (S:=svP p) (show k<(svP p).code.length by rw [hc];omega) hn
   have hgp:∀ {w:Int},w ∈ Qc2 (svP p) k→gP (svP p) (k+1) w=gP (svP p) k w:=fun hw=>Qjm (by have:=QcS hw;omega)
   refine⟨fun w hw hz=>?_,fun r hr=>?_,fun w hw=>?_,by rw [QhR hn];exact r4,by rw [gR,hn,if_neg (by simp)];exact r5⟩
   ·rw[Qfj hn] at hw
    rw[hgp hw];exact r1 w hw hz
   ·rw[r2 r hr,hal]
    constructor
    ·rintro⟨w,hw,e⟩;exact ⟨w,hw,by rw [hgp (QaA hw)];exact e⟩
    ·rintro⟨w,hw,e⟩;exact ⟨w,hw,by rw [hgp (QaA hw)] at e;exact e⟩
   ·rw[hal] at hw
    rw[hgp (QaA hw)];exact r3 w hw
  ·have hn':(QaB p).getD k false=true:=hn
   rw[if_pos hn',← QeR (show k<p.code.length by omega)]
   obtain⟨⟨ma,mb⟩,eA,eB,eS,hask⟩:=Q8Q hp (show k<p.code.length by omega) hn
   have hfresh:=hfresh0 hn
   rw[eS] at hfresh
   have huse:=hp.ok.use k (by rw [hc];omega) hn
   have atA:atI q.at_ (ph (svP p) (vA (svP p) k))=gP (svP p) k (vA (svP p) k):=r1 _ (QaA ma) (QfS ma)
   have atB:atI q.at_ (ph (svP p) (vB (svP p) k))=gP (svP p) k (vB (svP p) k):=r1 _ (QaA mb) (QfS mb)
   have hmem:∀ {w:Int},w ∈ Qbz (svP p) k→w ∈ Qc2 (svP p) p.code.length:=fun h=>Qhx (QaA h) (by omega)
   have uA:((untM p).getD (ph (svP p) (vA (svP p) k)).toNat 0=k)=(QaX (svP p) (vA (svP p) k)=k):=by rw [QrX hp (hmem ma)];exact propext QGF
   have uB:((untM p).getD (ph (svP p) (vB (svP p) k)).toNat 0=k)=(QaX (svP p) (vB (svP p) k)=k):=by rw [QrX hp (hmem mb)];exact propext QGF
   have ra:=r3 _ ma
   have rb:=r3 _ mb
   have ra0:=QcQ hp.ok k (QaA ma)
   have rb0:=QcQ hp.ok k (QaA mb)
   obtain⟨f2,hf2⟩:∃ f2,f2=QbH q.at_ (untM p) k (QbH q.at_ (untM p) k q.free ((QbU p).a.getD k 0)) ((QbU p).b.getD k 0):=⟨_,rfl⟩
   have hf2l:f2.length=q.free.length:=by rw [hf2,QbN,QbN]
   have hinj:=fun {w v:Int} (hw:w ∈ Qbz (svP p) k) (hv:v ∈ Qbz (svP p) k) (e:gP (svP p) k w=gP (svP p) k v)=>Q7w hp.ok k (by rw [hc];omega) hw hv e
   have hf2g:∀ r:Nat,r<f2.length→(f2.getD r false=false↔∃ w ∈ QgF (svP p) k,gP (svP p) k w=r):=fun r hr=>by
    have hstep:f2.getD r false=false↔(q.free.getD r false=false∧¬ (QaX (svP p) (vA (svP p) k)=k∧gP (svP p) k (vA (svP p) k)=r)∧¬ (QaX (svP p) (vB (svP p) k)=k∧gP (svP p) k (vB (svP p) k)=r)):=by
     rw[hf2,eA,eB]
     unfold QbH
     rw[atA,atB]
     simp only[uA,uB]
     by_cases hA:QaX (svP p) (vA (svP p) k)=k
     ·by_cases hB:QaX (svP p) (vB (svP p) k)=k
      ·rw[if_pos hB,if_pos hA,Qeo (by simp;omega),Qeo (by omega)]
       by_cases e2:(gP (svP p) k (vB (svP p) k)).toNat=r
       ·rw[if_pos e2]
        constructor
        ·intro h;cases h
        ·intro h;exact absurd ⟨hB,by omega⟩ h.2.2
       ·rw[if_neg e2]
        by_cases e1:(gP (svP p) k (vA (svP p) k)).toNat=r
        ·rw[if_pos e1]
         constructor
         ·intro h;cases h
         ·intro h;exact absurd ⟨hA,by omega⟩ h.2.1
        ·rw[if_neg e1]
         exact⟨fun h=>⟨h,fun x=>by omega,fun x=>by omega⟩,fun h=>h.1⟩
      ·rw[if_neg hB,if_pos hA,Qeo (by omega)]
       by_cases e1:(gP (svP p) k (vA (svP p) k)).toNat=r
       ·rw[if_pos e1]
        constructor
        ·intro h;cases h
        ·intro h;exact absurd ⟨hA,by omega⟩ h.2.1
       ·rw[if_neg e1]
        exact⟨fun h=>⟨h,fun x=>by omega,fun x=>by omega⟩,fun h=>h.1⟩
     ·by_cases hB:QaX (svP p) (vB (svP p) k)=k
      ·rw[if_pos hB,if_neg hA,Qeo (by omega)]
       by_cases e2:(gP (svP p) k (vB (svP p) k)).toNat=r
       ·rw[if_pos e2]
        constructor
        ·intro h;cases h
        ·intro h;exact absurd ⟨hB,by omega⟩ h.2.2
       ·rw[if_neg e2]
        exact⟨fun h=>⟨h,fun x=>by omega,fun x=>by omega⟩,fun h=>h.1⟩
      ·rw[if_neg hB,if_neg hA]
       exact⟨fun h=>⟨h,fun x=>hA x.1,fun x=>hB x.1⟩,fun h=>h.1⟩
    rw[hstep,r2 r (by omega)]
    constructor
    ·rintro⟨⟨w,hw,e⟩,hnA,hnB⟩
     refine⟨w,List.mem_filter.2 ⟨hw, ?_⟩,e⟩
     rw[decide_eq_true_eq]
     intro hu
     rcases hask w hw hu with rfl | rfl
     ·exact hnA ⟨hu,e⟩
     ·exact hnB ⟨hu,e⟩
    ·rintro⟨w,hw,e⟩
     have hwu:QaX (svP p) w≠k:=by
      have:=(QAE.1 hw).2
      omega
     refine⟨⟨w,Qbl hw,e⟩,fun ⟨x1,x2⟩=>?_,fun ⟨x1,x2⟩=>?_⟩
     ·have:=hinj ma (Qbl hw) (by rw [x2,e])
      rw[this] at x1
      exact hwu x1
     ·have:=hinj mb (Qbl hw) (by rw [x2,e])
      rw[this] at x1
      exact hwu x1
   have hlm:=Qeh f2
   have hmex:mex ((QgF (svP p) k).map (gP (svP p) k))=Qbe f2:=by
    refine Q5F ?_ fun i hi=>?_
    ·rw[List.mem_map]
     rintro⟨w,hw,e⟩
     by_cases hlt:Qbe f2<f2.length
     ·have h1:=Q75 hlt
      have h2:=(hf2g (Qbe f2) hlt).2 ⟨w,hw,e⟩
      rw[h1] at h2
      cases h2
     ·have:=r3 w (Qbl hw)
      omega
    ·rw[List.mem_map]
     exact(hf2g i (by omega)).1 (Q7I hi)
   have hnew:gP (svP p) (k+1) k=(Qbe f2:Int):=by rw [QwG hn,hmex]
   have hst:Qd8 (QbU p) (untM p) q k (nth p.code k)=⟨q.at_++[(ph (svP p) k,(Qbe f2:Int))],Qie f2,q.code++[gI (svP p) k],if ((Qbe f2:Nat):Int)+1 > q.regs then ((Qbe f2:Nat):Int)+1 else q.regs⟩:=by
    rw[Qd8]
    simp only[← hf2]
    rw[eS,eA,eB,atA,atB,gI,hnew]
    by_cases h34:(nth p.code k).op=3∨(nth p.code k).op=4
    ·have ev:vB (svP p) k=Qbu (svP p) k (nth (svP p).code k).b:=if_pos h34
     rw[if_pos h34,ev,hc,if_pos h34];rfl
    ·rw[if_neg h34,hc,if_neg h34];rfl
   rw[hst]
   have hal:=Qd4 (S:=svP p) hn huse
   have hgp:∀ {w:Int},w ∈ Qc2 (svP p) k→gP (svP p) (k+1) w=gP (svP p) k w:=fun hw=>Qjm (by have:=QcS hw;omega)
   have hgl:=QeH f2
   refine⟨fun w hw hz=>?_,fun r hr=>?_,fun w hw=>?_, ?_, ?_⟩
   ·simp only
    rw[Qfp hn,List.mem_append,List.mem_singleton] at hw
    rcases hw with hw | rfl
    ·have hne:ph (svP p) w≠ph (svP p) k:=fun e=>by
      have:=Q1X hp.ok (k:=k+1) (w:=w) (v:=k) (Qhx hw (by omega)) (by rw [Qfp hn];simp) e
      have:=QcS hw
      omega
     rw[Q8K hne,hgp hw]
     exact r1 w hw hz
    ·rw[Qzr hfresh,hnew]
   ·simp only at hr ⊢
    rw[hal]
    have hrhs:(∃ w ∈ QgF (svP p) k++[(k:Int)],gP (svP p) (k+1) w=r)↔((∃ w ∈ QgF (svP p) k,gP (svP p) k w=r)∨Qbe f2=r):=by
     constructor
     ·rintro⟨w,hw,e⟩
      rw[List.mem_append,List.mem_singleton] at hw
      rcases hw with hw | rfl
      ·rw[hgp (QaA (Qbl hw))] at e
       exact .inl ⟨w,hw,e⟩
      ·rw[hnew] at e
       exact .inr (by omega)
     ·rintro(⟨w,hw,e⟩ | e)
      ·exact⟨w,by simp [hw],by rw [hgp (QaA (Qbl hw))];exact e⟩
      ·exact⟨k,by simp,by rw [hnew,e]⟩
    rw[hrhs]
    unfold Qie at hr ⊢
    by_cases hlt:Qbe f2<f2.length
    ·rw[if_pos hlt,Qeo hlt]
     rw[if_pos hlt,List.length_set] at hr
     by_cases e:Qbe f2=r
     ·rw[if_pos e];exact ⟨fun _=>.inr e,fun _=>rfl⟩
     ·rw[if_neg e,hf2g r hr]
      exact⟨fun h=>.inl h,fun h=>h.resolve_right e⟩
    ·rw[if_neg hlt]
     rw[if_neg hlt,List.length_append] at hr
     simp only[List.length_cons,List.length_nil] at hr
     by_cases e:Qbe f2=r
     ·rw[List.getD_eq_getElem?_getD,List.getElem?_append_right (by omega),show r-f2.length=0 by omega]
      exact⟨fun _=>.inr e,fun _=>rfl⟩
     ·rw[List.getD_eq_getElem?_getD,List.getElem?_append_left (by omega),← List.getD_eq_getElem?_getD,hf2g r (by omega)]
      exact⟨fun h=>.inl h,fun h=>h.resolve_right e⟩
   ·simp only
    rw[hal,List.mem_append,List.mem_singleton] at hw
    rcases hw with hw | rfl
    ·have:=r3 w (Qbl hw)
     rw[hgp (QaA (Qbl hw)),hgl]
     omega
    ·rw[hnew,hgl]
     omega
   ·simp only
    rw[Qyi hn,r4]
   ·simp only
    rw[gR,if_pos hn,r5,hnew]
theorem QjM {p:Pg} (hp:PgOk p):Qbo p=Qn2 (svP p):=by
 obtain⟨r1,r2,r3,r4,r5⟩:=QBN hp p.code.length (Nat.le_refl _)
 obtain⟨l1,l2,l3,_⟩:=QtJ hp p.code.length (Nat.le_refl _)
 have hc:(svP p).code=p.code:=rfl
 unfold Qbo Qn2
 rw[show Q51 p=pkAt (QbU p) (untM p) (pk0 p) (QaB p) p.code p.code.length from rfl,r4,r5]
 congr 1
 unfold atL QyO Qfr QyJ
 rw[List.map_map]
 apply List.map_congr_left
 intro r hr
 have ha:=Qmk (S:=svP p) hp.inn hr
 have hro:=hp.inn.outs r hr
 have:=l3 r.toNat (by omega)
 rw[Int.toNat_of_nonneg hro.1] at this
 rw[Function.comp_apply,hc]
 show atI _ ((lvAt _ _ _ _).held.getD _ _)=_
 rw[this]
 rw[hc] at ha
 exact r1 _ (QaA ha) (QfS ha)
theorem Qyq {x y:Ins} (h1:x.op=y.op) (h2:x.c=y.c):constant x=constant y:=by
 unfold constant
 rw[h1,h2]
theorem QtE {p:Pg} (hr:Qax p=true):Qax (Qn2 (svP p))=true:=by
 have hp:=pgOk hr
 have hc:(svP p).code=p.code:=rfl
 have e0:(svP p).ins=p.ins:=rfl
 have hr':=hr
 simp only[Qax,Qdh,Bool.and_eq_true,decide_eq_true_eq] at hr'
 obtain⟨⟨hh,ho⟩,hcd⟩:=hr'
 have hz:=Q6P hp.ok hp.inn
 have hle:=QF3 hp.ok hp.inn p.code.length (by rw [hc];exact Nat.le_refl _)
 have hm0:=QhY (S:=svP p) (j:=0) p.code.length (by omega)
 have hcl:=QCR (svP p) p.code.length
 simp only[Qax,Bool.and_eq_true]
 refine⟨⟨?_, ?_⟩, ?_⟩
 ·simp only[Qdh,Qn2,Qhz,QyJ,List.length_map,decide_eq_true_eq,hc]
  show 1≤p.ins∧p.ins≤_∧_∧_∧1≤p.outs.length∧p.outs.length≤128
  rw[e0] at hz
  omega
 ·rw[QfV,List.all_eq_true]
  intro r hr2
  obtain⟨q,hq,rfl⟩:=List.mem_map.1 (show r ∈ (svP p).outs.map _ from hr2)
  have ha:=Qmk hp.inn hq
  have h1:=QcQ hp.ok _ (QaA ha)
  have h2:=QyT hp.ok _ (Nat.le_refl _) ha
  exact decide_eq_true (show 0≤_∧_<gR (svP p) (svP p).code.length from And.intro h1 h2)
 ·rw[QfT,List.all_eq_true]
  intro x hx
  obtain⟨j,hj,hn,rfl⟩:=Q7V _ (show x ∈ gC (svP p) (svP p).code.length from hx)
  have hop:=hp.op.ops j hj hn
  have hm:mayM (nth p.code j) p.regs=true:=by
   rw[QeR (by rw [hc] at hj;exact hj)]
   exact List.all_eq_true.1 hcd _ (List.getElem_mem _)
  have ha:=QdE hp.inn hj hn (QB4 hop)
  have h1:=QcQ hp.ok _ (QaA ha)
  have h2:=QyT hp.ok _ (by omega) ha
  have h3:=QhY (S:=svP p) (j:=j) (svP p).code.length (by omega)
  have h4:=QhY (S:=svP p) (j:=j+1) (svP p).code.length (by omega)
  have h5:=QCO hn
  have h6:=QcQ hp.ok (j+1) (w:=j) (by rw [Qfp hn];simp)
  have hcc:constant (gI (svP p) j)=constant (nth p.code j):=Qyq rfl rfl
  simp only[mayM,Bool.and_eq_true,decide_eq_true_eq] at hm ⊢
  obtain⟨⟨⟨m1,m2⟩,m3⟩,m4⟩:=hm
  have hgr:(Qn2 (svP p)).regs=gR (svP p) (svP p).code.length:=rfl
  rw[hcc,hgr]
  rw[hc] at hop h1 h2
  refine⟨⟨⟨⟨hop.1,hop.2, ?_, ?_, ?_⟩,m2⟩, ?_⟩, ?_⟩
  ·exact h6
  ·show gP (svP p) (j+1) j<_
   omega
  ·show (nth p.code j).op=3∨(nth p.code j).op=4∨(if (nth p.code j).op=3∨(nth p.code j).op=4 then _ else (nth p.code j).b)=0
   by_cases h34:(nth p.code j).op=3∨(nth p.code j).op=4
   ·omega
   ·rw[if_neg h34];omega
  ·show 0≤gP (svP p) j (Qbu (svP p) j (nth p.code j).a)∧gP (svP p) j (Qbu (svP p) j (nth p.code j).a)<_
   exact⟨h1,by omega⟩
  ·intro h34
   have h34':(nth (svP p).code j).op=3∨(nth (svP p).code j).op=4:=h34
   have hb:=QdE hp.inn hj hn (QAN h34')
   have h7:=QcQ hp.ok _ (QaA hb)
   have h8:=QyT hp.ok _ (by omega) hb
   have e:(gI (svP p) j).b=gP (svP p) j (Qbu (svP p) j (nth (svP p).code j).b):=if_pos h34'
   rw[e]
   exact⟨h7,by omega⟩
theorem Qkz {p:Pg} (hr:Qax p=true):Qax (Qbo p)=true:=by rw [QjM (pgOk hr)];exact QtE hr
theorem Qh9:∀ (rs:List Int) (l:List Bool) (i:Nat),(∀ r ∈ rs,0≤r)→i<l.length→(mark l true rs).getD i false=(l.getD i false || rs.any fun r=>decide (r=i))
 | [],l,i,_,_=>by simp [mark]
 | r::rs,l,i,h,hi=>by
  rw[mark,Qh9 rs _ i (fun x hx=>h x (List.mem_cons_of_mem _ hx)) (by simpa using hi),List.any_cons]
  have h0:=h r List.mem_cons_self
  by_cases e:r=i
  ·subst e
   rw[show ((i:Nat):Int).toNat=i from rfl,Qeo hi]
   simp
  ·have h1:¬ r.toNat=i:=by omega
   rw[List.getD_eq_getElem?_getD,List.getElem?_set,if_neg h1,← List.getD_eq_getElem?_getD]
   simp[e]
theorem QnA (base:List Bool):∀ (k:Nat) (code:List Ins),(QaP base code).2.drop k=(QaP base (code.drop k)).2
 | 0,code=>rfl
 | k+1,[]=>by simp [QaP]
 | k+1,x::l=>by
  rw[List.drop_succ_cons,← QnA base k l,QaP]
  split<;>rw [List.drop_succ_cons]
abbrev livA (p:Pg) (k:Nat):List Bool:=(QaP (QbB p.regs.toNat p.outs) (p.code.drop k)).1
theorem Qzk (p:Pg) (k:Nat):(livA p k).length=p.regs.toNat:=by
 rw[livA,(Qbn _ _).1,QbB,Qbr,List.length_replicate]
theorem QE5 {p:Pg} {k:Nat} (hk:k<p.code.length) :
  (QaB p).getD k false=(livA p (k+1)).getD (nth p.code k).to.toNat false ∧
  livA p k=if (QaB p).getD k false=true then mark ((livA p (k+1)).set (nth p.code k).to.toNat false) true (asks (nth p.code k)) else livA p (k+1):=by
 have hd:p.code.drop k=nth p.code k::p.code.drop (k+1):=by rw [QeR hk];exact (List.drop_eq_getElem_cons hk)
 have h1:(QaB p).getD k false=((QaP (QbB p.regs.toNat p.outs) (p.code.drop k)).2).getD 0 false:=by
  rw[← QnA,QaB,List.getD_eq_getElem?_getD,List.getD_eq_getElem?_getD,List.getElem?_drop,Nat.add_zero]
 have h2:(QaB p).getD k false=(livA p (k+1)).getD (nth p.code k).to.toNat false:=by
  rw[h1,hd,QaP]
  show _=(QaP (QbB p.regs.toNat p.outs) (p.code.drop (k+1))).1.getD (nth p.code k).to.toNat false
  cases h:(QaP (QbB p.regs.toNat p.outs) (p.code.drop (k+1))).1.getD (nth p.code k).to.toNat false<;>simp
 refine⟨h2, ?_⟩
 rw[h2,livA,hd,QaP]
 split<;>rfl
section
variable {α:Type} {M:Sem α}
structure OrI (p:Pg) (m k:Nat) (R Q:List α) (W:Int→α):Prop where
 rlen:R.length=p.regs.toNat
 qlen:Q.length=m
 reg:∀ r:Nat,r<p.regs.toNat→(livA p k).getD r false=true→R.getD r M.d=W (Qbu (svP p) k r)
 val:∀ w ∈ Qbz (svP p) k,Q.getD (gP (svP p) k w).toNat M.d=W w
theorem Qza {p:Pg} (hp:PgOk p) {m:Nat} (hm:gR (svP p) 0≤m) {R0 Q0:List α} {z:α} (hR:R0.length=p.regs.toNat) (hQ:Q0.length=m) (hi:∀ r:Nat,r<p.ins→Q0.getD r M.d=R0.getD r M.d)
  (hz:∀ r:Nat,p.ins≤r→r<p.regs.toNat→R0.getD r M.d=z) (hz2:∀ r:Nat,p.ins≤r→r<m→Q0.getD r M.d=z) :
  OrI (M:=M) p m 0 R0 Q0 (fun w=>if w=-1000 then z else R0.getD (-1-w).toNat M.d):=by
 have e0:(svP p).ins=p.ins:=rfl
 have hs:=hp.ok.small
 have h0:=hp.ok.ins
 rw[e0] at hs h0
 refine⟨hR,hQ,fun r hr _=>?_,fun w hw=>?_⟩
 ·rw[Qbu,e0]
  by_cases h:(r:Int)<p.ins
  ·rw[if_pos h]
   show _=if (-1-(r:Int))=-1000 then z else R0.getD (-1-(-1-(r:Int))).toNat M.d
   rw[if_neg (by omega),show (-1-(-1-(r:Int))).toNat=r by omega]
  ·rw[if_neg h]
   show _=if (-1000:Int)=-1000 then z else _
   rw[if_pos rfl]
   exact hz r (by omega) hr
 ·have hlt:=QyT hp.ok 0 (Nat.zero_le _) hw
  rcases QaS.1 (QaA hw) with ⟨r,hr,rfl⟩ | rfl | ⟨j,hj,_⟩
  ·rw[QiK hp.ok.small hr,Int.toNat_natCast]
   rw[e0] at hr
   show _=if (-1-(r:Int))=-1000 then z else R0.getD (-1-(-1-(r:Int))).toNat M.d
   rw[if_neg (by omega),show (-1-(-1-(r:Int))).toNat=r by omega]
   exact hi r (by omega)
  ·rw[QfJ,e0] at hlt ⊢
   show _=if (-1000:Int)=-1000 then z else _
   rw[if_pos rfl]
   exact hz2 _ (by omega) (by omega)
  ·omega
theorem Q5H {p:Pg} (hp:PgOk p) {m k:Nat} (hk:k<p.code.length) (hm:gR (svP p) (k+1)≤m) {R Q R':List α} {W:Int→α} (h:OrI (M:=M) p m k R Q W) (hto:0≤(nth p.code k).to∧(nth p.code k).to<p.regs)
  (hs:Qbt M R (nth p.code k)=some R'):∃ Q' W',(if nd (svP p).need k=true then Qbt M Q (gI (svP p) k) else some Q)=some Q'∧OrI (M:=M) p m (k+1) R' Q' W':=by
 have hc:(svP p).code=p.code:=rfl
 have hcl:k<(svP p).code.length:=hk
 obtain⟨n1,n2⟩:=QE5 hk
 have hnd:nd (svP p).need k=(QaB p).getD k false:=rfl
 have hl:=Qzk p (k+1)
 have hton:(nth p.code k).to.toNat<p.regs.toNat:=by omega
 obtain⟨u,hu,rfl⟩:∃ u,M.f (nth p.code k).op (nth p.code k).c (R.getD (nth p.code k).a.toNat M.d) (R.getD (nth p.code k).b.toNat M.d)=some u∧R'=R.set (nth p.code k).to.toNat u:=by
  unfold Qbt at hs
  cases hf:M.f (nth p.code k).op (nth p.code k).c (R.getD (nth p.code k).a.toNat M.d) (R.getD (nth p.code k).b.toNat M.d) with
  | none=>rw [hf] at hs;cases hs
  | some u=>rw [hf] at hs;exact ⟨u,rfl,(Option.some.inj hs).symm⟩
 cases hn:nd (svP p).need k with
 | false =>
  rw[if_neg (by simp)]
  rw[← hnd,hn] at n1 n2
  rw[if_neg (by simp)] at n2
  refine⟨Q,W,rfl,by simp [h.rlen],h.qlen,fun r hr ha=>?_,fun w hw=>?_⟩
  ·have hne:r≠(nth p.code k).to.toNat:=fun e=>by rw [e,← n1] at ha;cases ha
   rw[Qci (by rw [h.rlen];exact hton),if_neg hne,Qbu,hn,if_neg (by simp)]
   exact h.reg r hr (by rw [n2];exact ha)
  ·rw[Qdy hcl hn] at hw
   rw[Qjm (by have:=QcS (QaA hw);omega)]
   exact h.val w hw
 | true =>
  rw[if_pos rfl]
  rw[← hnd,hn] at n1 n2
  rw[if_pos rfl] at n2
  have hnone:∀ r ∈ asks (nth p.code k),0≤r∧r<(p.regs.toNat:Int):=fun r hr=>hp.inn.asks k hcl hn r hr
  have live:∀ r ∈ asks (nth p.code k),(livA p k).getD r.toNat false=true:=fun r hr=>by
   have:=hnone r hr
   rw[n2,Qh9 _ _ _ (fun x hx=>(hnone x hx).1) (by rw [List.length_set,hl];omega),Bool.or_eq_true]
   right
   rw[List.any_eq_true]
   exact⟨r,hr,by simp;omega⟩
  have hask:∀ r ∈ asks (nth p.code k),Q.getD (gP (svP p) k (Qbu (svP p) k r)).toNat M.d=R.getD r.toNat M.d:=fun r hr=>by
   have h1:=hnone r hr
   rw[h.val _ (QdE hp.inn hcl hn hr),h.reg r.toNat (by omega) (live r hr),show ((r.toNat:Nat):Int)=r by omega]
  have hop:=hp.op.ops k hcl hn
  rw[hc] at hop
  have hfq:M.f (gI (svP p) k).op (gI (svP p) k).c (Q.getD (gI (svP p) k).a.toNat M.d) (Q.getD (gI (svP p) k).b.toNat M.d)=some u:=by
   rw[← hu]
   show M.f (nth p.code k).op (nth p.code k).c (Q.getD (gP (svP p) k (Qbu (svP p) k (nth p.code k).a)).toNat M.d) (Q.getD (if (nth p.code k).op=3∨(nth p.code k).op=4 then gP (svP p) k (Qbu (svP p) k (nth p.code k).b) else (nth p.code k).b).toNat M.d)=_
   by_cases h34:(nth p.code k).op=3∨(nth p.code k).op=4
   ·rw[if_pos h34,hask _ (by rw [Qdc h34];simp),hask _ (by rw [Qdc h34];simp)]
   ·rw[hask (nth p.code k).a (by rw [QgZ h34 hop];simp)]
    exact M.two _ _ _ _ _ (fun e=>h34 (.inl e)) (fun e=>h34 (.inr e))
  have hsq:Qbt M Q (gI (svP p) k)=some (Q.set (gP (svP p) (k+1) k).toNat u):=by
   unfold Qbt
   rw[hfq]
   rfl
  have hk1:(k:Int)<QaX (svP p) k:=hp.ok.use k hcl hn
  have hka:(k:Int) ∈ Qbz (svP p) (k+1):=by rw [Qd4 hn hk1];simp
  have hlt:=QyT hp.ok (k+1) hcl hka
  have hnn:=QcQ hp.ok (k+1) (QaA hka)
  have hql:(gP (svP p) (k+1) k).toNat<Q.length:=by rw [h.qlen];omega
  rw[hsq]
  refine⟨_,fun z=>if z=(k:Int) then u else W z,rfl,by simp [h.rlen],by simp [h.qlen],fun r hr ha=>?_,fun w hw=>?_⟩
  ·rw[Qci (by rw [h.rlen];exact hton),Qbu,hn]
   show _=if (if true=true∧(nth p.code k).to=(r:Int) then (k:Int) else Qbu (svP p) k r)=(k:Int) then u else W (if true=true∧(nth p.code k).to=(r:Int) then (k:Int) else Qbu (svP p) k r)
   by_cases e:(nth p.code k).to=(r:Int)
   ·have e2:r=(nth p.code k).to.toNat:=by omega
    rw[if_pos e2,if_pos (show true=true∧(nth p.code k).to=(r:Int) from ⟨rfl,e⟩),if_pos rfl]
   ·have e2:¬ r=(nth p.code k).to.toNat:=by omega
    have hh:=QcS (QdX (S:=svP p) (r:=(r:Int)) (by omega) k)
    rw[if_neg e2,if_neg (show ¬ (true=true∧(nth p.code k).to=(r:Int)) from fun x=>e x.2),if_neg (by omega)]
    refine h.reg r hr ?_
    rw[n2,Qh9 _ _ _ (fun x hx=>(hnone x hx).1) (by rw [List.length_set,hl];exact hr),Bool.or_eq_true]
    left
    rw[List.getD_eq_getElem?_getD,List.getElem?_set,if_neg (fun x=>e2 x.symm),← List.getD_eq_getElem?_getD]
    exact ha
  ·rw[Qd4 hn hk1,List.mem_append,List.mem_singleton] at hw
   show _=if w=(k:Int) then u else W w
   rcases hw with hw | rfl
   ·have hwk:=QcS (QaA (Qbl hw))
    have hg0:=QcQ hp.ok k (QaA (Qbl hw))
    rw[Qjm (show w≠(k:Int) by omega),Qci hql,if_neg,if_neg (by omega)]
    ·exact h.val w (Qbl hw)
    ·intro e
     rw[QwG hn] at e
     refine QyM ((QgF (svP p) k).map (gP (svP p) k)) (List.mem_map.2 ⟨w,hw, ?_⟩)
     omega
   ·rw[Qci hql,if_pos rfl,if_pos rfl]
theorem Qt3 {p:Pg} (hr:Qax p=true) {m:Nat} (hm:gR (svP p) p.code.length≤m) {R0 Q0:List α} {W0:Int→α} (h0:OrI (M:=M) p m 0 R0 Q0 W0):∀ k,k≤p.code.length→∀ R,runE M (p.code.take k) R0=some R →
  ∃ Q W,runE M (gC (svP p) k) Q0=some Q∧OrI (M:=M) p m k R Q W
 | 0,_,R,hR=>by
  obtain rfl:=Option.some.inj (show some R0=some R from hR)
  exact⟨Q0,W0,rfl,h0⟩
 | k+1,hk,R,hR=>by
  have hp:=pgOk hr
  have hlt:k<p.code.length:=hk
  rw[List.take_succ_eq_append_getElem hlt,Qc5] at hR
  cases hR1:runE M (p.code.take k) R0 with
  | none=>rw [hR1] at hR;cases hR
  | some R1 =>
   rw[hR1] at hR
   obtain⟨Q,W,hQ,h⟩:=Qt3 hr hm h0 k (by omega) R1 hR1
   have hmm:=QhY (S:=svP p) (j:=k+1) p.code.length hk
   have hto:0≤(nth p.code k).to∧(nth p.code k).to<p.regs:=by
    simp only[Qax,QfT,Bool.and_eq_true,List.all_eq_true] at hr
    rw[QeR hlt]
    exact(QaO (hr.2 _ (List.getElem_mem hlt))).2.1
   obtain⟨Q',W',hq,hi⟩:=Q5H hp hlt (by omega) h hto (by rw [QeR hlt];exact hR)
   refine⟨Q',W', ?_,hi⟩
   rw[gC]
   split
   ·rename_i hn
    rw[if_pos hn] at hq
    rw[Qc5,hQ]
    exact hq
   ·rename_i hn
    rw[if_neg hn] at hq
    obtain rfl:=Option.some.inj hq
    exact hQ
theorem Q4Q {p:Pg} (hr:Qax p=true) {R0 Q0:List α} {z:α} (hR:R0.length=p.regs.toNat) (hQ:Q0.length=(Qbo p).regs.toNat) (hi:∀ r:Nat,r<p.ins→Q0.getD r M.d=R0.getD r M.d)
  (hz:∀ r:Nat,p.ins≤r→r<p.regs.toNat→R0.getD r M.d=z) (hz2:∀ r:Nat,p.ins≤r→r<(Qbo p).regs.toNat→Q0.getD r M.d=z) {R:List α} (hrun:runE M p.code R0=some R) :
  ∃ Q,runE M (Qbo p).code Q0=some Q∧(Qbo p).outs.map (fun r=>Q.getD r.toNat M.d)=p.outs.map (fun r=>R.getD r.toNat M.d):=by
 have hp:=pgOk hr
 rw[QjM hp] at hQ hz2 ⊢
 have hm:gR (svP p) p.code.length≤((Qn2 (svP p)).regs.toNat:Int):=by
  show gR (svP p) p.code.length≤((gR (svP p) p.code.length).toNat:Int)
  omega
 have hm0:=QhY (S:=svP p) (j:=0) p.code.length (Nat.zero_le _)
 have h0:=Qza (M:=M) hp (by omega) hR hQ hi hz hz2
 obtain⟨Q,W,hQ2,h⟩:=Qt3 hr hm h0 p.code.length (Nat.le_refl _) R (by rw [List.take_of_length_le (Nat.le_refl _)];exact hrun)
 refine⟨Q,hQ2, ?_⟩
 show (QyJ (svP p)).map _=_
 unfold QyJ
 rw[List.map_map]
 refine List.map_congr_left fun r hro=>?_
 have hb:=hp.inn.outs r hro
 show Q.getD (gP (svP p) p.code.length (Qbu (svP p) p.code.length r)).toNat M.d=_
 rw[h.val _ (show Qbu (svP p) p.code.length r ∈ Qbz (svP p) p.code.length from Qmk hp.inn hro),h.reg r.toNat (by omega) ?_,show ((r.toNat:Nat):Int)=r by omega]
 show (QaP (QbB p.regs.toNat p.outs) (p.code.drop p.code.length)).1.getD r.toNat false=true
 rw[List.drop_length]
 show (QbB p.regs.toNat p.outs).getD r.toNat false=true
 rw[Qqg (outs:=p.outs) (fun x hx=>hp.inn.outs x hx) hb.1 hb.2,List.any_eq_true]
 exact⟨r,hro,by simp⟩
end
end Go.Proofs.Sw
