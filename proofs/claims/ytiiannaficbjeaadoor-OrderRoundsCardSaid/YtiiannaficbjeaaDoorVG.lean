/- A part of the proof: what functions of the program answer; conditions stand in each theorem. -/
import Derived.Test.YtiiannaficbjeaaDoorAbSim
import Derived.Test.YtiiannaficbjeaaDoorVA
set_option linter.unusedVariables false
set_option linter.unusedSimpArgs false
set_option linter.unusedSectionVars false
namespace Go.Proofs.Sw
def vd:List Nat→Nat
 | []=>0
 | d::l=>d+65536 * vd l
def okD (l:List Nat):Prop:=∀ d ∈ l,d<65536
theorem QrI:okD []:=fun _ h=>by cases h
theorem Qe9 {d:Nat} {l:List Nat}:okD (d::l)↔d<65536∧okD l:=by
 constructor
 ·intro h;exact ⟨h d (by simp),fun x hx=>h x (by simp [hx])⟩
 ·rintro⟨h1,h2⟩ x hx
  rcases List.mem_cons.1 hx with rfl | hx
  ·exact h1
  ·exact h2 x hx
theorem Q5A {a b:List Nat}:okD (a++b)↔okD a∧okD b:=by
 constructor
 ·intro h;exact ⟨fun x hx=>h x (by simp [hx]),fun x hx=>h x (by simp [hx])⟩
 ·rintro⟨h1,h2⟩ x hx
  rcases List.mem_append.1 hx with hx | hx
  ·exact h1 x hx
  ·exact h2 x hx
theorem Qla:∀ (a b:List Nat),vd (a++b)=vd a+65536 ^ a.length * vd b
 | [],b=>by simp [vd]
 | d::a,b=>by
  rw[List.cons_append,vd,vd,Qla a b,List.length_cons,Nat.pow_succ,Nat.mul_add]
  rw[show 65536 * (65536 ^ a.length * vd b)=65536 ^ a.length * 65536 * vd b by rw [Nat.mul_comm (65536 ^ a.length) 65536,Nat.mul_assoc]]
  omega
theorem QmJ:∀ {l:List Nat},okD l→vd l<65536 ^ l.length
 | [],_=>by simp [vd]
 | d::l,h=>by
  obtain⟨h1,h2⟩:=Qe9.1 h
  have:=QmJ h2
  rw[vd,List.length_cons,Nat.pow_succ]
  have h3:65536 * (vd l+1)≤65536 * 65536 ^ l.length:=Nat.mul_le_mul_left _ this
  rw[Nat.mul_comm (65536 ^ l.length) 65536]
  omega
theorem Qfw (a:List Nat) (x:Nat):vd (a++[x])=vd a+65536 ^ a.length * x:=by
 rw[Qla];simp [vd]
def Qa6:List Nat→List Nat
 | []=>[]
 | d::l=>if Qa6 l=[]∧d=0 then [] else d::Qa6 l
theorem Qe5:∀ l,vd (Qa6 l)=vd l
 | []=>rfl
 | d::l=>by
  have ih:=Qe5 l
  rw[Qa6]
  split
  ·rename_i h
   rw[h.1] at ih
   simp only[vd] at ih ⊢
   omega
  ·rw[vd,vd,ih]
theorem QbA:∀ l,Qa6 l=l.take (Qa6 l).length
 | []=>rfl
 | d::l=>by
  have ih:=QbA l
  rw[Qa6]
  split
  ·rfl
  ·rw[List.length_cons,List.take_succ_cons,← ih]
theorem QbQ (l:List Nat):(Qa6 l).length≤l.length:=by
 rw[QbA l];simp;omega
theorem QDA {l:List Nat} (h:okD l):okD (Qa6 l):=by
 rw[QbA l];exact fun d hd=>h d (List.mem_of_mem_take hd)
theorem QgL:∀ {l:List Nat} {i:Nat},(Qa6 l).length≤i→i<l.length→l.getD i 0=0
 | [],i,_,h=>by simp at h
 | d::l,i,h1,h2=>by
  rw[Qa6] at h1
  split at h1
  ·rename_i h
   cases i with
   | zero=>simpa using h.2
   | succ i =>
    have:=QgL (l:=l) (i:=i) (by rw [h.1];simp) (by simpa using h2)
    simpa using this
  ·cases i with
   | zero=>simp at h1
   | succ i =>
    have:=QgL (l:=l) (i:=i) (by simpa using h1) (by simpa using h2)
    simpa using this
theorem QkX:∀ {l:List Nat},Qa6 l≠[]→(Qa6 l).getD ((Qa6 l).length-1) 0≠0
 | [],h=>absurd rfl h
 | d::l,h=>by
  rw[Qa6] at h ⊢
  split at h
  ·exact absurd rfl h
  ·rename_i hc
   rw[if_neg hc]
   by_cases hl:Qa6 l=[]
   ·rw[hl]
    simpa using fun e=>hc ⟨hl,e⟩
   ·have ih:=QkX hl
    have hp:0<(Qa6 l).length:=List.length_pos_iff.2 hl
    obtain⟨m,hm⟩:∃ m,(Qa6 l).length=m+1:=⟨(Qa6 l).length-1,by omega⟩
    rw[List.length_cons,hm]
    rw[hm] at ih
    simpa using ih
theorem Qkg:∀ (l:List Nat),Qa6 (l++[0])=Qa6 l
 | []=>rfl
 | d::l=>by rw [List.cons_append,Qa6,Qa6,Qkg l]
theorem Q92 (l:List Nat):Qa6 (Qa6 l)=Qa6 l:=by
 induction l with
 | nil=>rfl
 | cons d l ih =>
  rw[Qa6]
  split
  ·rfl
  ·rename_i h
   rw[Qa6,ih,if_neg h]
structure Can (l:List Nat):Prop where
 ok:okD l
 tr:Qa6 l=l
theorem Q0w {l:List Nat} (h:okD l):Can (Qa6 l):=⟨QDA h,Q92 l⟩
theorem Qk1:Can []:=⟨QrI,rfl⟩
theorem QqY {d:Nat} {l:List Nat} (h:Can (d::l)):Can l:=by
 refine⟨(Qe9.1 h.ok).2, ?_⟩
 have:=h.tr
 rw[Qa6] at this
 split at this
 ·cases this
 ·exact(List.cons.inj this).2
theorem Q11 {l:List Nat} (h:Can l) (h0:vd l=0):l=[]:=by
 induction l with
 | nil=>rfl
 | cons d l ih =>
  rw[vd] at h0
  have hl:=ih (QqY h) (by omega)
  have:=h.tr
  rw[Qa6,hl,if_pos ⟨rfl,by omega⟩] at this
  cases this
theorem Qzp:∀ {a b:List Nat},Can a→Can b→vd a=vd b→a=b
 | [],b,_,hb,h=>(Q11 hb h.symm).symm
 | x::a,[],ha,_,h=>Q11 ha h
 | x::a,y::b,ha,hb,h=>by
  have h1:=(Qe9.1 ha.ok).1
  have h2:=(Qe9.1 hb.ok).1
  rw[vd,vd] at h
  have e1:x=y:=by omega
  have e2:vd a=vd b:=by omega
  rw[e1,Qzp (QqY ha) (QqY hb) e2]
def digF:Nat→Nat→List Nat
 | 0,_=>[]
 | f+1,n=>if n=0 then [] else n % 65536::digF f (n / 65536)
def dig (n:Nat):List Nat:=digF n n
theorem Qm5:∀ (f n:Nat),n≤f→vd (digF f n)=n∧Can (digF f n)
 | 0,n,h=>by
  have:n=0:=by omega
  subst this
  exact⟨rfl,Qk1⟩
 | f+1,n,h=>by
  rw[digF]
  split
  ·rename_i h0;subst h0;exact ⟨rfl,Qk1⟩
  ·rename_i h0
   obtain⟨h1,h2⟩:=Qm5 f (n / 65536) (by omega)
   refine⟨by rw [vd,h1];omega,Qe9.2 ⟨by omega,h2.ok⟩, ?_⟩
   rw[Qa6,h2.tr,if_neg]
   rintro⟨h3,h4⟩
   rw[h3] at h1
   simp only[vd] at h1
   omega
theorem Qb3 (n:Nat):vd (dig n)=n:=(Qm5 n n (Nat.le_refl _)).1
theorem QaF (n:Nat):Can (dig n):=(Qm5 n n (Nat.le_refl _)).2
theorem Ql5 {l:List Nat} (h:okD l):Qa6 l=dig (vd l):=Qzp (Q0w h) (QaF _) (by rw [Qe5,Qb3])
theorem QBh:dig 0=[]:=rfl
theorem QlS {n:Nat} (h:0<n):dig n≠[]:=fun e=>by
 have:=Qb3 n
 rw[e] at this
 simp only[vd] at this
 omega
theorem QyQ {n:Nat}:dig n=[]↔n=0:=by
 constructor
 ·intro h
  by_cases h0:n=0
  ·exact h0
  ·exact absurd h (QlS (by omega))
 ·rintro rfl;rfl
theorem Qfd {n k:Nat} (h:n<65536 ^ k):(dig n).length≤k:=by
 by_cases hk:(dig n).length≤k
 ·exact hk
 ·exfalso
  have hc:=QaF n
  have hv:=Qb3 n
  obtain⟨l,x,hx⟩:∃ l x,dig n=l++[x]:=by
   have hne:dig n≠[]:=fun e=>by rw [e] at hk;simp at hk
   exact⟨(dig n).dropLast,(dig n).getLast hne,(List.dropLast_concat_getLast hne).symm⟩
  have hx0:x≠0:=fun e=>by
   subst e
   have:=hc.tr
   rw[hx,Qkg] at this
   have h2:=QbQ l
   have h3:=congrArg List.length this
   simp at h3
   omega
  rw[hx] at hv hk
  rw[Qfw] at hv
  rw[List.length_append] at hk
  simp only[List.length_cons,List.length_nil] at hk
  have h1:65536 ^ k≤65536 ^ l.length:=Nat.pow_le_pow_right (by omega) (by omega)
  have h2:65536 ^ l.length * 1≤65536 ^ l.length * x:=Nat.mul_le_mul_left _ (by omega)
  omega
theorem Q1S {n:Nat} (h:0<n):dig n=n % 65536::dig (n / 65536):=by
 refine Qzp (QaF _) ⟨Qe9.2 ⟨by omega,(QaF _).ok⟩, ?_⟩ ?_
 ·rw[Qa6,(QaF _).tr,if_neg]
  rintro⟨h1,h2⟩
  have:=QyQ.1 h1
  omega
 ·rw[Qb3,vd,Qb3];omega
def uS (u:Nat):Nat→Nat
 | 0=>u
 | i+1=>uS u i / 65536
theorem QjA (u:Nat):∀ i,(dig u).drop i=dig (uS u i)
 | 0=>rfl
 | i+1=>by
  have ih:=QjA u i
  rw[← List.drop_drop,ih,uS]
  by_cases h:0<uS u i
  ·rw[Q1S h];rfl
  ·rw[show uS u i=0 by omega];rfl
theorem QCV {u i:Nat} (h:i<(dig u).length):0<uS u i:=by
 have:=QjA u i
 by_cases h0:0<uS u i
 ·exact h0
 ·exfalso
  rw[show uS u i=0 by omega,QBh] at this
  have:=congrArg List.length this
  simp at this
  omega
theorem QFz (u:Nat):uS u (dig u).length=0:=by
 have:=QjA u (dig u).length
 rw[List.drop_length] at this
 exact QyQ.1 this.symm
theorem QAV {u i:Nat} (h:i<(dig u).length):(dig u).take (i+1)=(dig u).take i++[uS u i % 65536]:=by
 have h1:=QjA u i
 rw[Q1S (QCV h)] at h1
 have h2:(dig u)[i]?=some (uS u i % 65536):=by
  have:=congrArg (·[0]?) h1
  simpa [List.getElem?_drop] using this
 rw[List.take_add_one,h2];rfl
theorem QEG (u:Nat):∀ i,uS u i≤u
 | 0=>Nat.le_refl _
 | i+1=>by have:=QEG u i;rw [uS];omega
end Go.Proofs.Sw
namespace Go.Ab
variable [Globals]
theorem QlE {H:Heap}:∀ {cs:List AV},cs.all AV.scalar0=true→∃ l,frzs H cs=some (l,H)∧l.map AV.c=cs
 | [],_=>⟨[],rfl,rfl⟩
 | x::cs,h=>by
  rw[List.all_cons,Bool.and_eq_true] at h
  obtain⟨l,h1,h2⟩:=QlE (H:=H) h.2
  cases x with
  | c x=>exact ⟨x::l,by rw [frzs,frz,Option.bind_some];simp only [h1,Option.bind_some],by rw [List.map_cons,h2]⟩
  | _=>cases h.1
theorem Qg5 {H:Heap} {x:AV} (h:x.scalar1=true):frzV H x=some (x,H):=by
 cases x with
 | c x=>rfl
 | agg cs =>
  obtain⟨l,h1,h2⟩:=QlE (H:=H) (cs:=cs) h
  rw[QjJ,h1,Option.map_some,h2]
 | _=>cases h
theorem Qh4 {H:Heap}:∀ {cs:List AV},cs.all AV.scalar1=true→Qbi H cs=some (cs,H)
 | [],_=>rfl
 | x::cs,h=>by
  rw[List.all_cons,Bool.and_eq_true] at h
  rw[Qbi,Qg5 h.1,Option.bind_some]
  simp only[Qh4 (H:=H) h.2,Option.bind_some]
theorem QyN {H:Heap} {x:AV} (h:x.scalar=true):frzR H x=some (x,H):=by
 cases x with
 | tup vs=>rw [frzR,Qh4 h];rfl
 | c x=>exact Qg5 (x:=.c x) h
 | agg cs=>exact Qg5 (x:=.agg cs) h
 | _=>cases h
theorem Q5q {P:Program} {tab:Tab} {kf f r i:Nat} {ar:Option Nat} {g:FuncId} {args bs:List AV} {H H1:Heap} {v:AV} (hf:inB tab.frames g=false) (hk:Qat tab.keeps f r i=false) (ha:args.all AV.pure=false) (hz:Qbi H args=some (bs,H1)) (hv:ans (Qav P (Qac tab) kf (.fn g) bs [])=some v) :
  Qih (cxG P (Qac tab) kf f ar) r i g args H=some (v,H)∨Qih (cxG P (Qac tab) kf f ar) r i g args H=some (v,H1):=by
 unfold Qih QbP QdV
 rw[if_neg (by rw [show (cxG P (Qac tab) kf f ar).hints.framed g=false from hf];simp),if_neg (by rw [show (cxG P (Qac tab) kf f ar).hints.raw (cxG P (Qac tab) kf f ar).fn r i=false from Qlh hk];simp),if_neg (by rw [show (cxG P (Qac tab) kf f ar).hints.keep (cxG P (Qac tab) kf f ar).fn r i=false from hk];simp),if_neg (by rw [ha];simp),hz]
 simp only[Option.bind_some]
 rw[show (cxG P (Qac tab) kf f ar).call g bs []=Qav P (Qac tab) kf (.fn g) bs [] from rfl]
 cases he:Qav P (Qac tab) kf (.fn g) bs [] with
 | none=>rw [he] at hv;cases hv
 | some q =>
  rw[he] at hv
  simp only[Option.bind_some]
  by_cases hs:q.1.scalar=true
  ·rw[if_pos hs]
   have h1:(frzR q.2 q.1).map (fun s=>s.1)=some v:=hv
   rw[QyN hs] at h1
   injection h1 with h1
   simp only at h1
   rw[h1]
   exact .inl rfl
  ·rw[if_neg hs]
   have h1:(frzR q.2 q.1).map (fun s=>s.1)=some v:=hv
   obtain⟨s,h2,h3⟩:=Option.map_eq_some_iff.1 h1
   rw[h2]
   refine .inr ?_
   rw[Option.map_some,h3]
end Go.Ab
namespace Go.Proofs.Sw
open Go.Ab
variable [Globals]
def encD (l:List Nat):List IV:=l.map fun (d:Nat)=>.int .u32 (d:Int)
abbrev sD (l:List Nat) (nl:Bool) (cap:Option Nat):AV:=.c (.slice (encD l) l.length nl cap)
abbrev rD (l:List Nat):AObj:=.row false 117 (encD l)
theorem Qa8 (l:List Nat):(encD l).length=l.length:=by simp [encD]
theorem Qby {l:List Nat} {i:Nat} (h:i<l.length):(encD l)[i]?=some (.int .u32 (l.getD i 0:Nat)):=by
 simp[encD,h]
theorem QyE (a b:List Nat):encD (a++b)=encD a++encD b:=by simp [encD]
theorem Qfb (l:List Nat) (n:Nat):(encD l).take n=encD (l.take n):=by simp [encD,List.map_take]
theorem Qe6 {l:List Nat} {i:Nat} {d:Nat}:(encD l).set i (.int .u32 (d:Int))=encD (l.set i d):=by simp [encD,List.map_set]
theorem QaW {l:List Nat} (h:okD l) (i:Nat):l.getD i 0<65536:=by
 by_cases hi:i<l.length
 ·rw[List.getD_eq_getElem?_getD,List.getElem?_eq_getElem hi]
  exact h _ (List.getElem_mem hi)
 ·rw[List.getD_eq_getElem?_getD,List.getElem?_eq_none (by omega)];simp
theorem wrap32 {n:Int} (h0:0≤n) (h:n<4294967296):IntKind.wrap .u32 n=n:=by
 have e:IntKind.wrap .u32 n=n % 4294967296:=rfl
 rw[e]
 exact Int.emod_eq_of_lt h0 h
theorem QhB {n:Int} (h0:0≤n) (h:n<18446744073709551616):IntKind.wrap .u64 n=n:=by
 have e:IntKind.wrap .u64 n=n % 18446744073709551616:=rfl
 rw[e]
 exact Int.emod_eq_of_lt h0 h
theorem QFS {H:Heap} {d:List Nat} {nl:Bool} {cap:Option Nat} {n:Nat} (hn:n≤d.length):QeM H 1 (sD d nl cap) none (some (ii n))=some (sD (d.take n) nl cap):=by
 have h1:(d.take n).length=n:=by rw [List.length_take];omega
 rw[sD,sD,h1,← Qfb]
 simp only[QeM,Qcp]
 simp[hn,Qa8]
theorem Qiz (a:Nat):((a:Nat):Int).tmod 65536=((a % 65536:Nat):Int):=rfl
theorem Qj0 (a:Nat):((a:Nat):Int).tdiv 65536=((a / 65536:Nat):Int):=rfl
theorem wr32 {n:Nat} (h:n<4294967296):IntKind.wrap .u32 ((n:Nat):Int)=((n:Nat):Int):=wrap32 (by omega) (by omega)
theorem wr64 {n:Nat} (h:n<18446744073709551616):IntKind.wrap .u64 ((n:Nat):Int)=((n:Nat):Int):=QhB (by omega) (by omega)
theorem hapD {l:List Nat} {X:Heap} {x:IV} (hb:l.length≤1000000) {i:Nat} (hi:l.length=i) :
  apO 117 1 4 (some 0) (lv 0 1 i) (lo 117 i (encD l)::X) (some ([x],1))=some (lv 0 1 (i+1),lo 117 (i+1) (encD l++[x])::X):=by
 subst hi
 exact QcN (e:=117) (n:=l.length) (sz:=1) (by_:=4) (cells:=encD l) (cs:=[x]) (X:=X) (Nat.le_trans (Nat.mul_le_mul_right 4 (show l.length+1≤1000001 by omega)) (by decide)) (by decide) (by rw [Qa8,Nat.mul_one])
theorem Q8M (kf:Nat) (neg:Bool) (d:List Nat) (nl:Bool) (cap:Option Nat) (hl:d.length≤1000000) (o0:AObj) (ho0:AObj.under 1 o0=true) (k:Nat) (l:Ass) (z:Option Out) (hz:Qar Tryd.prog tab kf none QlB 59 29 [0,1,4,5] 1 k l ([o0])=z) (hk:d.length-(Qa6 d).length<k) (a0:asc l 0=bb neg) (a1:asc l 1=sD d nl cap) (a4:asc l 4=.ptr 0 0) (a5:asc l 5=ii ((d.length-0:Nat):Int)) :
  ∃ l',z=some (.exit 0 (fr 29 l') [o0])∧asc l' 0=bb neg∧asc l' 1=sD d nl cap∧asc l' 4=.ptr 0 0∧asc l' 5=ii (Qa6 d).length:=by
 subst hz
 refine Qa1 (d.length-(Qa6 d).length) (fun k l H=>Qar Tryd.prog tab kf none QlB 59 29 [0,1,4,5] 1 k l H)
  (fun i l H=>asc l 0=bb neg∧asc l 1=sD d nl cap∧asc l 4=.ptr 0 0∧asc l 5=ii ((d.length-i:Nat):Int)∧∃ G,H=([o0])++G)
  (fun z=>∃ l',z=some (.exit 0 (fr 29 l') [o0])∧asc l' 0=bb neg∧asc l' 1=sD d nl cap∧asc l' 4=.ptr 0 0∧asc l' 5=ii (Qa6 d).length) ?_ (d.length-(Qa6 d).length) 0 k l _ (by omega) hk ⟨a0,a1,a4,a5,[],by rw [List.append_nil]⟩
 clear hk a0 a1 a4 a5
 rintro i k l H hi ⟨a0,a1,a4,a5,G,rfl⟩
 have ht:trim 1 (fr 29 (keep l [0,1,4,5])) (([o0])++G)=([o0]):=Qa4 (by simp) (by simp only [a0,a1,a4,a5,ho0,EVb,EVc,seval]) (by simp only [ho0,EVb,EVc,seval])
 by_cases hc:i<(d.length-(Qa6 d).length)
 ·have hc':(i:Int)<((d.length-(Qa6 d).length:Nat):Int):=by omega
  have hc0:(0:Int)≤i:=by omega
  have hw:IntKind.wrap .i64 ((i:Int)+1)=((i+1:Nat):Int):=by rw [wrap64 (by omega) (by omega)];omega
  have htl:=QbQ d
  obtain⟨j,hj⟩:∃ j,d.length-i=j+1:=⟨d.length-i-1,by omega⟩
  have e1:d.length-(i+1)=j:=by omega
  have hz:=QgL (l:=d) (i:=j) (by omega) (by omega)
  have hx:=Qby (l:=d) (i:=j) (by omega)
  rw[hz] at hx
  rw[hj] at a5
  rw[e1]
  have hp1:(0:Int)<((j+1:Nat):Int):=by omega
  have hw1:IntKind.wrap .i64 (((j+1:Nat):Int)-1)=(j:Int):=by rw [wrap64 (by omega) (by omega)];omega
  have hj0:(0:Int)≤j:=by omega
  have hj1:(j:Int)<d.length:=by omega
  simp only[Qaa,ht]
  simp only[a0,a1,a4,a5,hc',hc0,hw,hx,hp1,hw1,hj0,hj1,Qaa,Qag,Qae,Qab,LP,Tryd.f59,FT,seval]
  exact .inr ⟨_,_,hc,rfl,(by rfl),(by rfl),(by rfl),(by rfl),⟨[],by rfl⟩⟩
 ·refine .inl ?_
  obtain rfl:i=(d.length-(Qa6 d).length):=by omega
  have hc':¬ ((((d.length-(Qa6 d).length):Nat):Int)<(((d.length-(Qa6 d).length):Nat):Int)):=by omega
  have htl:=QbQ d
  have e1:d.length-(d.length-(Qa6 d).length)=(Qa6 d).length:=by omega
  rw[e1] at a5
  by_cases h0:(Qa6 d).length=0
  ·rw[h0] at a5 ⊢
   simp only[Qaa,ht]
   simp only[a0,a1,a4,a5,Qaa,Qag,Qae,Qab,LP,Tryd.f59,FT,seval]
   exact⟨_,rfl,(by rfl),(by rfl),(by rfl),(by rfl)⟩
  ·obtain⟨j,hj⟩:∃ j,(Qa6 d).length=j+1:=⟨(Qa6 d).length-1,by omega⟩
   have hlast:=QkX (l:=d) (fun e=>h0 (by rw [e];rfl))
   have hx:=Qby (l:=d) (i:=j) (by omega)
   have hg:d.getD j 0=(Qa6 d).getD j 0:=by
    rw[QbA d,List.getD_eq_getElem?_getD,List.getD_eq_getElem?_getD,List.getElem?_take,if_pos (by omega)]
   rw[hj,show j+1-1=j by omega,← hg] at hlast
   obtain⟨y,hy⟩:∃ y,y=d.getD j 0:=⟨_,rfl⟩
   rw[← hy] at hlast hx
   have hne:¬ (y:Int)=0:=by omega
   rw[hj] at a5 ⊢
   have hp1:(0:Int)<((j+1:Nat):Int):=by omega
   have hw1:IntKind.wrap .i64 (((j+1:Nat):Int)-1)=(j:Int):=by rw [wrap64 (by omega) (by omega)];omega
   have hj0:(0:Int)≤j:=by omega
   have hj1:(j:Int)<d.length:=by omega
   simp only[Qaa,ht]
   simp only[a0,a1,a4,a5,hx,hp1,hw1,hj0,hj1,hne,Qaa,Qag,Qae,Qab,LP,Tryd.f59,FT,seval]
   exact⟨_,rfl,(by rfl),(by rfl),(by rfl),(by rfl)⟩
theorem QD1 (k:Nat) (neg:Bool) (d:List Nat) (nl:Bool) (cap:Option Nat) (hl:d.length≤1000000) (hk:d.length<k):run (k+1) 59 [bb neg,sD d nl cap]=some (.agg [bb (neg&&decide (0<(Qa6 d).length)),sD (Qa6 d) nl cap]):=by
 have htl:=QbQ d
 have htk:=QbA d
 rw[run,ev59,Qaq]
 simp only[Tryd.f59,bb,FT,seval]
 rw[Qai QlB QCc];rotate_left;rfl;rfl;rfl
 generalize hz:Qar _ _ _ _ _ _ _ _ _ _ _ _=z
 obtain⟨l',rfl,e0,e1,e4,e5⟩:=Q8M k neg d nl cap hl _ (by rfl) _ _ z hz (by omega) (by rfl) (by rfl) (by rfl) (by rfl)
 clear hz
 have h0:(0:Int)≤(Qa6 d).length:=by omega
 have h1:((Qa6 d).length:Int)≤d.length:=by omega
 have hsl:=fun H=>QFS (H:=H) (d:=d) (nl:=nl) (cap:=cap) htl
 rw[← htk] at hsl
 cases neg with
 | true =>
  by_cases hp:0<(Qa6 d).length
  ·have hp':(0:Int)<(Qa6 d).length:=by omega
   simp only[e0,e1,e4,e5,hsl,hp,hp',FT,seval]
  ·have hp':¬ (0:Int)<(Qa6 d).length:=by omega
   simp only[e0,e1,e4,e5,hsl,hp,hp',FT,seval]
 | false =>
  simp only[e0,e1,e4,e5,hsl,FT,seval]
theorem Q8k (kf:Nat) (nn:IV) (u:Nat) (hu:u<18446744073709551616) (hlen:(dig u).length≤10) (o1:AObj) (ho1:AObj.under 2 o1=true) (k:Nat) (l:Ass) (z:Option Out) (hz:Qar Tryd.prog tab kf none QpC 28 25 [0,2,3,4] 2 k l ([lo 117 0 (encD ((dig u).take 0)),o1])=z) (hk:(dig u).length<k) (a0:asc l 0=.c nn) (a2:asc l 2=.ptr 1 0) (a3:asc l 3=.c (.int .u64 (uS u 0:Nat))) (a4:asc l 4=lv 0 1 0) :
  ∃ l',z=some (.exit 0 (fr 25 l') ([lo 117 ((dig u).length) (encD ((dig u).take ((dig u).length))),o1]))∧asc l' 0=.c nn∧asc l' 2=.ptr 1 0∧asc l' 3=.c (.int .u64 (uS u ((dig u).length):Nat))∧asc l' 4=lv 0 1 ((dig u).length):=by
 subst hz
 refine Qa1 ((dig u).length) (fun k l H=>Qar Tryd.prog tab kf none QpC 28 25 [0,2,3,4] 2 k l H)
  (fun i l H=>asc l 0=.c nn∧asc l 2=.ptr 1 0∧asc l 3=.c (.int .u64 (uS u i:Nat))∧asc l 4=lv 0 1 i∧∃ G,H=([lo 117 i (encD ((dig u).take i)),o1])++G)
  (fun z=>∃ l',z=some (.exit 0 (fr 25 l') ([lo 117 ((dig u).length) (encD ((dig u).take ((dig u).length))),o1]))∧asc l' 0=.c nn∧asc l' 2=.ptr 1 0∧asc l' 3=.c (.int .u64 (uS u ((dig u).length):Nat))∧asc l' 4=lv 0 1 ((dig u).length)) ?_ ((dig u).length) 0 k l _ (by omega) hk ⟨a0,a2,a3,a4,[],by rw [List.append_nil]⟩
 clear hk a0 a2 a3 a4
 rintro i k l H hi ⟨a0,a2,a3,a4,G,rfl⟩
 have ht:trim 2 (fr 25 (keep l [0,2,3,4])) (([lo 117 i (encD ((dig u).take i)),o1])++G)=([lo 117 i (encD ((dig u).take i)),o1]):=Qa4 (by simp) (by simp only [a0,a2,a3,a4,ho1,EVb,EVc,seval]) (by simp only [ho1,EVb,EVc,seval])
 by_cases hc:i<((dig u).length)
 ·have hc':(i:Int)<(((dig u).length:Nat):Int):=by omega
  have hc0:(0:Int)≤i:=by omega
  have hw:IntKind.wrap .i64 ((i:Int)+1)=((i+1:Nat):Int):=by rw [wrap64 (by omega) (by omega)];omega
  have hp:=QCV hc
  have hp1:(0:Int)<((uS u i:Nat):Int):=by omega
  have hle:=QEG u i
  have htk:=QAV hc
  have hus:uS u (i+1)=uS u i / 65536:=rfl
  obtain⟨x,hx⟩:∃ x,x=uS u i:=⟨_,rfl⟩
  rw[← hx] at hp1 hle htk hus a3 hp
  rw[hus,htk]
  have hr1:=Qiz x
  have hr2:=Qj0 x
  have hr3:=wr32 (n:=x % 65536) (by omega)
  have hr4:=wr64 (n:=x / 65536) (by omega)
  have hti:((dig u).take i).length=i:=by rw [List.length_take];omega
  have hap:=fun X y=>hapD (l:=(dig u).take i) (X:=X) (x:=y) (by omega) hti
  simp only[Qaa,ht]
  simp only[a0,a2,a3,a4,hc',hc0,hw,hp1,hr1,hr2,hr3,hr4,hap,Qaa,Qag,Qae,Qab,LP,Tryd.f28,FT,seval]
  refine .inr ⟨_,_,hc,rfl,(by rfl),(by rfl),(by rfl),(by rfl), ?_⟩
  rw[QyE]
  exact⟨_,by rfl⟩
 ·refine .inl ?_
  obtain rfl:i=((dig u).length):=by omega
  have hc':¬ (((((dig u).length):Nat):Int)<((((dig u).length):Nat):Int)):=by omega
  have h0:=QFz u
  rw[h0] at a3
  have hn0:¬ (0:Int)<((0:Nat):Int):=by omega
  rw[List.take_length] at ht ⊢
  simp only[Qaa,ht]
  simp only[a0,a2,a3,a4,hc',hn0,Qaa,Qag,Qae,Qab,LP,Tryd.f28,FT,seval]
  exact⟨_,rfl,(by rfl),(by rfl),(by rw [h0];rfl),(by rfl)⟩
structure RI where
 v:Int
 nl:Bool
 cap:Option Nat
abbrev aN (x:RI):AV:=.agg [bb (decide (x.v<0)),sD (dig x.v.natAbs) x.nl x.cap]
def sgn (neg:Bool) (n:Nat):Int:=if neg=true then -(n:Int) else n
theorem Q7W (neg:Bool) (n:Nat):(sgn neg n).natAbs=n:=by unfold sgn;split<;>omega
theorem Qcf (k:Nat) (neg:Bool) (d:List Nat) (nl:Bool) (cap:Option Nat) (hd:okD d) (hl:d.length≤1000000) (hk:d.length<k):run (k+1) 59 [bb neg,sD d nl cap]=some (aN ⟨sgn neg (vd d),nl,cap⟩):=by
 rw[QD1 k neg d nl cap hl hk,aN]
 simp only[Q7W,← Ql5 hd]
 have h1:(neg&&decide (0<(Qa6 d).length))=decide (sgn neg (vd d)<0):=by
  have hv:=Qe5 d
  rw[Ql5 hd,Qb3] at hv
  have hz:Qa6 d=[]↔vd d=0:=by rw [Ql5 hd];exact QyQ
  have hz2:0<(Qa6 d).length↔vd d≠0:=by rw [List.length_pos_iff];exact not_congr hz
  unfold sgn
  cases neg
  ·simp
  ·simp only[Bool.true_and,if_true,hz2,decide_eq_decide]
   omega
 rw[h1]
theorem Qco {a:List IV} {b:Nat} {c:Bool} {d:Option Nat}:IV.strict (.slice a b c d)=false:=rfl
theorem QdI {k f r i id:Nat} {neg:Bool} {d:List Nat} {H:Heap} (h:H[id]?=some (rD d)) (hd:okD d) (hl:d.length≤1000000) (hk:d.length<k) (hkp:Qat tab.keeps f r i=false:=by rfl) :
  ∃ H2,Qih (cxG Tryd.prog (Qac tab) (k+1) f none) r i 59 [bb neg,.hsl id 0 d.length d.length 1] H=some (aN ⟨sgn neg (vd d),false,none⟩,H2)∧H2.length=H.length∧∀ j,j≠id→H2[j]?=H[j]?:=by
 have hz:Qbi H [bb neg,.hsl id 0 d.length d.length 1]=some ([bb neg,sD d false none],H.set id (.row true 117 (encD d))):=by
  have hr:rowOf H id d.length=some (117,encD d):=by
   unfold rowOf
   rw[h]
   simp[Qa8]
  rw[Qbi,Q2U,Option.bind_some,Qbi,QjC,QhW,hr]
  simp only[Option.bind_some,Nat.zero_add,Nat.mul_one,Nat.le_refl,if_true,List.drop_zero,Option.map_some,Qbi]
  rw[List.take_of_length_le (by rw [Qa8];exact Nat.le_refl _)]
 have hv:=Qcf k neg d false none hd hl hk
 rcases Q5q (P:=Tryd.prog) (tab:=tab) (kf:=k+1) (f:=f) (r:=r) (i:=i) (ar:=none) (g:=59) (by rfl) hkp (by rfl) hz hv with e | e
 ·exact⟨_,e,rfl,fun _ _=>rfl⟩
 ·exact⟨_,e,by simp,fun j hj=>by rw [List.getElem?_set_ne (fun h=>hj h.symm)]⟩
theorem Qyl (k:Nat) (n:Int) (h0:-9223372036854775808≤n) (h1:n≤9223372036854775807) (hk:20<k):∃ x:RI,x.v=n∧run (k+2) 28 [ii n]=some (aN x):=by
 have hu:n.natAbs<18446744073709551616:=by omega
 have hlen:(dig n.natAbs).length≤10:=Nat.le_trans (Qfd (k:=4) (by omega)) (by omega)
 have hnn:=Qcf k (decide (n<0)) (dig n.natAbs) false none (QaF _).ok (by omega) (by omega)
 rw[Qb3] at hnn
 have hsg:sgn (decide (n<0)) n.natAbs=n:=by unfold sgn;by_cases h:n<0<;>simp [h]<;>omega
 rw[hsg] at hnn
 simp only[run,bb] at hnn
 by_cases hz0:n=0
 ·refine⟨⟨0,true,some 0⟩,hz0.symm, ?_⟩
  subst hz0
  have hn0:=Qcf k false [] true (some 0) QrI (by simp) (by simp only [List.length_nil];omega)
  simp only[run,bb,sD,encD,List.map_nil,List.length_nil] at hn0
  rw[run,ev28,Qaq]
  have hw0:IntKind.wrap .u64 0=0:=rfl
  simp only[Tryd.f28,ii,hw0,FT,seval]
  rw[Qai QpC Q8l];rotate_left;rfl;rfl;rfl
  obtain⟨k,rfl⟩:∃ j,k=j+1:=⟨k-1,by omega⟩
  simp only[Qaa,Qag,Qae,Qab,LP,Tryd.f28,hw0,hn0,FT,seval]
  rw[show sgn false (vd [])=0 from rfl]
 refine⟨⟨n,false,none⟩,rfl, ?_⟩
 rw[run,ev28,Qaq]
 by_cases hn:n<0
 ·have hw1:IntKind.wrap .u64 n=n+18446744073709551616:=by
   have e:IntKind.wrap .u64 n=n % 18446744073709551616:=rfl
   rw[e];omega
  have hw2:IntKind.wrap .u64 (0-(n+18446744073709551616))=((n.natAbs:Nat):Int):=by
   have e:∀ m:Int,IntKind.wrap .u64 m=m % 18446744073709551616:=fun m=>rfl
   rw[e];omega
  simp only[Tryd.f28,ii,hn,hw1,hw2,FT,seval]
  rw[Qai QpC Q8l];rotate_left;rfl;rfl;rfl
  generalize hz:Qar _ _ _ _ _ _ _ _ _ _ _ _=z
  obtain⟨l',rfl,e0,e2,e3,e4⟩:=Q8k (k+1) (.int .i64 n) n.natAbs hu hlen _ (by rfl) _ _ z hz (by omega) (by rfl) (by rfl) (by rfl) (by rfl)
  clear hz
  rw[List.take_length]
  have hN:0<(dig n.natAbs).length:=List.length_pos_iff.2 (QlS (by omega))
  have g1:=Qct (s:=0) (sz:=1) hN
  have g2:=Qcm (e:=117) (cells:=encD (dig n.natAbs)) hN
  have hel:=Qa8 (dig n.natAbs)
  have htk:(encD (dig n.natAbs)).take (dig n.natAbs).length=encD (dig n.natAbs):=List.take_of_length_le (by rw [hel];exact Nat.le_refl _)
  rw[Nat.mul_one] at g1
  rw[g1] at e4
  rw[g2]
  simp only[hn,decide_true,decide_false] at hnn
  obtain⟨H2,hds,hl2,hold⟩:=QdI (k:=k) (f:=28) (r:=8) (i:=3) (id:=0) (neg:=true) (d:=dig n.natAbs) (H:=[rD (dig n.natAbs),.cells 58 [.c (.bool false),.c (.slice [] 0 true (some 0))]]) (by rfl) (QaF _).ok (by omega) (by omega)
  have h21:=hold 1 (by omega)
  simp only[List.getElem?_cons_zero,List.getElem?_cons_succ] at h21
  rw[Qb3] at hds
  rw[show sgn true n.natAbs=n by unfold sgn;simp;omega] at hds
  have hset:∀ X:AObj,(H2.set 1 X)[1]?=some X:=fun X=>List.getElem?_set_self (by rw [hl2];simp)
  simp only[e0,e2,e3,e4,hn,hel,htk,hnn,hds,h21,hset,Qco,Qdw,Qcv,QcI,Qcg,Nat.le_refl,FT,seval]
  simp only[aN,hn,decide_true,decide_false]
 ·have hw1:IntKind.wrap .u64 n=((n.natAbs:Nat):Int):=by
   have e:IntKind.wrap .u64 n=n % 18446744073709551616:=rfl
   rw[e];omega
  simp only[Tryd.f28,ii,hn,hw1,FT,seval]
  rw[Qai QpC Q8l];rotate_left;rfl;rfl;rfl
  generalize hz:Qar _ _ _ _ _ _ _ _ _ _ _ _=z
  obtain⟨l',rfl,e0,e2,e3,e4⟩:=Q8k (k+1) (.int .i64 n) n.natAbs hu hlen _ (by rfl) _ _ z hz (by omega) (by rfl) (by rfl) (by rfl) (by rfl)
  clear hz
  rw[List.take_length]
  have hN:0<(dig n.natAbs).length:=List.length_pos_iff.2 (QlS (by omega))
  have g1:=Qct (s:=0) (sz:=1) hN
  have g2:=Qcm (e:=117) (cells:=encD (dig n.natAbs)) hN
  have hel:=Qa8 (dig n.natAbs)
  have htk:(encD (dig n.natAbs)).take (dig n.natAbs).length=encD (dig n.natAbs):=List.take_of_length_le (by rw [hel];exact Nat.le_refl _)
  rw[Nat.mul_one] at g1
  rw[g1] at e4
  rw[g2]
  simp only[hn,decide_true,decide_false] at hnn
  obtain⟨H2,hds,hl2,hold⟩:=QdI (k:=k) (f:=28) (r:=8) (i:=3) (id:=0) (neg:=false) (d:=dig n.natAbs) (H:=[rD (dig n.natAbs),.cells 58 [.c (.bool false),.c (.slice [] 0 true (some 0))]]) (by rfl) (QaF _).ok (by omega) (by omega)
  have h21:=hold 1 (by omega)
  simp only[List.getElem?_cons_zero,List.getElem?_cons_succ] at h21
  rw[Qb3] at hds
  rw[show sgn false n.natAbs=n by unfold sgn;simp;omega] at hds
  have hset:∀ X:AObj,(H2.set 1 X)[1]?=some X:=fun X=>List.getElem?_set_self (by rw [hl2];simp)
  simp only[e0,e2,e3,e4,hn,hel,htk,hnn,hds,h21,hset,Qco,Qdw,Qcv,QcI,Qcg,Nat.le_refl,FT,seval]
  simp only[aN,hn,decide_true,decide_false]
def pcD (a b:List Nat):Nat→Nat
 | 0=>0
 | i+1=>(pcD a b i+a.getD i 0+b.getD i 0) / 65536
def pdD (a b:List Nat) (i:Nat):Nat:=(pcD a b i+a.getD i 0+b.getD i 0) % 65536
def outP (a b:List Nat) (i:Nat):List Nat:=(List.range i).map (pdD a b)
theorem QsM (a b:List Nat) (i:Nat):outP a b (i+1)=outP a b i++[pdD a b i]:=by simp [outP,List.range_succ]
theorem QdA (a b:List Nat) (i:Nat):(outP a b i).length=i:=by simp [outP]
theorem QEo (a b:List Nat) (i:Nat):okD (outP a b i):=fun d hd=>by
 simp only[outP,List.mem_map] at hd
 obtain⟨j,_,rfl⟩:=hd
 exact Nat.mod_lt _ (by omega)
theorem Q7v {a b:List Nat} (ha:okD a) (hb:okD b):∀ i,pcD a b i≤1
 | 0=>by simp [pcD]
 | i+1=>by
  have h1:=Q7v ha hb i
  have h2:=QaW ha i
  have h3:=QaW hb i
  rw[pcD]
  omega
theorem Qg2 (l:List Nat) (i:Nat):vd (l.take (i+1))=vd (l.take i)+65536 ^ i * l.getD i 0:=by
 by_cases h:i<l.length
 ·rw[List.take_succ_eq_append_getElem h,Qfw,List.length_take,List.getD_eq_getElem?_getD,List.getElem?_eq_getElem h]
  rw[show min i l.length=i by omega];rfl
 ·rw[List.take_of_length_le (by omega),List.take_of_length_le (by omega),List.getD_eq_getElem?_getD,List.getElem?_eq_none (by omega)];simp
theorem Q9P (a b:List Nat):∀ i,vd (outP a b i)+65536 ^ i * pcD a b i=vd (a.take i)+vd (b.take i)
 | 0=>by simp [outP,vd,pcD]
 | i+1=>by
  have ih:=Q9P a b i
  rw[QsM,Qfw,QdA,Qg2,Qg2,pcD,pdD,Nat.pow_succ]
  have h:=Nat.div_add_mod (pcD a b i+a.getD i 0+b.getD i 0) 65536
  obtain⟨s,hs⟩:∃ s,s=pcD a b i+a.getD i 0+b.getD i 0:=⟨_,rfl⟩
  rw[← hs] at h ⊢
  have e1:65536 ^ i * (s % 65536)+65536 ^ i * 65536 * (s / 65536)=65536 ^ i * s:=by
   rw[Nat.mul_assoc,← Nat.mul_add]
   congr 1
   omega
  have e2:65536 ^ i * s=65536 ^ i * pcD a b i+65536 ^ i * a.getD i 0+65536 ^ i * b.getD i 0:=by
   rw[hs,Nat.mul_add,Nat.mul_add]
  omega
def plN (a b:List Nat):Nat:=max a.length b.length+(if 0<pcD a b (max a.length b.length) then 1 else 0)
theorem Qea {l:List Nat} {i:Nat} (h:l.length≤i):l.getD i 0=0:=by
 rw[List.getD_eq_getElem?_getD,List.getElem?_eq_none h];rfl
theorem Q6J {a b:List Nat} (ha:okD a) (hb:okD b):pcD a b (plN a b)=0:=by
 unfold plN
 split
 ·rename_i h
  have h1:=Q7v ha hb (max a.length b.length)
  rw[pcD,Qea (show a.length≤max a.length b.length by omega),Qea (show b.length≤max a.length b.length by omega)]
  omega
 ·rw[Nat.add_zero];omega
def Qwm (a b:List Nat):List Nat:=outP a b (plN a b)
theorem QAF {a b:List Nat} (ha:okD a) (hb:okD b):vd (Qwm a b)=vd a+vd b:=by
 have h:=Q9P a b (plN a b)
 have hn:max a.length b.length≤plN a b:=by unfold plN;omega
 rw[Q6J ha hb,List.take_of_length_le (by omega),List.take_of_length_le (by omega)] at h
 simpa [Qwm] using h
theorem QAO (a b:List Nat):okD (Qwm a b):=QEo a b _
theorem Q8W (a b:List Nat):(Qwm a b).length≤max a.length b.length+1:=by
 rw[Qwm,QdA];unfold plN;split<;>omega
theorem QsN (a b:List Nat):(Qwm a b).length=plN a b:=QdA a b _
theorem QbZ (l:List Nat) (d:Nat):encD (l++[d])=encD l++[.int .u32 (d:Int)]:=by simp [encD]
theorem Q6o (kf:Nat) (a b:List Nat) (nl nl2:Bool) (cap cap2:Option Nat) (ha:okD a) (hb:okD b) (hla:a.length≤100000) (hlb:b.length≤100000) (k:Nat) (l:Ass) (z:Option Out) (hz:Qar Tryd.prog tab kf none QrP 124 52 [0,1,5,6,7] 1 k l ([lo 117 0 (encD (outP a b 0))])=z) (hk:plN a b<k) (a0:asc l 0=sD a nl cap) (a1:asc l 1=sD b nl2 cap2) (a5:asc l 5=lv 0 1 0) (a6:asc l 6=.c (.int .u32 (pcD a b 0:Nat))) (a7:asc l 7=ii 0) :
  ∃ l',z=some (.exit 0 (fr 52 l') ([lo 117 (plN a b) (encD (outP a b (plN a b)))]))∧asc l' 0=sD a nl cap∧asc l' 1=sD b nl2 cap2∧asc l' 5=lv 0 1 (plN a b)∧asc l' 6=.c (.int .u32 (pcD a b (plN a b):Nat))∧asc l' 7=ii (plN a b):=by
 subst hz
 have hnb:plN a b≤100001:=by unfold plN;split<;>omega
 refine Qa1 (plN a b) (fun k l H=>Qar Tryd.prog tab kf none QrP 124 52 [0,1,5,6,7] 1 k l H)
  (fun i l H=>asc l 0=sD a nl cap∧asc l 1=sD b nl2 cap2∧asc l 5=lv 0 1 i∧asc l 6=.c (.int .u32 (pcD a b i:Nat))∧asc l 7=ii i∧∃ G,H=([lo 117 i (encD (outP a b i))])++G)
  (fun z=>∃ l',z=some (.exit 0 (fr 52 l') ([lo 117 (plN a b) (encD (outP a b (plN a b)))]))∧asc l' 0=sD a nl cap∧asc l' 1=sD b nl2 cap2∧asc l' 5=lv 0 1 (plN a b)∧asc l' 6=.c (.int .u32 (pcD a b (plN a b):Nat))∧asc l' 7=ii (plN a b)) ?_ (plN a b) 0 k l _ (by omega) hk ⟨a0,a1,a5,a6,a7,[],by rw [List.append_nil]⟩
 clear hk a0 a1 a5 a6 a7
 rintro i k l H hi ⟨a0,a1,a5,a6,a7,G,rfl⟩
 have ht:trim 1 (fr 52 (keep l [0,1,5,6,7])) (([lo 117 i (encD (outP a b i))])++G)=([lo 117 i (encD (outP a b i))]):=Qa4 (by simp) (by simp only [a0,a1,a5,a6,a7,EVb,EVc,seval]) (by simp only [EVb,EVc,seval])
 by_cases hc:i<(plN a b)
 ·have hc':(i:Int)<((plN a b:Nat):Int):=by omega
  have hc0:(0:Int)≤i:=by omega
  have hw:IntKind.wrap .i64 ((i:Int)+1)=((i+1:Nat):Int):=by rw [wrap64 (by omega) (by omega)];omega
  have h1:=Q7v ha hb i
  have h2:=QaW ha i
  have h3:=QaW hb i
  have hol:=QdA a b i
  have hap:=fun X y=>hapD (l:=outP a b i) (X:=X) (x:=y) (by omega) hol
  rw[QsM]
  have hpc:pcD a b (i+1)=(pcD a b i+a.getD i 0+b.getD i 0) / 65536:=rfl
  have hpd:pdD a b i=(pcD a b i+a.getD i 0+b.getD i 0) % 65536:=rfl
  rw[hpc,hpd]
  obtain⟨c,hc1⟩:∃ c,c=pcD a b i:=⟨_,rfl⟩
  have hor:i<a.length∨i<b.length∨0<c:=by
   unfold plN at hc
   split at hc
   ·rename_i hp
    by_cases e:i=max a.length b.length
    ·right;right
     rw[hc1,e];exact hp
    ·omega
   ·omega
  rw[← hc1] at h1 a6 ⊢
  by_cases hia:i<a.length
  ·have hia':(i:Int)<a.length:=by omega
   have hx:=Qby hia
   obtain⟨x,hx1⟩:∃ x,x=a.getD i 0:=⟨_,rfl⟩
   rw[← hx1] at hx h2 ⊢
   have w1:IntKind.wrap .u32 ((c:Int)+(x:Int))=((c+x:Nat):Int):=by rw [wrap32 (by omega) (by omega)];omega
   by_cases hib:i<b.length
   ·have hib':(i:Int)<b.length:=by omega
    have hy:=Qby hib
    obtain⟨y,hy1⟩:∃ y,y=b.getD i 0:=⟨_,rfl⟩
    rw[← hy1] at hy h3 ⊢
    have w2:IntKind.wrap .u32 (((c+x:Nat):Int)+(y:Int))=((c+x+y:Nat):Int):=by rw [wrap32 (by omega) (by omega)];omega
    have r1:=Qiz (c+x+y)
    have r2:=Qj0 (c+x+y)
    have r3:=wr32 (n:=(c+x+y) / 65536) (by omega)
    simp only[Qaa,ht]
    simp only[a0,a1,a5,a6,a7,hc',hc0,hw,hia',hib',hx,hy,w1,w2,r1,r2,r3,hap,Qaa,Qag,Qae,Qab,LP,Tryd.f124,FT,seval]
    refine .inr ⟨_,_,hc,rfl,(by rfl),(by rfl),(by rfl),(by rfl),(by rfl), ?_⟩
    rw[← QbZ]
    exact⟨_,by rfl⟩
   ·have hib':¬ (i:Int)<b.length:=by omega
    rw[Qea (show b.length≤i by omega),Nat.add_zero]
    have r1:=Qiz (c+x)
    have r2:=Qj0 (c+x)
    have r3:=wr32 (n:=(c+x) / 65536) (by omega)
    simp only[Qaa,ht]
    simp only[a0,a1,a5,a6,a7,hc',hc0,hw,hia',hib',hx,w1,r1,r2,r3,hap,Qaa,Qag,Qae,Qab,LP,Tryd.f124,FT,seval]
    refine .inr ⟨_,_,hc,rfl,(by rfl),(by rfl),(by rfl),(by rfl),(by rfl), ?_⟩
    rw[← QbZ]
    exact⟨_,by rfl⟩
  ·have hia':¬ (i:Int)<a.length:=by omega
   rw[Qea (show a.length≤i by omega),Nat.add_zero]
   by_cases hib:i<b.length
   ·have hib':(i:Int)<b.length:=by omega
    have hy:=Qby hib
    obtain⟨y,hy1⟩:∃ y,y=b.getD i 0:=⟨_,rfl⟩
    rw[← hy1] at hy h3 ⊢
    have w2:IntKind.wrap .u32 ((c:Int)+(y:Int))=((c+y:Nat):Int):=by rw [wrap32 (by omega) (by omega)];omega
    have r1:=Qiz (c+y)
    have r2:=Qj0 (c+y)
    have r3:=wr32 (n:=(c+y) / 65536) (by omega)
    simp only[Qaa,ht]
    simp only[a0,a1,a5,a6,a7,hc',hc0,hw,hia',hib',hy,w2,r1,r2,r3,hap,Qaa,Qag,Qae,Qab,LP,Tryd.f124,FT,seval]
    refine .inr ⟨_,_,hc,rfl,(by rfl),(by rfl),(by rfl),(by rfl),(by rfl), ?_⟩
    rw[← QbZ]
    exact⟨_,by rfl⟩
   ·have hib':¬ (i:Int)<b.length:=by omega
    rw[Qea (show b.length≤i by omega),Nat.add_zero]
    have hcp:(0:Int)<((c:Nat):Int):=by omega
    have r1:=Qiz c
    have r2:=Qj0 c
    have r3:=wr32 (n:=c / 65536) (by omega)
    simp only[Qaa,ht]
    simp only[a0,a1,a5,a6,a7,hc',hc0,hw,hia',hib',hcp,r1,r2,r3,hap,Qaa,Qag,Qae,Qab,LP,Tryd.f124,FT,seval]
    refine .inr ⟨_,_,hc,rfl,(by rfl),(by rfl),(by rfl),(by rfl),(by rfl), ?_⟩
    rw[← QbZ]
    exact⟨_,by rfl⟩
 ·refine .inl ?_
  obtain rfl:i=(plN a b):=by omega
  have hc':¬ ((((plN a b):Nat):Int)<(((plN a b):Nat):Int)):=by omega
  have hend:=Q6J ha hb
  have hn:max a.length b.length≤plN a b:=by unfold plN;omega
  have hia':¬ ((plN a b:Nat):Int)<a.length:=by omega
  have hib':¬ ((plN a b:Nat):Int)<b.length:=by omega
  rw[hend] at a6
  simp only[Qaa,ht]
  simp only[a0,a1,a5,a6,a7,hc',hia',hib',Qaa,Qag,Qae,Qab,LP,Tryd.f124,FT,seval]
  exact⟨_,rfl,(by rfl),(by rfl),(by rfl),(by rw [hend];rfl),(by rfl)⟩
theorem QEh (k:Nat) (a b:List Nat) (nl nl2:Bool) (cap cap2:Option Nat) (ha:okD a) (hb:okD b) (hla:a.length≤100000) (hlb:b.length≤100000) (hk:a.length+b.length+2≤k):∃ nl3 cap3,run (k+1) 124 [sD a nl cap,sD b nl2 cap2]=some (sD (Qwm a b) nl3 cap3):=by
 have hnb:plN a b≤a.length+b.length+1:=by unfold plN;split<;>omega
 have hel:(encD (outP a b (plN a b))).length=plN a b:=by rw [Qa8,QdA]
 refine⟨decide (plN a b=0),if plN a b=0 then some 0 else none, ?_⟩
 rw[run,ev124,Qaq]
 simp only[Tryd.f124,FT,seval]
 rw[Qai QrP QE7];rotate_left;rfl;rfl;rfl
 generalize hz:Qar _ _ _ _ _ _ _ _ _ _ _ _=z
 obtain⟨l',rfl,e0,e1,e5,e6,e7⟩:=Q6o k a b nl nl2 cap cap2 ha hb hla hlb _ _ z hz (by omega) (by rfl) (by rfl) (by rfl) (by rfl) (by rfl)
 clear hz
 simp only[e0,e1,e5,e6,e7,hel,FT,seval]
 rw[sD,QsN]
 rfl
def boD (a b:List Nat):Nat→Nat
 | 0=>0
 | i+1=>if a.getD i 0<boD a b i+b.getD i 0 then 1 else 0
def mdD (a b:List Nat) (i:Nat):Nat:=if a.getD i 0<boD a b i+b.getD i 0 then a.getD i 0+65536-(boD a b i+b.getD i 0) else a.getD i 0-(boD a b i+b.getD i 0)
def outM (a b:List Nat) (i:Nat):List Nat:=(List.range i).map (mdD a b)
theorem Qwy (a b:List Nat) (i:Nat):outM a b (i+1)=outM a b i++[mdD a b i]:=by simp [outM,List.range_succ]
theorem QcY (a b:List Nat) (i:Nat):(outM a b i).length=i:=by simp [outM]
theorem QzQ (a b:List Nat):∀ i,boD a b i≤1
 | 0=>by simp [boD]
 | i+1=>by rw [boD];split<;>omega
theorem QEU {a b:List Nat} (ha:okD a) (hb:okD b) (i:Nat):mdD a b i<65536:=by
 have h1:=QzQ a b i
 have h2:=QaW ha i
 have h3:=QaW hb i
 unfold mdD
 split<;>omega
theorem Q6j {a b:List Nat} (ha:okD a) (hb:okD b) (i:Nat):okD (outM a b i):=fun d hd=>by
 simp only[outM,List.mem_map] at hd
 obtain⟨j,_,rfl⟩:=hd
 exact QEU ha hb j
theorem Qzw (p:Nat) {x y c:Nat} (hc:c≤1) (hx:x<65536) (hy:y<65536) :
  p * (if x<c+y then x+65536-(c+y) else x-(c+y))+p * y+p * c=p * x+p * 65536 * (if x<c+y then 1 else 0):=by
 split
 ·rw[Nat.mul_one,← Nat.mul_add,← Nat.mul_add,← Nat.mul_add]
  congr 1
  omega
 ·rw[Nat.mul_zero,Nat.add_zero,← Nat.mul_add,← Nat.mul_add]
  congr 1
  omega
theorem Q9C {a b:List Nat} (ha:okD a) (hb:okD b):∀ i,vd (outM a b i)+vd (b.take i)=vd (a.take i)+65536 ^ i * boD a b i
 | 0=>by simp [outM,vd,boD]
 | i+1=>by
  have ih:=Q9C ha hb i
  have h1:=QzQ a b i
  have h2:=QaW ha i
  have h3:=QaW hb i
  rw[Qwy,Qfw,QcY,Qg2,Qg2,boD,mdD,Nat.pow_succ]
  have:=Qzw (65536 ^ i) h1 h2 h3
  omega
def QdM (a b:List Nat):List Nat:=outM a b a.length
theorem Qhy {a b:List Nat} (ha:okD a) (hb:okD b):okD (QdM a b):=Q6j ha hb _
theorem Qd7 (a b:List Nat):(QdM a b).length=a.length:=QcY a b _
theorem Qm0 {a b:List Nat} (ha:okD a) (hb:okD b) (hl:b.length≤a.length) (h:vd b≤vd a):vd (QdM a b)=vd a-vd b:=by
 have h1:=Q9C ha hb a.length
 rw[List.take_of_length_le hl,List.take_of_length_le (Nat.le_refl _)] at h1
 have h2:=QmJ (Q6j ha hb a.length)
 rw[QcY] at h2
 have h3:=QzQ a b a.length
 have h4:boD a b a.length=0:=by
  by_cases h0:boD a b a.length=0
  ·exact h0
  ·rw[show boD a b a.length=1 by omega,Nat.mul_one] at h1
   omega
 rw[h4,Nat.mul_zero] at h1
 unfold QdM
 omega
theorem Qnl (kf:Nat) (a b:List Nat) (nl nl2:Bool) (cap cap2:Option Nat) (ha:okD a) (hb:okD b) (hla:a.length≤100000) (hlb:b.length≤100000) (k:Nat) (l:Ass) (z:Option Out) (hz:Qar Tryd.prog tab kf none QlO 125 43 [0,1,5,6,7] 1 k l ([lo 117 0 (encD (outM a b 0))])=z) (hk:a.length<k) (a0:asc l 0=sD a nl cap) (a1:asc l 1=sD b nl2 cap2) (a5:asc l 5=lv 0 1 0) (a6:asc l 6=.c (.int .u32 (boD a b 0:Nat))) (a7:asc l 7=ii 0) :
  ∃ l',z=some (.exit 0 (fr 43 l') ([lo 117 a.length (encD (outM a b a.length))]))∧asc l' 0=sD a nl cap∧asc l' 1=sD b nl2 cap2∧asc l' 5=lv 0 1 a.length∧asc l' 6=.c (.int .u32 (boD a b a.length:Nat))∧asc l' 7=ii a.length:=by
 subst hz
 refine Qa1 a.length (fun k l H=>Qar Tryd.prog tab kf none QlO 125 43 [0,1,5,6,7] 1 k l H)
  (fun i l H=>asc l 0=sD a nl cap∧asc l 1=sD b nl2 cap2∧asc l 5=lv 0 1 i∧asc l 6=.c (.int .u32 (boD a b i:Nat))∧asc l 7=ii i∧∃ G,H=([lo 117 i (encD (outM a b i))])++G)
  (fun z=>∃ l',z=some (.exit 0 (fr 43 l') ([lo 117 a.length (encD (outM a b a.length))]))∧asc l' 0=sD a nl cap∧asc l' 1=sD b nl2 cap2∧asc l' 5=lv 0 1 a.length∧asc l' 6=.c (.int .u32 (boD a b a.length:Nat))∧asc l' 7=ii a.length) ?_ a.length 0 k l _ (by omega) hk ⟨a0,a1,a5,a6,a7,[],by rw [List.append_nil]⟩
 clear hk a0 a1 a5 a6 a7
 rintro i k l H hi ⟨a0,a1,a5,a6,a7,G,rfl⟩
 have ht:trim 1 (fr 43 (keep l [0,1,5,6,7])) (([lo 117 i (encD (outM a b i))])++G)=([lo 117 i (encD (outM a b i))]):=Qa4 (by simp) (by simp only [a0,a1,a5,a6,a7,EVb,EVc,seval]) (by simp only [EVb,EVc,seval])
 by_cases hc:i<a.length
 ·have hc':(i:Int)<((a.length:Nat):Int):=by omega
  have hc0:(0:Int)≤i:=by omega
  have hw:IntKind.wrap .i64 ((i:Int)+1)=((i+1:Nat):Int):=by rw [wrap64 (by omega) (by omega)];omega
  have h1:=QzQ a b i
  have h2:=QaW ha i
  have h3:=QaW hb i
  have hol:=QcY a b i
  have hap:=fun X y=>hapD (l:=outM a b i) (X:=X) (x:=y) (by omega) hol
  have hpc:boD a b (i+1)=if a.getD i 0<boD a b i+b.getD i 0 then 1 else 0:=rfl
  have hpd:mdD a b i=if a.getD i 0<boD a b i+b.getD i 0 then a.getD i 0+65536-(boD a b i+b.getD i 0) else a.getD i 0-(boD a b i+b.getD i 0):=rfl
  rw[Qwy,hpc,hpd]
  obtain⟨c,hc1⟩:∃ c,c=boD a b i:=⟨_,rfl⟩
  rw[← hc1] at h1 a6 ⊢
  have hx:=Qby hc
  obtain⟨x,hx1⟩:∃ x,x=a.getD i 0:=⟨_,rfl⟩
  rw[← hx1] at hx h2 ⊢
  have w3:IntKind.wrap .u32 ((x:Int)+65536)=((x+65536:Nat):Int):=by rw [wrap32 (by omega) (by omega)];omega
  by_cases hib:i<b.length
  ·have hib':(i:Int)<b.length:=by omega
   have hy:=Qby hib
   obtain⟨y,hy1⟩:∃ y,y=b.getD i 0:=⟨_,rfl⟩
   rw[← hy1] at hy h3 ⊢
   have w2:IntKind.wrap .u32 ((c:Int)+(y:Int))=((c+y:Nat):Int):=by rw [wrap32 (by omega) (by omega)];omega
   by_cases hlt:x<c+y
   ·have hlt':(x:Int)<((c+y:Nat):Int):=by omega
    have w4:IntKind.wrap .u32 (((x+65536:Nat):Int)-((c+y:Nat):Int))=((x+65536-(c+y):Nat):Int):=by rw [wrap32 (by omega) (by omega)];omega
    rw[if_pos hlt,if_pos hlt]
    simp only[Qaa,ht]
    simp only[a0,a1,a5,a6,a7,hc',hc0,hw,hib',hx,hy,w2,w3,w4,hlt',hap,Qaa,Qag,Qae,Qab,LP,Tryd.f125,FT,seval]
    refine .inr ⟨_,_,hc,rfl,(by rfl),(by rfl),(by rfl),(by rfl),(by rfl), ?_⟩
    rw[QbZ]
    exact⟨_,by rfl⟩
   ·have hlt':¬ (x:Int)<((c+y:Nat):Int):=by omega
    have w4:IntKind.wrap .u32 ((x:Int)-((c+y:Nat):Int))=((x-(c+y):Nat):Int):=by rw [wrap32 (by omega) (by omega)];omega
    rw[if_neg hlt,if_neg hlt]
    simp only[Qaa,ht]
    simp only[a0,a1,a5,a6,a7,hc',hc0,hw,hib',hx,hy,w2,w4,hlt',hap,Qaa,Qag,Qae,Qab,LP,Tryd.f125,FT,seval]
    refine .inr ⟨_,_,hc,rfl,(by rfl),(by rfl),(by rfl),(by rfl),(by rfl), ?_⟩
    rw[QbZ]
    exact⟨_,by rfl⟩
  ·have hib':¬ (i:Int)<b.length:=by omega
   rw[Qea (show b.length≤i by omega)]
   simp only[Nat.add_zero]
   by_cases hlt:x<c
   ·have hlt':(x:Int)<(c:Int):=by omega
    have w4:IntKind.wrap .u32 (((x+65536:Nat):Int)-(c:Int))=((x+65536-c:Nat):Int):=by rw [wrap32 (by omega) (by omega)];omega
    rw[if_pos hlt,if_pos hlt]
    simp only[Qaa,ht]
    simp only[a0,a1,a5,a6,a7,hc',hc0,hw,hib',hx,w3,w4,hlt',hap,Qaa,Qag,Qae,Qab,LP,Tryd.f125,FT,seval]
    refine .inr ⟨_,_,hc,rfl,(by rfl),(by rfl),(by rfl),(by rfl),(by rfl), ?_⟩
    rw[QbZ]
    exact⟨_,by rfl⟩
   ·have hlt':¬ (x:Int)<(c:Int):=by omega
    have w4:IntKind.wrap .u32 ((x:Int)-(c:Int))=((x-c:Nat):Int):=by rw [wrap32 (by omega) (by omega)];omega
    rw[if_neg hlt,if_neg hlt]
    simp only[Qaa,ht]
    simp only[a0,a1,a5,a6,a7,hc',hc0,hw,hib',hx,w4,hlt',hap,Qaa,Qag,Qae,Qab,LP,Tryd.f125,FT,seval]
    refine .inr ⟨_,_,hc,rfl,(by rfl),(by rfl),(by rfl),(by rfl),(by rfl), ?_⟩
    rw[QbZ]
    exact⟨_,by rfl⟩
 ·refine .inl ?_
  obtain rfl:i=a.length:=by omega
  have hc':¬ (((a.length:Nat):Int)<((a.length:Nat):Int)):=by omega
  simp only[Qaa,ht]
  simp only[a0,a1,a5,a6,a7,hc',Qaa,Qag,Qae,Qab,LP,Tryd.f125,FT,seval]
  exact⟨_,rfl,(by rfl),(by rfl),(by rfl),(by rfl),(by rfl)⟩
theorem Q0F (k:Nat) (a b:List Nat) (nl nl2:Bool) (cap cap2:Option Nat) (ha:okD a) (hb:okD b) (hla:a.length≤100000) (hlb:b.length≤100000) (hk:a.length<k):∃ nl3 cap3,run (k+1) 125 [sD a nl cap,sD b nl2 cap2]=some (sD (QdM a b) nl3 cap3):=by
 have hel:(encD (outM a b a.length)).length=a.length:=by rw [Qa8,QcY]
 refine⟨decide (a.length=0),if a.length=0 then some 0 else none, ?_⟩
 rw[run,QFg,Qaq]
 simp only[Tryd.f125,FT,seval]
 rw[Qai QlO Q64];rotate_left;rfl;rfl;rfl
 generalize hz:Qar _ _ _ _ _ _ _ _ _ _ _ _=z
 obtain⟨l',rfl,e0,e1,e5,e6,e7⟩:=Qnl k a b nl nl2 cap cap2 ha hb hla hlb _ _ z hz (by omega) (by rfl) (by rfl) (by rfl) (by rfl) (by rfl)
 clear hz
 simp only[e0,e1,e5,e6,e7,hel,FT,seval]
 rw[sD,Qd7]
 rfl
theorem QHg {b:List Nat} (hb:Can b) (h:b≠[]):65536 ^ (b.length-1)≤vd b:=by
 obtain⟨l,x,hx⟩:∃ l x,b=l++[x]:=⟨b.dropLast,b.getLast h,(List.dropLast_concat_getLast h).symm⟩
 have hx0:x≠0:=fun e=>by
  subst e
  have:=hb.tr
  rw[hx,Qkg] at this
  have h2:=QbQ l
  have h3:=congrArg List.length this
  simp at h3
  omega
 rw[hx,Qfw,List.length_append]
 simp only[List.length_cons,List.length_nil,Nat.zero_add,Nat.add_sub_cancel]
 have:65536 ^ l.length * 1≤65536 ^ l.length * x:=Nat.mul_le_mul_left _ (by omega)
 omega
theorem QhF {a b:List Nat} (ha:okD a) (hb:Can b) (h:a.length<b.length):vd a<vd b:=by
 have h1:=QmJ ha
 have h2:=QHg hb (fun e=>by rw [e] at h;simp at h)
 have h3:65536 ^ a.length≤65536 ^ (b.length-1):=Nat.pow_le_pow_right (by omega) (by omega)
 omega
theorem QjX (l:List Nat) (j:Nat) (h:j<l.length):vd l=vd (l.take j)+65536 ^ j * (l.getD j 0+65536 * vd (l.drop (j+1))):=by
 have h1:l=l.take j++l.drop j:=(List.take_append_drop j l).symm
 have h2:l.drop j=l.getD j 0::l.drop (j+1):=by
  rw[List.drop_eq_getElem_cons h,List.getD_eq_getElem?_getD,List.getElem?_eq_getElem h];rfl
 have h3:(l.take j).length=j:=by rw [List.length_take];omega
 calc vd l=vd (l.take j++l.drop j):=by rw [← h1]
  _=_:=by rw [Qla,h3,h2,vd]
theorem Q3o {a b:List Nat} (ha:okD a) {j:Nat} (hja:j<a.length) (hjb:j<b.length) (hd:a.drop (j+1)=b.drop (j+1)) (h:a.getD j 0<b.getD j 0):vd a<vd b:=by
 have h1:vd (a.take j)<65536 ^ j:=by
  have:=QmJ (l:=a.take j) (fun d hd=>ha d (List.mem_of_mem_take hd))
  rwa [List.length_take,show min j a.length=j by omega] at this
 rw[QjX a j hja,QjX b j hjb,hd]
 have h2:65536 ^ j * (a.getD j 0+65536 * vd (b.drop (j+1))+1)≤65536 ^ j * (b.getD j 0+65536 * vd (b.drop (j+1))):=Nat.mul_le_mul_left _ (by omega)
 rw[Nat.mul_add,Nat.mul_one] at h2
 omega
def cmpN (m n:Nat):Int:=if m<n then -1 else if n<m then 1 else 0
theorem Qv5 (kf:Nat) (a b:List Nat) (nl nl2:Bool) (cap cap2:Option Nat) (ha:okD a) (hb:okD b) (hlab:b.length=a.length) (hla:a.length≤100000) (k:Nat) (l:Ass) (z:Option Out) (hz:Qar Tryd.prog tab kf none Qsa 97 41 [0,1,5] 0 k l ([])=z) (hk:a.length<k) (a0:asc l 0=sD a nl cap) (a1:asc l 1=sD b nl2 cap2) (a5:asc l 5=ii ((a.length:Int)-1-0)) :
  ∃ l',(z=some (.exit 0 (fr 41 l') [])∧a=b)∨(z=some (.ret (fr 41 l') [])∧asc l' 4=ii (cmpN (vd a) (vd b))):=by
 subst hz
 refine Qa1 a.length (fun k l H=>Qar Tryd.prog tab kf none Qsa 97 41 [0,1,5] 0 k l H)
  (fun i l H=>asc l 0=sD a nl cap∧asc l 1=sD b nl2 cap2∧asc l 5=ii ((a.length:Int)-1-i)∧(a.drop (a.length-i)=b.drop (a.length-i))∧∃ G,H=([])++G)
  (fun z=>∃ l',(z=some (.exit 0 (fr 41 l') [])∧a=b)∨(z=some (.ret (fr 41 l') [])∧asc l' 4=ii (cmpN (vd a) (vd b)))) ?_ a.length 0 k l _ (by omega) hk ⟨a0,a1,a5,by simp [hlab],[],by rw [List.append_nil]⟩
 clear hk a0 a1 a5
 rintro i k l H hi ⟨a0,a1,a5,hp,G,rfl⟩
 have ht:trim 0 (fr 41 (keep l [0,1,5])) (([])++H)=([]):=Qa4 (by simp) (by simp only [a0,a1,a5,EVb,EVc,seval]) (by simp only [EVb,EVc,seval])
 by_cases hc:i<a.length
 ·have hc':(i:Int)<((a.length:Nat):Int):=by omega
  have hc0:(0:Int)≤i:=by omega
  have hw:IntKind.wrap .i64 ((i:Int)+1)=((i+1:Nat):Int):=by rw [wrap64 (by omega) (by omega)];omega
  obtain⟨j,hj⟩:∃ j,a.length=j+1+i:=⟨a.length-1-i,by omega⟩
  have e1:a.length-i=j+1:=by omega
  have e2:a.length-(i+1)=j:=by omega
  have e3:(a.length:Int)-1-(i:Int)=(j:Int):=by omega
  have e4:(a.length:Int)-1-((i+1:Nat):Int)=(j:Int)-1:=by omega
  rw[e3] at a5
  rw[e1] at hp
  rw[e2,e4]
  have hj0:(0:Int)≤j:=by omega
  have hj1:(j:Int)<a.length:=by omega
  have hj2:(j:Int)<b.length:=by omega
  have hx:=Qby (l:=a) (i:=j) (by omega)
  have hy:=Qby (l:=b) (i:=j) (by omega)
  have hw2:IntKind.wrap .i64 ((j:Int)-1)=(j:Int)-1:=by rw [wrap64 (by omega) (by omega)]
  by_cases h1:a.getD j 0<b.getD j 0
  ·have h1':((a.getD j 0:Nat):Int)<((b.getD j 0:Nat):Int):=by omega
   have hv:=Q3o ha (show j<a.length by omega) (show j<b.length by omega) hp h1
   have hcm:cmpN (vd a) (vd b)=-1:=if_pos hv
   refine .inl ?_
   simp only[Qaa,ht]
   simp only[a0,a1,a5,hc',hc0,hw,hj0,Qaa,Qag,Qae,Qab,LP,Tryd.f97,FT,seval]
   rw[Qaf Tryd.f97 8 Q8a];rotate_left;rfl
   simp only[a0,a1,a5,hc',hc0,hw,hj0,hj1,hj2,hx,hy,h1',EVd,List.getElem?_nil,Nat.reducePow,Nat.reduceDiv,Nat.reduceMod,FT,seval]
   rw[hcm]
   exact⟨_,.inr ⟨rfl,(by rfl)⟩⟩
  ·have h1':¬ ((a.getD j 0:Nat):Int)<((b.getD j 0:Nat):Int):=by omega
   by_cases h2:b.getD j 0<a.getD j 0
   ·have h2':((b.getD j 0:Nat):Int)<((a.getD j 0:Nat):Int):=by omega
    have hv:=Q3o hb (show j<b.length by omega) (show j<a.length by omega) hp.symm h2
    have hcm:cmpN (vd a) (vd b)=1:=by unfold cmpN;rw [if_neg (by omega),if_pos hv]
    refine .inl ?_
    simp only[Qaa,ht]
    simp only[a0,a1,a5,hc',hc0,hw,hj0,Qaa,Qag,Qae,Qab,LP,Tryd.f97,FT,seval]
    rw[Qaf Tryd.f97 8 Q8a];rotate_left;rfl
    simp only[a0,a1,a5,hc',hc0,hw,hj0,hj1,hj2,hx,hy,h1',EVd,List.getElem?_nil,Nat.reducePow,Nat.reduceDiv,Nat.reduceMod,FT,seval]
    rw[Qaf Tryd.f97 10 Q8E];rotate_left;rfl
    simp only[a0,a1,a5,hc',hc0,hw,hj0,hj1,hj2,hx,hy,h2',EVd,List.getElem?_nil,Nat.reducePow,Nat.reduceDiv,Nat.reduceMod,FT,seval]
    rw[hcm]
    exact⟨_,.inr ⟨rfl,(by rfl)⟩⟩
   ·have h2':¬ ((b.getD j 0:Nat):Int)<((a.getD j 0:Nat):Int):=by omega
    have hp2:a.drop j=b.drop j:=by
     rw[List.drop_eq_getElem_cons (show j<a.length by omega),List.drop_eq_getElem_cons (show j<b.length by omega),hp]
     have e5:a.getD j 0=a[j]:=by rw [List.getD_eq_getElem?_getD,List.getElem?_eq_getElem (show j<a.length by omega)];rfl
     have e6:b.getD j 0=b[j]:=by rw [List.getD_eq_getElem?_getD,List.getElem?_eq_getElem (show j<b.length by omega)];rfl
     congr 1
     omega
    simp only[Qaa,ht]
    simp only[a0,a1,a5,hc',hc0,hw,hj0,Qaa,Qag,Qae,Qab,LP,Tryd.f97,FT,seval]
    rw[Qaf Tryd.f97 8 Q8a];rotate_left;rfl
    simp only[a0,a1,a5,hc',hc0,hw,hj0,hj1,hj2,hx,hy,h1',EVd,List.getElem?_nil,Nat.reducePow,Nat.reduceDiv,Nat.reduceMod,FT,seval]
    rw[Qaf Tryd.f97 10 Q8E];rotate_left;rfl
    simp only[a0,a1,a5,hc',hc0,hw,hj0,hj1,hj2,hx,hy,h2',hw2,EVd,List.getElem?_nil,Nat.reducePow,Nat.reduceDiv,Nat.reduceMod,FT,seval]
    exact .inr ⟨_,_,hc,rfl,(by rfl),(by rfl),(by rfl),hp2,⟨_,by rfl⟩⟩
 ·refine .inl ?_
  obtain rfl:i=a.length:=by omega
  have hc':¬ (((a.length:Nat):Int)<((a.length:Nat):Int)):=by omega
  have hlt:¬ ((0:Int)≤(a.length:Int)-1-a.length):=by omega
  rw[Nat.sub_self,List.drop_zero,List.drop_zero] at hp
  simp only[Qaa,ht]
  simp only[a0,a1,a5,hlt,Qaa,Qag,Qae,Qab,LP,Tryd.f97,FT,seval]
  exact⟨_,.inl ⟨rfl,hp⟩⟩
theorem Qzu (k:Nat) (a b:List Nat) (nl nl2:Bool) (cap cap2:Option Nat) (ha:Can a) (hb:Can b) (hla:a.length≤100000) (hk:a.length<k):run (k+1) 97 [sD a nl cap,sD b nl2 cap2]=some (ii (cmpN (vd a) (vd b))):=by
 rw[run,ev97,Qaq]
 by_cases h1:a.length<b.length
 ·have h1':(a.length:Int)<b.length:=by omega
  have h0:¬ (a.length:Int)=b.length:=by omega
  have hcm:cmpN (vd a) (vd b)=-1:=if_pos (QhF ha.ok hb h1)
  rw[hcm]
  simp only[Tryd.f97,ii,h0,h1',FT,seval]
 ·have h1':¬ (a.length:Int)<b.length:=by omega
  by_cases h2:b.length<a.length
  ·have h0:¬ (a.length:Int)=b.length:=by omega
   have hcm:cmpN (vd a) (vd b)=1:=by
    have:=QhF hb.ok ha h2
    unfold cmpN
    rw[if_neg (by omega),if_pos this]
   rw[hcm]
   simp only[Tryd.f97,ii,h0,h1',FT,seval]
  ·have h0:(a.length:Int)=b.length:=by omega
   have hw1:IntKind.wrap .i64 ((a.length:Int)-1)=(a.length:Int)-1:=by rw [wrap64 (by omega) (by omega)]
   have h00:(b.length:Int)=a.length:=by omega
   simp only[Tryd.f97,ii,h00,hw1,FT,seval]
   rw[Qai Qsa QBU];rotate_left;rfl;rfl;rfl
   generalize hz:Qar _ _ _ _ _ _ _ _ _ _ _ _=z
   obtain⟨l',⟨rfl,he⟩ | ⟨rfl,he⟩⟩:=Qv5 k a b nl nl2 cap cap2 ha.ok hb.ok (by omega) hla _ _ z hz hk (by rfl) (by rfl) (by rw [show (a.length:Int)-1-0=(a.length:Int)-1 by omega];rfl)
   ·clear hz
    have hcm:cmpN (vd a) (vd b)=0:=by
     rw[he]
     unfold cmpN
     rw[if_neg (by omega),if_neg (by omega)]
    rw[hcm]
    simp only[FT,seval]
   ·clear hz
    simp only[he,FT,seval]
def sgI (n:Int):Int:=if n<0 then -1 else if 0<n then 1 else 0
theorem Qz3 (k:Nat) (x:RI):run (k+1) 96 [aN x]=some (ii (sgI x.v)):=by
 rw[run,ev96,Qaq]
 by_cases h0:x.v=0
 ·have hd:dig x.v.natAbs=[]:=by rw [h0];rfl
  have hs:sgI x.v=0:=by unfold sgI;rw [if_neg (by omega),if_neg (by omega)]
  rw[aN,hd,hs]
  simp only[Tryd.f96,ii,bb,encD,List.map_nil,FT,seval]
 ·have hp:0<(dig x.v.natAbs).length:=List.length_pos_iff.2 (QlS (by omega))
  have hp':¬ ((dig x.v.natAbs).length:Int)=0:=by omega
  by_cases hn:x.v<0
  ·have hs:sgI x.v=-1:=if_pos hn
   rw[hs]
   simp only[Tryd.f96,ii,bb,aN,hp',hn,FT,seval]
  ·have hs:sgI x.v=1:=by unfold sgI;rw [if_neg hn,if_pos (by omega)]
   rw[hs]
   simp only[Tryd.f96,ii,bb,aN,hp',hn,FT,seval]
theorem Qd1 (n:Int):(sgI n=-1∧n<0)∨(sgI n=0∧n=0)∨(sgI n=1∧0<n):=by
 unfold sgI
 split
 ·exact .inl ⟨rfl,by assumption⟩
 ·split
  ·exact .inr (.inr ⟨rfl,by assumption⟩)
  ·exact .inr (.inl ⟨rfl,by omega⟩)
def cmpI (m n:Int):Int:=if m<n then -1 else if n<m then 1 else 0
theorem QEX (k:Nat) (x y:RI) (hx:(dig x.v.natAbs).length≤100000) (hy:(dig y.v.natAbs).length≤100000) (hk:(dig x.v.natAbs).length<k∧(dig y.v.natAbs).length<k):run (k+2) 72 [aN x,aN y]=some (ii (cmpI x.v y.v)):=by
 have h1:=Qz3 k x
 have h2:=Qz3 k y
 have h3:=Qzu k (dig x.v.natAbs) (dig y.v.natAbs) x.nl y.nl x.cap y.cap (QaF _) (QaF _) hx hk.1
 have h4:=Qzu k (dig y.v.natAbs) (dig x.v.natAbs) y.nl x.nl y.cap x.cap (QaF _) (QaF _) hy hk.2
 rw[Qb3,Qb3] at h3 h4
 simp only[run,ii,aN,bb] at h1 h2 h3 h4
 rw[run,ev72,Qaq]
 simp only[Tryd.f72,aN,bb,FT,seval]
 rw[Qaf Tryd.f72 1 QFX];rotate_left;rfl
 by_cases e:sgI x.v=sgI y.v
 ·by_cases hn:sgI y.v<0
  ·have hcm:cmpI x.v y.v=cmpN y.v.natAbs x.v.natAbs:=by
    rcases Qd1 x.v with ⟨s1,q1⟩ | ⟨s1,q1⟩ | ⟨s1,q1⟩<;>rcases Qd1 y.v with ⟨s2,q2⟩ | ⟨s2,q2⟩ | ⟨s2,q2⟩<;>(try omega)<;>(unfold cmpI cmpN;(repeat' split)<;>omega)
   rw[hcm]
   simp only[h1,h2,e,hn,EVd,List.getElem?_nil,Nat.reducePow,Nat.reduceDiv,Nat.reduceMod,FT,seval]
   simp only[h4,FT,seval]
  ·have hcm:cmpI x.v y.v=cmpN x.v.natAbs y.v.natAbs:=by
    rcases Qd1 x.v with ⟨s1,q1⟩ | ⟨s1,q1⟩ | ⟨s1,q1⟩<;>rcases Qd1 y.v with ⟨s2,q2⟩ | ⟨s2,q2⟩ | ⟨s2,q2⟩<;>(try omega)<;>(unfold cmpI cmpN;(repeat' split)<;>omega)
   rw[hcm]
   simp only[h1,h2,e,hn,EVd,List.getElem?_nil,Nat.reducePow,Nat.reduceDiv,Nat.reduceMod,FT,seval]
   simp only[h3,FT,seval]
 ·by_cases hlt:sgI x.v<sgI y.v
  ·have hcm:cmpI x.v y.v=-1:=by
    rcases Qd1 x.v with ⟨s1,q1⟩ | ⟨s1,q1⟩ | ⟨s1,q1⟩<;>rcases Qd1 y.v with ⟨s2,q2⟩ | ⟨s2,q2⟩ | ⟨s2,q2⟩<;>(try omega)<;>(unfold cmpI;(repeat' split)<;>omega)
   rw[hcm]
   simp only[h1,h2,e,hlt,EVd,List.getElem?_nil,Nat.reducePow,Nat.reduceDiv,Nat.reduceMod,FT,seval]
  ·have hcm:cmpI x.v y.v=1:=by
    rcases Qd1 x.v with ⟨s1,q1⟩ | ⟨s1,q1⟩ | ⟨s1,q1⟩<;>rcases Qd1 y.v with ⟨s2,q2⟩ | ⟨s2,q2⟩ | ⟨s2,q2⟩<;>(try omega)<;>(unfold cmpI;(repeat' split)<;>omega)
   rw[hcm]
   simp only[h1,h2,e,hlt,EVd,List.getElem?_nil,Nat.reducePow,Nat.reduceDiv,Nat.reduceMod,FT,seval]
abbrev nD (x:Int):List Nat:=dig x.natAbs
theorem Qiv {m n:Nat} (h:m≤n):(dig m).length≤(dig n).length:=by
 by_cases hlt:(dig n).length<(dig m).length
 ·have:=QhF (QaF n).ok (QaF m) hlt
  rw[Qb3,Qb3] at this
  omega
 ·omega
theorem Q8h (k:Nat) (x y:RI) (hx:(nD x.v).length≤50000) (hy:(nD y.v).length≤50000) (hk:(nD x.v).length+(nD y.v).length+10≤k):∃ z:RI,z.v=x.v+y.v∧run (k+2) 119 [aN x,aN y]=some (aN z):=by
 by_cases hs:decide (x.v<0)=decide (y.v<0)
 ·obtain⟨nl3,cap3,h1⟩:=QEh k (nD x.v) (nD y.v) x.nl y.nl x.cap y.cap (QaF _).ok (QaF _).ok (by omega) (by omega) (by omega)
  have hpl:=Q8W (nD x.v) (nD y.v)
  have h2:=Qcf k (decide (x.v<0)) (Qwm (nD x.v) (nD y.v)) nl3 cap3 (QAO _ _) (by omega) (by omega)
  rw[QAF (QaF _).ok (QaF _).ok,Qb3,Qb3] at h2
  have hv:sgn (decide (x.v<0)) (x.v.natAbs+y.v.natAbs)=x.v+y.v:=by
   unfold sgn
   rw[decide_eq_decide] at hs
   by_cases h:x.v<0
   ·rw[if_pos (by simpa using h)];omega
   ·rw[if_neg (by simpa using h)];omega
  rw[hv] at h2
  refine⟨⟨x.v+y.v,nl3,cap3⟩,rfl, ?_⟩
  rw[hs] at h2
  simp only[run,bb,aN] at h1 h2
  rw[run,QE4,Qaq]
  simp only[Tryd.f119,aN,bb,hs,FT,seval]
  rw[Qaf Tryd.f119 2 QDO];rotate_left;rfl
  simp only[h1,h2,EVd,List.getElem?_nil,Nat.reducePow,Nat.reduceDiv,Nat.reduceMod,FT,seval]
 ·have hs':(decide (x.v<0) == decide (y.v<0))=false:=by simpa using hs
  have h0:=Qzu k (nD x.v) (nD y.v) x.nl y.nl x.cap y.cap (QaF _) (QaF _) (by omega) (by omega)
  rw[Qb3,Qb3] at h0
  by_cases hge:y.v.natAbs≤x.v.natAbs
  ·have hc:(0:Int)≤cmpN x.v.natAbs y.v.natAbs:=by unfold cmpN;(repeat' split)<;>omega
   have hlm:=Qiv hge
   obtain⟨nl3,cap3,h1⟩:=Q0F k (nD x.v) (nD y.v) x.nl y.nl x.cap y.cap (QaF _).ok (QaF _).ok (by omega) (by omega) (by omega)
   have hpl:=Qd7 (nD x.v) (nD y.v)
   have h2:=Qcf k (decide (x.v<0)) (QdM (nD x.v) (nD y.v)) nl3 cap3 (Qhy (QaF _).ok (QaF _).ok) (by omega) (by omega)
   rw[Qm0 (QaF _).ok (QaF _).ok hlm (by rw [Qb3,Qb3];exact hge),Qb3,Qb3] at h2
   have hv:sgn (decide (x.v<0)) (x.v.natAbs-y.v.natAbs)=x.v+y.v:=by
    unfold sgn
    rw[decide_eq_decide] at hs
    by_cases h:x.v<0
    ·rw[if_pos (by simpa using h)];omega
    ·rw[if_neg (by simpa using h)];omega
   rw[hv] at h2
   refine⟨⟨x.v+y.v,nl3,cap3⟩,rfl, ?_⟩
   simp only[run,bb,aN,ii] at h0 h1 h2
   rw[run,QE4,Qaq]
   simp only[Tryd.f119,aN,bb,hs,hs',h0,hc,FT,seval]
   rw[Qaf Tryd.f119 4 QDB];rotate_left;rfl
   simp only[h1,h2,EVd,List.getElem?_nil,Nat.reducePow,Nat.reduceDiv,Nat.reduceMod,FT,seval]
  ·have hc:¬ (0:Int)≤cmpN x.v.natAbs y.v.natAbs:=by unfold cmpN;rw [if_pos (by omega)];omega
   have hlm:=Qiv (show x.v.natAbs≤y.v.natAbs by omega)
   obtain⟨nl3,cap3,h1⟩:=Q0F k (nD y.v) (nD x.v) y.nl x.nl y.cap x.cap (QaF _).ok (QaF _).ok (by omega) (by omega) (by omega)
   have hpl:=Qd7 (nD y.v) (nD x.v)
   have h2:=Qcf k (decide (y.v<0)) (QdM (nD y.v) (nD x.v)) nl3 cap3 (Qhy (QaF _).ok (QaF _).ok) (by omega) (by omega)
   rw[Qm0 (QaF _).ok (QaF _).ok hlm (by rw [Qb3,Qb3];omega),Qb3,Qb3] at h2
   have hv:sgn (decide (y.v<0)) (y.v.natAbs-x.v.natAbs)=x.v+y.v:=by
    unfold sgn
    rw[decide_eq_decide] at hs
    by_cases h:y.v<0
    ·rw[if_pos (by simpa using h)];omega
    ·rw[if_neg (by simpa using h)];omega
   rw[hv] at h2
   refine⟨⟨x.v+y.v,nl3,cap3⟩,rfl, ?_⟩
   simp only[run,bb,aN,ii] at h0 h1 h2
   rw[run,QE4,Qaq]
   simp only[Tryd.f119,aN,bb,hs,hs',h0,hc,FT,seval]
   rw[Qaf Tryd.f119 5 QDZ];rotate_left;rfl
   simp only[h1,h2,EVd,List.getElem?_nil,Nat.reducePow,Nat.reduceDiv,Nat.reduceMod,FT,seval]
theorem Qnd:∀ (l:List Nat) (k v:Nat),k<l.length→vd (l.set k v)+65536 ^ k * l.getD k 0=vd l+65536 ^ k * v
 | [],k,v,h=>by simp at h
 | d::l,0,v,_=>by simp [vd];omega
 | d::l,k+1,v,h=>by
  have ih:=Qnd l k v (by simpa using h)
  rw[List.set_cons_succ,vd,vd,Nat.pow_succ]
  have e1:(d::l).getD (k+1) 0=l.getD k 0:=by simp
  rw[e1,Nat.mul_comm (65536 ^ k) 65536,Nat.mul_assoc,Nat.mul_assoc]
  omega
theorem Q9s {l:List Nat} {i k v:Nat}:(l.set i v).getD k 0=if i=k∧i<l.length then v else l.getD k 0:=by
 rw[List.getD_eq_getElem?_getD,List.getD_eq_getElem?_getD,List.getElem?_set]
 by_cases h:i=k
 ·subst h
  by_cases h2:i<l.length
  ·simp[h2]
  ·simp[h2]
 ·simp[h]
theorem Qmi {l:List Nat} {k v:Nat} (h:okD l) (hv:v<65536):okD (l.set k v):=fun d hd=>by
 rcases List.mem_or_eq_of_mem_set hd with hd | rfl
 ·exact h d hd
 ·exact hv
def mS (O:List Nat) (x:Nat) (y:List Nat) (p:Nat):Nat→List Nat × Nat
 | 0=>(O,0)
 | j+1=>((mS O x y p j).1.set (p+j) (((mS O x y p j).2+(mS O x y p j).1.getD (p+j) 0+x * y.getD j 0) % 65536),((mS O x y p j).2+(mS O x y p j).1.getD (p+j) 0+x * y.getD j 0) / 65536)
structure MuOk (y:List Nat) (L p:Nat) (O:List Nat):Prop where
 len:O.length=L
 ok:okD O
 zero:∀ k,p+y.length≤k→O.getD k 0=0
theorem Q1p {x y:Nat} (hx:x<65536) (hy:y<65536):x * y≤4294836225:=by
 have:x * y≤65535 * 65535:=Nat.mul_le_mul (by omega) (by omega)
 omega
theorem Qhk {O:List Nat} {x:Nat} {y:List Nat} {L p:Nat} (hO:MuOk y L p O) (hx:x<65536) (hy:okD y):∀ j,j≤y.length+1 →
  (mS O x y p j).1.length=L∧okD (mS O x y p j).1∧(mS O x y p j).2≤65535∧(∀ k,p+j≤k→(mS O x y p j).1.getD k 0=O.getD k 0)
 | 0,_=>⟨hO.len,hO.ok,by simp [mS],fun k _=>rfl⟩
 | j+1,hj=>by
  obtain⟨h1,h2,h3,h4⟩:=Qhk hO hx hy j (by omega)
  have h5:=QaW h2 (p+j)
  have h6:=Q1p hx (QaW hy j)
  refine⟨by rw [mS,List.length_set];exact h1,Qmi h2 (Nat.mod_lt _ (by omega)), ?_,fun k hk=>?_⟩
  ·rw[mS];simp only;omega
  ·rw[mS]
   simp only
   rw[Q9s,if_neg (by omega)]
   exact h4 k (by omega)
theorem QFt {O:List Nat} {x:Nat} {y:List Nat} {L p:Nat} (hO:MuOk y L p O) (hx:x<65536) (hy:okD y) (hL:p+y.length<L):∀ j,j≤y.length+1 →
  vd (mS O x y p j).1+65536 ^ (p+j) * (mS O x y p j).2=vd O+65536 ^ p * (x * vd (y.take j))
 | 0,_=>by simp [mS,vd]
 | j+1,hj=>by
  have ih:=QFt hO hx hy hL j (by omega)
  obtain⟨h1,h2,h3,h4⟩:=Qhk hO hx hy j (by omega)
  have hs:=Qnd (mS O x y p j).1 (p+j) (((mS O x y p j).2+(mS O x y p j).1.getD (p+j) 0+x * y.getD j 0) % 65536) (by omega)
  rw[mS]
  simp only
  generalize (mS O x y p j).1=P at h1 h2 h4 hs ih ⊢
  generalize (mS O x y p j).2=c at h3 hs ih ⊢
  have hm:=Nat.div_add_mod (c+P.getD (p+j) 0+x * y.getD j 0) 65536
  obtain⟨s,hss⟩:∃ s,s=c+P.getD (p+j) 0+x * y.getD j 0:=⟨_,rfl⟩
  rw[← hss] at hs hm ⊢
  obtain⟨q,hq⟩:∃ q,q=65536 ^ (p+j):=⟨_,rfl⟩
  rw[Qg2,show p+(j+1)=(p+j)+1 by omega,Nat.pow_succ]
  have hpj:65536 ^ p * (x * (65536 ^ j * y.getD j 0))=q * (x * y.getD j 0):=by
   rw[hq,Nat.pow_add,Nat.mul_assoc]
   congr 1
   rw[← Nat.mul_assoc,← Nat.mul_assoc,Nat.mul_comm x]
  rw[← hq] at hs ih ⊢
  rw[Nat.mul_add x,Nat.mul_add,hpj]
  have e1:q * (s % 65536)+q * 65536 * (s / 65536)=q * s:=by
   rw[Nat.mul_assoc,← Nat.mul_add]
   congr 1
   omega
  have e2:q * s=q * c+q * P.getD (p+j) 0+q * (x * y.getD j 0):=by
   rw[hss,Nat.mul_add,Nat.mul_add]
  omega
def mN (O:List Nat) (x:Nat) (y:List Nat) (p:Nat):Nat:=y.length+(if 0<(mS O x y p y.length).2 then 1 else 0)
theorem QCM {O:List Nat} {x:Nat} {y:List Nat} {L p:Nat} (hO:MuOk y L p O) (hx:x<65536) (hy:okD y):(mS O x y p (mN O x y p)).2=0:=by
 unfold mN
 split
 ·rename_i h
  obtain⟨h1,h2,h3,h4⟩:=Qhk hO hx hy y.length (by omega)
  have h5:=h4 (p+y.length) (by omega)
  rw[hO.zero _ (by omega)] at h5
  rw[mS]
  simp only
  rw[h5,Qea (Nat.le_refl _)]
  omega
 ·rw[Nat.add_zero];omega
def mO (O:List Nat) (x:Nat) (y:List Nat) (p:Nat):List Nat:=(mS O x y p (mN O x y p)).1
theorem mO_ok {O:List Nat} {x:Nat} {y:List Nat} {L p:Nat} (hO:MuOk y L p O) (hx:x<65536) (hy:okD y):MuOk y L (p+1) (mO O x y p):=by
 have hn:mN O x y p≤y.length+1:=by unfold mN;split<;>omega
 obtain⟨h1,h2,h3,h4⟩:=Qhk hO hx hy (mN O x y p) hn
 exact⟨h1,h2,fun k hk=>by rw [mO,h4 k (by omega)];exact hO.zero k (by omega)⟩
theorem mO_vd {O:List Nat} {x:Nat} {y:List Nat} {L p:Nat} (hO:MuOk y L p O) (hx:x<65536) (hy:okD y) (hL:p+y.length<L):vd (mO O x y p)=vd O+65536 ^ p * (x * vd y):=by
 have hn:mN O x y p≤y.length+1:=by unfold mN;split<;>omega
 have hn2:y.length≤mN O x y p:=by unfold mN;omega
 have h:=QFt hO hx hy hL (mN O x y p) hn
 rw[QCM hO hx hy,Nat.mul_zero,Nat.add_zero,List.take_of_length_le hn2] at h
 exact h
def muA (x y:List Nat) (L:Nat):Nat→List Nat
 | 0=>List.replicate L 0
 | i+1=>mO (muA x y L i) (x.getD i 0) y i
theorem Q48 (L:Nat):vd (List.replicate L 0)=0:=by
 induction L with
 | zero=>rfl
 | succ n ih=>rw [List.replicate_succ,vd,ih]
theorem QBy {x y:List Nat} (hx:okD x) (hy:okD y) (L:Nat):∀ i,MuOk y L i (muA x y L i)
 | 0=>⟨by simp [muA],fun d hd=>by rw [muA] at hd;rw [List.eq_of_mem_replicate hd];omega,fun k _=>by
   rw[muA,List.getD_eq_getElem?_getD,List.getElem?_replicate];split<;>rfl⟩
 | i+1=>mO_ok (QBy hx hy L i) (QaW hx i) hy
theorem QFe {x y:List Nat} (hx:okD x) (hy:okD y) {L:Nat} (hL:L=x.length+y.length+1):∀ i,i≤x.length→vd (muA x y L i)=vd (x.take i) * vd y
 | 0,_=>by rw [muA,Q48];simp [vd]
 | i+1,hi=>by
  rw[muA,mO_vd (QBy hx hy L i) (QaW hx i) hy (by omega),QFe hx hy hL i (by omega),Qg2,Nat.add_mul,Nat.mul_assoc]
end Go.Proofs.Sw
