/- A part of the proof: what functions of the program answer; conditions stand in each theorem. -/
import Derived.Test.YtiiannaficbjeaaDoorVH
import Derived.Test.YtiiannaficbjeaaDoorVB
set_option linter.unusedVariables false
set_option linter.unusedSimpArgs false
set_option linter.unusedSectionVars false
namespace Go.Proofs.Sw
open Go.Ab
variable [Globals]
def dmQ (x y:Int):Int:=sgn (!(decide (x<0) == decide (y<0))) (vd (dvQ (nD x) (nD y)))
def dmR (x y:Int):Int:=sgn (decide (x<0)) (vd (dvR (nD x) (nD y)))
theorem QwZ {y:Int} (h:y≠0):0<(nD y).length:=List.length_pos_iff.2 (QlS (by omega))
theorem Q1l {y:Int} (h:(nD y).length=1):0<(nD y).getD 0 0:=by
 have hc:=(QaF y.natAbs).tr
 obtain⟨x,hx⟩:∃ x,nD y=[x]:=by
  cases hl:nD y with
  | nil=>rw [hl] at h;cases h
  | cons x t =>
   cases t with
   | nil=>exact ⟨x,rfl⟩
   | cons y t=>rw [hl] at h;simp at h
 rw[show dig y.natAbs=[x] from hx] at hc
 rw[hx]
 by_cases h0:x=0
 ·subst h0;cases hc
 ·simp;omega
theorem QAp {d:List Nat} (h:okD d):(dig (vd d)).length≤d.length:=by
 rw[← Ql5 h];exact QbQ d
theorem Q7R (b:Bool) (n:Nat):nD (sgn b n)=dig n:=by rw [nD,Q7W]
theorem Q6w (k:Nat) (x y:RI) (hy:y.v≠0) (hx:(nD x.v).length≤2000) (hyl:(nD y.v).length≤2000) (hk:50000≤k) :
  ∃ z w:RI,(z.v=if dmR x.v y.v<0 then dmQ x.v y.v-sgI y.v else dmQ x.v y.v)∧(w.v=if dmR x.v y.v<0 then dmR x.v y.v+y.v.natAbs else dmR x.v y.v)∧run (k+4) 121 [aN x,aN y]=some (.tup [aN z,aN w]):=by
 have hxo:okD (nD x.v):=(QaF x.v.natAbs).ok
 have hyo:okD (nD y.v):=(QaF y.v.natAbs).ok
 obtain⟨a1,a2⟩:=QCL hxo hyo (QwZ hy) Q1l
 obtain⟨b1,b2⟩:=QFH hxo hyo (QwZ hy) Q1l
 obtain⟨nl3,cap3,nl4,cap4,hd⟩:=QAf (k+1) (nD x.v) (nD y.v) x.nl y.nl x.cap y.cap hxo hyo (QwZ hy) Q1l (by omega) (by omega) (by omega)
 have hn1:=Qcf (k+2) (!(decide (x.v<0) == decide (y.v<0))) (dvQ (nD x.v) (nD y.v)) nl3 cap3 a1 (by omega) (by omega)
 have hn2:=Qcf (k+2) (decide (x.v<0)) (dvR (nD x.v) (nD y.v)) nl4 cap4 b1 (by omega) (by omega)
 have e1:dmQ x.v y.v=sgn (!(decide (x.v<0) == decide (y.v<0))) (vd (dvQ (nD x.v) (nD y.v))):=rfl
 have e2:dmR x.v y.v=sgn (decide (x.v<0)) (vd (dvR (nD x.v) (nD y.v))):=rfl
 have l1:(nD (dmQ x.v y.v)).length≤2000:=by rw [e1,Q7R];have:=QAp a1;omega
 have l2:(nD (dmR x.v y.v)).length≤32001:=by rw [e2,Q7R];have:=QAp b1;omega
 rw[← e1] at hn1
 rw[← e2] at hn2
 obtain⟨ya,hya,hab⟩:=QHO (k+1) y (by omega) (by omega)
 have hnya:nD ya.v=nD y.v:=by rw [nD,nD,hya];simp
 obtain⟨w,hw,had⟩:=Q8h (k+1) ⟨dmR x.v y.v,nl4,cap4⟩ ya (by simp only;omega) (by rw [hnya];omega) (by rw [hnya];simp only;omega)
 have hsg:=Qz3 (k+2) y
 have hs3:=Qd1 y.v
 obtain⟨s,hs,hof⟩:=Qyl (k+1) (sgI y.v) (by omega) (by omega) (by omega)
 have hls:(nD s.v).length≤10:=Nat.le_trans (Qfd (k:=4) (by rw [hs];omega)) (by omega)
 obtain⟨z,hz,hsu⟩:=QF2 k ⟨dmQ x.v y.v,nl3,cap3⟩ s (by simp only;omega) (by omega) (by simp only;omega)
 have hwr:IntKind.wrap .i64 (sgI y.v)=sgI y.v:=by rw [wrap64 (by omega) (by omega)]
 simp only[run,aN,bb,ii] at hd hn1 hn2 hab had hsg hof hsu
 by_cases hneg:dmR x.v y.v<0
 ·rw[if_pos hneg,if_pos hneg]
  refine⟨z,w,by rw [hz,hs],by rw [hw,hya], ?_⟩
  simp only[hneg,decide_true] at had
  rw[run,QHE,Qaq]
  simp only[Tryd.f121,aN,bb,hd,FT,seval]
  rw[Qaf Tryd.f121 2 Q87];rotate_left;rfl
  simp only[hn1,hn2,hneg,EVd,List.getElem?_nil,Nat.reducePow,Nat.reduceDiv,Nat.reduceMod,FT,seval]
  rw[Qaf Tryd.f121 4 QEz];rotate_left;rfl
  simp only[had,hab,hneg,decide_true,EVd,List.getElem?_nil,Nat.reducePow,Nat.reduceDiv,Nat.reduceMod,FT,seval]
  rw[Qaf Tryd.f121 5 QEi];rotate_left;rfl
  simp only[hsg,hof,hsu,hwr,EVd,List.getElem?_nil,Nat.reducePow,Nat.reduceDiv,Nat.reduceMod,FT,seval]
  rw[Qaf Tryd.f121 6 Q9f];rotate_left;rfl
  simp only[EVd,List.getElem?_nil,Nat.reducePow,Nat.reduceDiv,Nat.reduceMod,FT,seval]
  done
 ·rw[if_neg hneg,if_neg hneg]
  refine⟨⟨dmQ x.v y.v,nl3,cap3⟩,⟨dmR x.v y.v,nl4,cap4⟩,rfl,rfl, ?_⟩
  rw[run,QHE,Qaq]
  simp only[Tryd.f121,aN,bb,hd,FT,seval]
  rw[Qaf Tryd.f121 2 Q87];rotate_left;rfl
  simp only[hn1,hn2,hneg,EVd,List.getElem?_nil,Nat.reducePow,Nat.reduceDiv,Nat.reduceMod,FT,seval]
  rw[Qaf Tryd.f121 6 Q9f];rotate_left;rfl
  simp only[hn1,hn2,EVd,List.getElem?_nil,Nat.reducePow,Nat.reduceDiv,Nat.reduceMod,FT,seval]
  done
def Qf6 (x y:Int):Option Int :=
 if (if dmR x y<0 then dmR x y+y.natAbs else dmR x y)=0 then some (if dmR x y<0 then dmQ x y-sgI y else dmQ x y) else none
theorem QEy (k:Nat) (x y:RI) (hy:y.v≠0) (hx:(nD x.v).length≤2000) (hyl:(nD y.v).length≤2000) (hk:50000≤k) :
  ∃ z:RI,z.v=(Qf6 x.v y.v).getD 0∧run (k+5) 112 [aN x,aN y]=some (.tup [aN z,bb (Qf6 x.v y.v).isSome]):=by
 obtain⟨z,w,hz,hw,hd⟩:=Q6w k x y hy hx hyl hk
 unfold Qf6
 rw[← hz,← hw]
 simp only[run,aN,bb] at hd
 by_cases h0:w.v=0
 ·rw[if_pos h0]
  refine⟨z,rfl, ?_⟩
  have hl:(dig w.v.natAbs).length=0:=by rw [h0];rfl
  rw[run,QGR,Qaq]
  simp only[Tryd.f112,aN,bb,hd,hl,FT,seval]
  try rfl
 ·rw[if_neg h0]
  refine⟨⟨0,true,some 0⟩,rfl, ?_⟩
  have hl:0<(dig w.v.natAbs).length:=QwZ h0
  have hl':(0:Int)<((dig w.v.natAbs).length:Nat):=by omega
  rw[run,QGR,Qaq]
  simp only[Tryd.f112,aN,bb,hd,hl',FT,seval]
  try rfl
def QdP (op c:Int):Int:=if op=5∨op=6 then c else (vd (pwD c.toNat):Nat)
theorem QxK (k:Nat) (op to a b c:Int) (h56:(op=5∨op=6)→-9223372036854775808≤c∧c≤9223372036854775807) (h78:¬ (op=5∨op=6)→0≤c∧c≤1000) (hk:2000≤k) :
  ∃ z:RI,z.v=QdP op c∧run (k+3) 94 [aI op to a b c]=some (aN z):=by
 unfold QdP
 by_cases h:op=5∨op=6
 ·obtain⟨h1,h2⟩:=h56 h
  obtain⟨z,hz,hr⟩:=Qyl k c h1 h2 (by omega)
  rw[if_pos h]
  refine⟨z,hz, ?_⟩
  simp only[run,ii,aN,bb] at hr
  by_cases h5:op=5
  ·rw[run,ev94,Qaq]
   simp only[Tryd.f94,aI,ii,aN,bb,h5,hr,FT,seval]
  ·have h6:op=6:=by omega
   rw[run,ev94,Qaq]
   simp only[Tryd.f94,aI,ii,aN,bb,h6,hr,FT,seval]
 ·obtain⟨h1,h2⟩:=h78 h
  obtain⟨z,hz,hr⟩:=QAI k c.toNat (by omega) (by omega)
  rw[if_neg h]
  refine⟨z,hz, ?_⟩
  have hc:((c.toNat:Nat):Int)=c:=by omega
  rw[hc] at hr
  simp only[run,ii,aN,bb] at hr
  have h5:¬ op=5:=fun e=>h (.inl e)
  have h6:¬ op=6:=fun e=>h (.inr e)
  rw[run,ev94,Qaq]
  simp only[Tryd.f94,aI,ii,aN,bb,h5,h6,hr,FT,seval]
def encR:List RI→List IV
 | []=>[]
 | x::l=>.bool (decide (x.v<0)) :: .slice (encD (dig x.v.natAbs)) (dig x.v.natAbs).length x.nl x.cap::encR l
abbrev sR (l:List RI) (nl:Bool) (cap:Option Nat):AV:=.c (.slice (encR l) l.length nl cap)
theorem Qbp:∀ l:List RI,(encR l).length=l.length * 2
 | []=>rfl
 | x::l=>by rw [encR,List.length_cons,List.length_cons,Qbp l,List.length_cons];omega
theorem Qe0:∀ (a b:List RI),encR (a++b)=encR a++encR b
 | [],b=>rfl
 | x::a,b=>by rw [List.cons_append,encR,encR,Qe0 a b];rfl
def zR:RI:=⟨0,true,some 0⟩
theorem Q7Z (n:Nat):(List.replicate n [IV.bool false,IV.slice [] 0 true (some 0)]).flatten=encR (List.replicate n zR):=by
 induction n with
 | zero=>rfl
 | succ n ih=>rw [List.replicate_succ,List.replicate_succ,List.flatten_cons,ih,encR];rfl
theorem QEp (k n:Nat) (hn:n≤100000):run (k+1) 70 [ii n]=some (sR (List.replicate n zR) false none):=by
 have q1:(0:Int)≤(n:Int):=by omega
 have q2:n * 32≤roomBytes:=Nat.le_trans (show n * 32≤3200000 by omega) (by decide)
 have q3:n≤roomBytes:=Nat.le_trans (show n≤100000 by omega) (by decide)
 have hel:(encR (List.replicate n zR)).length=n * 2:=by rw [Qbp,List.length_replicate]
 have htk:(encR (List.replicate n zR)).take (n * 2)=encR (List.replicate n zR):=List.take_of_length_le (by rw [hel];exact Nat.le_refl _)
 rw[run,ev70,Qaq]
 simp only[Tryd.f70,ii,q1,q2,q3,Q7Z,hel,htk,List.length_replicate,Nat.le_refl,FT,seval]
 rw[sR,List.length_replicate]
theorem QA4 (x:Int):x.natAbs<65536 ^ (nD x).length:=by
 have:=QmJ (QaF x.natAbs).ok
 rwa [Qb3] at this
theorem Q1i (x y:Int):(nD (x * y)).length≤(nD x).length+(nD y).length:=by
 refine Qfd ?_
 rw[Int.natAbs_mul,Nat.pow_add]
 exact Nat.mul_lt_mul'' (QA4 x) (QA4 y)
theorem QCG (x y:Int) {n:Nat} (hx:(nD x).length≤n) (hy:(nD y).length≤n):(nD (x+y)).length≤n+1:=by
 refine Qfd ?_
 have h1:=QA4 x
 have h2:=QA4 y
 have h3:65536 ^ (nD x).length≤65536 ^ n:=Nat.pow_le_pow_right (by omega) hx
 have h4:65536 ^ (nD y).length≤65536 ^ n:=Nat.pow_le_pow_right (by omega) hy
 have h5:65536 ^ (n+1)=65536 ^ n * 65536:=Nat.pow_succ ..
 omega
theorem QfC:∀ {l:List RI} {i:Nat} (h:i<l.length),((encR l).drop (i * 2)).take 2=[.bool (decide (l[i].v<0)),.slice (encD (dig l[i].v.natAbs)) (dig l[i].v.natAbs).length l[i].nl l[i].cap]
 | x::l,0,_=>rfl
 | x::l,i+1,h=>by
  have ih:=QfC (l:=l) (i:=i) (by simpa using h)
  rw[encR,show (i+1) * 2=i * 2+1+1 by omega]
  exact ih
def cmbV (c d:Int) (A B:List RI) (i:Nat):List Int:=(List.range i).map fun j=>c * (A.getD j zR).v+d * (B.getD j zR).v
theorem Q73 (c d:Int) (A B:List RI) (i:Nat):cmbV c d A B (i+1)=cmbV c d A B i++[c * (A.getD i zR).v+d * (B.getD i zR).v]:=by simp [cmbV,List.range_succ]
theorem Q7q (kf:Nat) (c d:RI) (A B:List RI) (nl nl2:Bool) (cap cap2:Option Nat) (hAB:A.length≤B.length) (hA:A.length≤1000) (L:Nat) (hL:L≤10000) (hc1:(nD c.v).length≤L) (hd1:(nD d.v).length≤L) (hAl:∀ x ∈ A,(nD x.v).length≤L) (hBl:∀ x ∈ B,(nD x.v).length≤L) (hkf:50000≤kf) (k:Nat) (l:Ass) (z:Option Out) (hz:Qar Tryd.prog tab (kf+2) none Qrq 110 34 [1,3,4,6,9,10] 3 k l ([lo 58 0 (encR []),.cells 58 [bb (decide (c.v<0)),sD (dig c.v.natAbs) c.nl c.cap],.cells 58 [bb (decide (d.v<0)),sD (dig d.v.natAbs) d.nl d.cap]])=z) (hk:A.length<k) (a1:asc l 1=sR A nl cap) (a3:asc l 3=sR B nl2 cap2) (a4:asc l 4=.ptr 1 0) (a6:asc l 6=.ptr 2 0) (a9:asc l 9=lv 0 2 0) (a10:asc l 10=ii 0) :
  ∃ l' Z,z=some (.exit 0 (fr 34 l') [lo 58 A.length (encR Z),.cells 58 [bb (decide (c.v<0)),sD (dig c.v.natAbs) c.nl c.cap],.cells 58 [bb (decide (d.v<0)),sD (dig d.v.natAbs) d.nl d.cap]])∧asc l' 9=lv 0 2 A.length∧Z.map RI.v=cmbV c.v d.v A B A.length:=by
 subst hz
 refine Qa1 A.length (fun k l H=>Qar Tryd.prog tab (kf+2) none Qrq 110 34 [1,3,4,6,9,10] 3 k l H)
  (fun i l H=>∃ (Z:List RI),asc l 1=sR A nl cap∧asc l 3=sR B nl2 cap2∧asc l 4=.ptr 1 0∧asc l 6=.ptr 2 0∧asc l 9=lv 0 2 i∧asc l 10=ii i∧((Z.map RI.v=cmbV c.v d.v A B i))∧H=([lo 58 i (encR Z),.cells 58 [bb (decide (c.v<0)),sD (dig c.v.natAbs) c.nl c.cap],.cells 58 [bb (decide (d.v<0)),sD (dig d.v.natAbs) d.nl d.cap]]))
  (fun z=>∃ l' Z,z=some (.exit 0 (fr 34 l') [lo 58 A.length (encR Z),.cells 58 [bb (decide (c.v<0)),sD (dig c.v.natAbs) c.nl c.cap],.cells 58 [bb (decide (d.v<0)),sD (dig d.v.natAbs) d.nl d.cap]])∧asc l' 9=lv 0 2 A.length∧Z.map RI.v=cmbV c.v d.v A B A.length) ?_ A.length 0 k l _ (by omega) hk ⟨[],a1,a3,a4,a6,a9,a10,rfl,rfl⟩
 clear hk a1 a3 a4 a6 a9 a10
 rintro i k l H hi ⟨Z,a1,a3,a4,a6,a9,a10,hp,rfl⟩
 have ht:trim 3 (fr 34 (keep l [1,3,4,6,9,10])) ([lo 58 i (encR Z),.cells 58 [bb (decide (c.v<0)),sD (dig c.v.natAbs) c.nl c.cap],.cells 58 [bb (decide (d.v<0)),sD (dig d.v.natAbs) d.nl d.cap]])=([lo 58 i (encR Z),.cells 58 [bb (decide (c.v<0)),sD (dig c.v.natAbs) c.nl c.cap],.cells 58 [bb (decide (d.v<0)),sD (dig d.v.natAbs) d.nl d.cap]]):=by
  exact Qc8 rfl
 by_cases hc:i<A.length
 ·have hc':(i:Int)<((A.length:Nat):Int):=by omega
  have hc0:(0:Int)≤i:=by omega
  have hw:IntKind.wrap .i64 ((i:Int)+1)=((i+1:Nat):Int):=by rw [wrap64 (by omega) (by omega)];omega
  have hcB:i<B.length:=by omega
  have hx:=QfC hc
  have hy:=QfC hcB
  obtain⟨u,hu,hm1⟩:=QBQ kf c A[i] (by omega) (by have:=hAl _ (List.getElem_mem hc);omega) (by have:=hAl _ (List.getElem_mem hc);omega)
  obtain⟨v,hv,hm2⟩:=QBQ kf d B[i] (by omega) (by have:=hBl _ (List.getElem_mem hcB);omega) (by have:=hBl _ (List.getElem_mem hcB);omega)
  have hZl:Z.length=i:=by have:=congrArg List.length hp;simpa [cmbV] using this
  have hx2:i * 2+2≤A.length * 2:=by omega
  have hy2:i * 2+2≤B.length * 2:=by omega
  have hla:=hAl _ (List.getElem_mem hc)
  have hlb:=hBl _ (List.getElem_mem hcB)
  have hlu:(nD u.v).length≤20000:=by rw [hu];have:=Q1i c.v A[i].v;omega
  have hlv:(nD v.v).length≤20000:=by rw [hv];have:=Q1i d.v B[i].v;omega
  obtain⟨w,hww,had⟩:=Q8h kf u v (by omega) (by omega) (by omega)
  simp only[run,aN,bb] at hm1 hm2 had
  have hiB:(i:Int)<B.length:=by omega
  have hela:=Qbp A
  have helb:=Qbp B
  have hap:=fun (X:Heap) (y z:IV)=>Qgq (e:=58) (s:=0) (n:=i) (m:=1) (sz:=2) (by_:=32) (cells:=encR Z) (cs:=[y,z]) (H:=lo 58 i (encR Z)::X) (by decide) (Nat.le_trans (Nat.mul_le_mul_right 32 (show i+1≤20001 by omega)) (by decide)) (by decide) (by rfl) (by rw [Qbp,hZl])
  simp only[Qaa,ht]
  simp only[a1,a3,a4,a6,a9,a10,hc',hc0,hw,hx2,Qaa,Qag,Qae,Qab,LP,Tryd.f110,FT,seval]
  rw[Qaf Tryd.f110 5 QE6];rotate_left;rfl
  simp only[a1,a3,a4,a6,a9,a10,hc',hc0,hw,hx,hx2,hy,hy2,List.map_cons,List.map_nil,hcB,hiB,hela,helb,hm1,hm2,had,hap,EVd,List.getElem?_nil,Nat.reducePow,Nat.reduceDiv,Nat.reduceMod,FT,seval]
  refine .inr ⟨_,_,hc,rfl,Z++[w],(by rfl),(by rfl),(by rfl),(by rfl),(by rfl),(by rfl), ?_, ?_⟩
  ·rw[List.map_append,hp,Q73]
   simp[hww,hu,hv,hc,hcB]
  ·rw[Qe0];rfl
 ·refine .inl ?_
  obtain rfl:i=A.length:=by omega
  have hc':¬ (((A.length:Nat):Int)<((A.length:Nat):Int)):=by omega
  simp only[Qaa,ht]
  simp only[a1,a3,a4,a6,a9,a10,hc',Qaa,Qag,Qae,Qab,LP,Tryd.f110,FT,seval]
  exact⟨_,Z,rfl,(by rfl),hp⟩
theorem Qif (k:Nat) (c d:RI) (A B:List RI) (nl nl2:Bool) (cap cap2:Option Nat) (hAB:A.length≤B.length) (hA:A.length≤1000) (L:Nat) (hL:L≤10000) (hc1:(nD c.v).length≤L) (hd1:(nD d.v).length≤L) (hAl:∀ x ∈ A,(nD x.v).length≤L) (hBl:∀ x ∈ B,(nD x.v).length≤L) (hk:50000≤k) :
  ∃ (Z:List RI) (nl3:Bool) (cap3:Option Nat),Z.map RI.v=cmbV c.v d.v A B A.length∧run (k+3) 110 [aN c,sR A nl cap,aN d,sR B nl2 cap2]=some (sR Z nl3 cap3):=by
 rw[run,ev110,Qaq]
 simp only[Tryd.f110,aN,bb,FT,seval]
 rw[Qai Qrq QDH];rotate_left;rfl;rfl;rfl
 generalize hz:Qar _ _ _ _ _ _ _ _ _ _ _ _=z
 obtain⟨l',Z,rfl,e9,hp⟩:=Q7q k c d A B nl nl2 cap cap2 hAB hA L hL hc1 hd1 hAl hBl hk _ _ z hz (by omega) (by rfl) (by rfl) (by rfl) (by rfl) (by rfl) (by rfl)
 clear hz
 have hZl:Z.length=A.length:=by have:=congrArg List.length hp;simpa [cmbV] using this
 have hel:(encR Z).length=A.length * 2:=by rw [Qbp,hZl]
 refine⟨Z,decide (A.length=0),if A.length=0 then some 0 else none,hp, ?_⟩
 simp only[e9,hel,FT,seval]
 rw[sR,hZl]
 try rfl
theorem len1 {n:Int} (h:n.natAbs≤1):(nD n).length≤1:=Qfd (k:=1) (by omega)
theorem QE3 (k:Nat) (A B:List RI) (nl nl2:Bool) (cap cap2:Option Nat) (hAB:A.length≤B.length) (hA:A.length≤1000) (L:Nat) (hL:L≤10000) (hL1:1≤L) (hAl:∀ x ∈ A,(nD x.v).length≤L) (hBl:∀ x ∈ B,(nD x.v).length≤L) (hk:50000≤k) :
  ∃ (Z:List RI) (nl3:Bool) (cap3:Option Nat),Z.map RI.v=cmbV 1 1 A B A.length∧run (k+4) 92 [sR A nl cap,sR B nl2 cap2]=some (sR Z nl3 cap3):=by
 obtain⟨o,ho,h1⟩:=Qyl (k+1) 1 (by omega) (by omega) (by omega)
 obtain⟨Z,nl3,cap3,hZ,h2⟩:=Qif k o o A B nl nl2 cap cap2 hAB hA L hL (by rw [ho];exact Nat.le_trans (len1 (by decide)) hL1) (by rw [ho];exact Nat.le_trans (len1 (by decide)) hL1) hAl hBl hk
 rw[ho] at hZ
 refine⟨Z,nl3,cap3,hZ, ?_⟩
 simp only[run,aN,bb,ii] at h1 h2
 rw[run,ev92,Qaq]
 simp only[Tryd.f92,h1,h2,FT,seval]
 try (rw [Qaf Tryd.f92 1 dr92_1];rotate_left;rfl)
 try simp only [h1,h2,EVd,List.getElem?_nil,Nat.reducePow,Nat.reduceDiv,Nat.reduceMod,FT,seval]
theorem QE8 (k:Nat) (A B:List RI) (nl nl2:Bool) (cap cap2:Option Nat) (hAB:A.length≤B.length) (hA:A.length≤1000) (L:Nat) (hL:L≤10000) (hL1:1≤L) (hAl:∀ x ∈ A,(nD x.v).length≤L) (hBl:∀ x ∈ B,(nD x.v).length≤L) (hk:50000≤k) :
  ∃ (Z:List RI) (nl3:Bool) (cap3:Option Nat),Z.map RI.v=cmbV 1 (-1) A B A.length∧run (k+4) 93 [sR A nl cap,sR B nl2 cap2]=some (sR Z nl3 cap3):=by
 obtain⟨o,ho,h1⟩:=Qyl (k+1) 1 (by omega) (by omega) (by omega)
 obtain⟨m,hm,h3⟩:=Qyl (k+1) (-1) (by omega) (by omega) (by omega)
 obtain⟨Z,nl3,cap3,hZ,h2⟩:=Qif k o m A B nl nl2 cap cap2 hAB hA L hL (by rw [ho];exact Nat.le_trans (len1 (by decide)) hL1) (by rw [hm];exact Nat.le_trans (len1 (by decide)) hL1) hAl hBl hk
 rw[ho,hm] at hZ
 refine⟨Z,nl3,cap3,hZ, ?_⟩
 simp only[run,aN,bb,ii] at h1 h2 h3
 rw[run,ev93,Qaq]
 simp only[Tryd.f93,h1,h2,h3,FT,seval]
 try (rw [Qaf Tryd.f93 1 dr93_1];rotate_left;rfl)
 try simp only [h1,h2,h3,EVd,List.getElem?_nil,Nat.reducePow,Nat.reduceDiv,Nat.reduceMod,FT,seval]
theorem QwD (k:Nat) (A:List RI) (c:RI) (nl:Bool) (cap:Option Nat) (hA:A.length≤1000) (L:Nat) (hL:L≤10000) (hc1:(nD c.v).length≤L) (hAl:∀ x ∈ A,(nD x.v).length≤L) (hk:50000≤k) :
  ∃ (Z:List RI) (nl3:Bool) (cap3:Option Nat),Z.map RI.v=cmbV c.v 0 A A A.length∧run (k+4) 91 [sR A nl cap,aN c]=some (sR Z nl3 cap3):=by
 obtain⟨Z,nl3,cap3,hZ,h2⟩:=Qif k c zR A A nl nl cap cap (Nat.le_refl _) hA L hL hc1 (by show (nD 0).length≤L;exact Nat.zero_le _) hAl hAl hk
 refine⟨Z,nl3,cap3,hZ, ?_⟩
 have h3:ans (Qav Tryd.prog (Qac tab) (k+3) (.fn 110) [.agg [.c (.bool (decide (c.v<0))),sD (dig c.v.natAbs) c.nl c.cap],sR A nl cap,.agg [.c (.bool false),.c (.slice [] 0 true (some 0))],sR A nl cap] [])=some (sR Z nl3 cap3):=h2
 rw[run,ev91,Qaq]
 simp only[Tryd.f91,aN,bb,h3,FT,seval]
 try (rw [Qaf Tryd.f91 1 dr91_1];rotate_left;rfl)
 try simp only [h3,EVd,List.getElem?_nil,Nat.reducePow,Nat.reduceDiv,Nat.reduceMod,FT,seval]
theorem QBR (n:Nat):vd (pwD n)=2 ^ n:=by
 have h:=Qnd (List.replicate (n / 16+1) 0) (n / 16) (2 ^ (n % 16)) (by simp)
 rw[show (List.replicate (n / 16+1) 0).getD (n / 16) 0=0 by simp [List.getD_eq_getElem?_getD],Q48,Nat.mul_zero,Nat.add_zero,Nat.zero_add] at h
 rw[pwD,h,show (65536:Nat)=2 ^ 16 from rfl,← Nat.pow_mul,← Nat.pow_add]
 congr 1
 omega
def cmbL (c d:Int) (a b:List Int):List Int:=(List.range a.length).map fun j=>c * a.getD j 0+d * b.getD j 0
theorem Qcq (c d:Int) (a b:List Int):(cmbL c d a b).length=a.length:=by simp [cmbL]
theorem QCh (A:List RI) (j:Nat):(A.getD j zR).v=(A.map RI.v).getD j 0:=by
 rw[List.getD_eq_getElem?_getD,List.getD_eq_getElem?_getD,List.getElem?_map]
 cases A[j]?<;>rfl
theorem Q4x (c d:Int) (A B:List RI):cmbV c d A B A.length=cmbL c d (A.map RI.v) (B.map RI.v):=by
 unfold cmbV cmbL
 rw[List.length_map]
 refine List.map_congr_left fun j _=>?_
 rw[QCh,QCh]
theorem Q6k {a b:List Int} (h:a.length=b.length):cmbL 1 1 a b=cmbL 1 1 b a:=by
 unfold cmbL
 rw[h]
 refine List.map_congr_left fun j _=>?_
 omega
def Qcx:List Int→Int→Option (List Int)
 | [],_=>some []
 | x::l,c=>match Qf6 x c with
  | none=>none
  | some q=>(Qcx l c).map (q :: ·)
theorem Qdj:∀ {l:List Int} {c:Int} {q:List Int},Qcx l c=some q→q.length=l.length
 | [],c,q,h=>by obtain rfl:=Option.some.inj h;rfl
 | x::l,c,q,h=>by
  rw[Qcx] at h
  cases hv:Qf6 x c with
  | none=>rw [hv] at h;cases h
  | some y =>
   rw[hv] at h
   cases hl:Qcx l c with
   | none=>rw [hl] at h;cases h
   | some z =>
    rw[hl] at h
    obtain rfl:=Option.some.inj h
    simp[Qdj hl]
def rowF (op c:Int) (a b:List Int):Option (List Int) :=
 if op=2 then some (cmbL (-1) 0 a a) else if op=3 then some (cmbL 1 1 a b) else if op=4 then some (cmbL 1 (-1) a b) else
 if op=5∨op=7 then some (cmbL (QdP op c) 0 a a) else if op=6∨op=8 then Qcx a (QdP op c) else some a
theorem Qzx {op c:Int} {a b v:List Int} (h:rowF op c a b=some v):v.length=a.length:=by
 unfold rowF at h
 split at h
 ·obtain rfl:=Option.some.inj h;exact Qcq ..
 split at h
 ·obtain rfl:=Option.some.inj h;exact Qcq ..
 split at h
 ·obtain rfl:=Option.some.inj h;exact Qcq ..
 split at h
 ·obtain rfl:=Option.some.inj h;exact Qcq ..
 split at h
 ·exact Qdj h
 ·obtain rfl:=Option.some.inj h;rfl
def QbX (L:Nat):Sem (List Int) where
 f:=rowF
 d:=List.replicate L 0
 G:=fun a=>a.length=L
 one:=fun c a b=>rfl
 two:=fun o c a b b' h3 h4=>by simp only [rowF,h3,h4,if_false]
 comm:=fun c a b ha hb=>by show some _=some _;rw [Q6k (by rw [ha,hb])]
 good:=fun o c a b v ha _ h=>by rw [Qzx h];exact ha
 gd:=by simp
theorem QH6 (x:Int):nD (-x)=nD x:=by simp [nD]
theorem QE2 (x:Int) {s:Int} (hs:s.natAbs≤1) {n:Nat} (hx:(nD x).length≤n):(nD (x-s)).length≤n+2:=by
 have h1:(nD (-s)).length≤n+1:=by rw [QH6];exact Nat.le_trans (len1 hs) (by omega)
 have:=QCG x (-s) (n:=n+1) (by omega) h1
 rwa [← Int.sub_eq_add_neg] at this
theorem Q9l {x y q:Int} (hy:y≠0) (h:Qf6 x y=some q):(nD q).length≤(nD x).length+2:=by
 have hd:=QCL (a:=nD x) (b:=nD y) (QaF _).ok (QaF _).ok (QwZ hy) Q1l
 have hq:(nD (dmQ x y)).length≤(nD x).length:=by
  unfold dmQ
  rw[Q7R]
  exact Nat.le_trans (QAp hd.1) hd.2
 have hs:(nD (dmQ x y-sgI y)).length≤(nD x).length+2:=by
  refine QE2 _ ?_ hq
  unfold sgI
  split<;>(try split)<;>decide
 unfold Qf6 at h
 by_cases h1:dmR x y<0
 ·simp only[h1,if_true] at h
  by_cases h2:dmR x y+(y.natAbs:Int)=0
  ·rw[if_pos h2] at h
   obtain rfl:=Option.some.inj h
   exact hs
  ·rw[if_neg h2] at h;cases h
 ·simp only[h1,if_false] at h
  by_cases h2:dmR x y=0
  ·rw[if_pos h2] at h
   obtain rfl:=Option.some.inj h
   omega
  ·rw[if_neg h2] at h;cases h
def divI (c a:Int):Option Int:=if a % c=0 then some (a / c) else none
theorem QBv {c:Int} (q:Int) (hc:c≠0):divI c (c * q)=some q:=by
 unfold divI
 rw[if_pos (Int.mul_emod_right c q),Int.mul_ediv_cancel_left q hc]
theorem Qsr {c a q:Int} (h:divI c a=some q):a=c * q:=by
 unfold divI at h
 split at h
 ·rename_i hm
  obtain rfl:=Option.some.inj h
  have:=Int.emod_add_mul_ediv a c
  rw[hm,Int.zero_add] at this
  exact this.symm
 ·cases h
theorem Q3p {c a q:Int} (hc:c≠0):divI c a=some q↔a=c * q:=⟨Qsr,fun h=>by rw [h,QBv q hc]⟩
theorem QtU {l:List Nat} (h:okD l) (hg:65536 ^ (l.length-1)≤vd l):Can l:=by
 by_cases h0:l=[]
 ·subst h0;exact Qk1
 refine⟨h, ?_⟩
 have h1:=QbA l
 have h2:=QbQ l
 have hp:0<l.length:=List.length_pos_iff.2 h0
 by_cases h3:(Qa6 l).length=l.length
 ·rw[h1,h3,List.take_length]
 ·exfalso
  have h4:vd (Qa6 l)<65536 ^ (Qa6 l).length:=QmJ (by rw [h1];exact fun d hd=>h d (List.mem_of_mem_take hd))
  rw[Qe5] at h4
  have h5:65536 ^ (Qa6 l).length≤65536 ^ (l.length-1):=Nat.pow_le_pow_right (by omega) (by omega)
  omega
theorem QEc {l:List Nat} {j:Nat} (h:j<l.length):vd (l.drop j)=l.getD j 0+65536 * vd (l.drop (j+1)):=by
 rw[List.drop_eq_getElem_cons h,vd,List.getD_eq_getElem?_getD,List.getElem?_eq_getElem h];rfl
theorem Qv7 {l:List Nat} {i k v:Nat}:(l.set i v).getD k 0=if k=i∧i<l.length then v else l.getD k 0:=by
 rw[List.getD_eq_getElem?_getD,List.getD_eq_getElem?_getD,List.getElem?_set]
 by_cases h:i=k
 ·subst h
  by_cases h2:i<l.length
  ·simp[h2]
  ·simp[h2]
 ·simp[h,show ¬ k=i from fun e=>h e.symm]
theorem QCq {a:List Nat} {b:Nat} (ha:okD a) (hb:0<b):∀ i,i≤a.length→vd (dvS a b i).1 * b+65536 ^ (a.length-i) * (dvS a b i).2=65536 ^ (a.length-i) * vd (a.drop (a.length-i))∧∀ j,j<a.length-i→(dvS a b i).1.getD j 0=0
 | 0,_=>by
  constructor
  ·simp[dvS,Q48,vd]
  ·intro j hj
   rw[dvS,List.getD_eq_getElem?_getD,List.getElem?_replicate]
   split<;>rfl
 | i+1,hi=>by
  obtain⟨h1,h2⟩:=QCq ha hb i (by omega)
  obtain⟨l1,l2,l3⟩:=QlR ha hb i
  obtain⟨j,hj⟩:∃ j,a.length=j+1+i:=⟨a.length-1-i,by omega⟩
  have e1:a.length-1-i=j:=by omega
  have e2:a.length-(i+1)=j:=by omega
  have e3:a.length-i=j+1:=by omega
  rw[e3] at h1 h2
  rw[dvS,e1,e2]
  obtain⟨Q,hQ⟩:∃ Q,Q=(dvS a b i).1:=⟨_,rfl⟩
  obtain⟨r,hr⟩:∃ r,r=(dvS a b i).2:=⟨_,rfl⟩
  rw[← hQ] at h1 h2 l1 ⊢
  rw[← hr] at h1 l3 ⊢
  constructor
  ·have hs:=Qnd Q j ((r * 65536+a.getD j 0) / b) (by omega)
   rw[h2 j (by omega),Nat.mul_zero,Nat.add_zero] at hs
   rw[hs,QEc (by omega)]
   have hd:=Nat.div_add_mod (r * 65536+a.getD j 0) b
   obtain⟨q,hq⟩:∃ q,q=(r * 65536+a.getD j 0) / b:=⟨_,rfl⟩
   obtain⟨m,hm⟩:∃ m,m=(r * 65536+a.getD j 0) % b:=⟨_,rfl⟩
   rw[← hq,← hm] at hd ⊢
   obtain⟨p,hp⟩:∃ p,p=65536 ^ j:=⟨_,rfl⟩
   rw[Nat.pow_succ] at h1
   rw[← hp] at h1 ⊢
   rw[Nat.add_mul,Nat.mul_assoc,Nat.mul_comm q b,Nat.add_assoc,← Nat.mul_add p,hd]
   rw[Nat.mul_assoc,Nat.mul_assoc] at h1
   rw[Nat.mul_add,Nat.mul_add,Nat.mul_comm r 65536]
   omega
  ·intro j' hj'
   rw[Qv7,if_neg (by omega)]
   exact h2 j' (by omega)
theorem QCl {R:List Nat} {c:Nat} (hR:okD R) (hc:c≤2):∀ i,i≤R.length→vd (dbS R c i).1+65536 ^ i * (dbS R c i).2=vd R+vd (R.take i)+c∧∀ j,i≤j→(dbS R c i).1.getD j 0=R.getD j 0
 | 0,_=>⟨by simp [dbS,vd],fun _ _=>rfl⟩
 | i+1,hi=>by
  obtain⟨h1,h2⟩:=QCl hR hc i (by omega)
  obtain⟨l1,l2,l3⟩:=Qp7 hR hc i
  rw[dbS]
  obtain⟨P,hP⟩:∃ P,P=(dbS R c i).1:=⟨_,rfl⟩
  obtain⟨q,hq⟩:∃ q,q=(dbS R c i).2:=⟨_,rfl⟩
  rw[← hP] at h1 h2 l1 ⊢
  rw[← hq] at h1 ⊢
  constructor
  ·have hs:=Qnd P i ((q+2 * P.getD i 0) % 65536) (by omega)
   have hx:=h2 i (Nat.le_refl _)
   have hd:=Nat.div_add_mod (q+2 * P.getD i 0) 65536
   obtain⟨m,hm⟩:∃ m,m=(q+2 * P.getD i 0) % 65536:=⟨_,rfl⟩
   obtain⟨d,hdd⟩:∃ d,d=(q+2 * P.getD i 0) / 65536:=⟨_,rfl⟩
   rw[← hm] at hs hd ⊢
   rw[← hdd] at hd ⊢
   rw[hx] at hs hd
   rw[Qg2,Nat.pow_succ]
   obtain⟨p,hp⟩:∃ p,p=65536 ^ i:=⟨_,rfl⟩
   rw[← hp] at hs h1 ⊢
   rw[Nat.mul_assoc]
   have e:p * (65536 * d)+p * m=p * q+(p * R.getD i 0+p * R.getD i 0):=by rw [← Nat.mul_add,hd,Nat.mul_add,Nat.mul_left_comm];omega
   simp only
   omega
  ·intro j hj
   rw[Qv7,if_neg (by omega)]
   exact h2 j (by omega)
theorem QFd {a:List Nat} (ha:okD a) (k:Nat):bitV a k=vd a / 2 ^ k % 2:=by
 have hg:=QaW ha (k / 16)
 have hb:bitV a k=(a.getD (k / 16) 0 / 2 ^ (k % 16)) % 2:=by
  unfold bitV
  have hlt:a.getD (k / 16) 0 / 2 ^ (k % 16)<65536:=Nat.lt_of_le_of_lt (Nat.div_le_self _ _) hg
  rw[BitVec.toNat_and,Qf0 hlt,show (BitVec.ofInt 32 1).toNat=1 by decide,Nat.and_one_is_mod]
 rw[hb]
 have e:2 ^ k=65536 ^ (k / 16) * 2 ^ (k % 16):=by
  rw[show (65536:Nat)=2 ^ 16 from rfl,← Nat.pow_mul,← Nat.pow_add]
  congr 1
  omega
 rw[e,← Nat.div_div_eq_div_mul]
 by_cases hl:k / 16<a.length
 ·have hs:=QjX a (k / 16) hl
  have ht:vd (a.take (k / 16))<65536 ^ (k / 16):=by
   have:=QmJ (l:=a.take (k / 16)) (fun d hd=>ha d (List.mem_of_mem_take hd))
   rwa [List.length_take,show min (k / 16) a.length=k / 16 by omega] at this
  have hp:0<65536 ^ (k / 16):=Nat.pow_pos (by omega)
  have hq:vd a / 65536 ^ (k / 16)=a.getD (k / 16) 0+65536 * vd (a.drop (k / 16+1)):=by
   rw[hs,Nat.add_comm,Nat.mul_add_div hp,Nat.div_eq_of_lt ht,Nat.add_zero]
  rw[hq]
  obtain⟨m,hm⟩:∃ m,m=k % 16:=⟨_,rfl⟩
  have hm16:m<16:=by rw [hm];exact Nat.mod_lt _ (by omega)
  rw[← hm]
  have h2:(65536:Nat)=2 ^ m * (2 * 2 ^ (15-m)):=by
   rw[show (65536:Nat)=2 ^ 16 from rfl,show 2 * 2 ^ (15-m)=2 ^ (15-m+1) by rw [Nat.pow_succ];omega,← Nat.pow_add]
   congr 1
   omega
  rw[h2,Nat.mul_assoc,Nat.add_comm,Nat.mul_add_div (Nat.pow_pos (by omega)),Nat.mul_assoc,Nat.add_comm,Nat.add_mul_mod_self_left]
 ·have hv:vd a<65536 ^ (k / 16):=Nat.lt_of_lt_of_le (QmJ ha) (Nat.pow_le_pow_right (by omega) (by omega))
  rw[Nat.div_eq_of_lt hv,List.getD_eq_getElem?_getD,List.getElem?_eq_none (by omega)]
  simp
theorem QEl {a:List Nat} (ha:okD a):vd a<2 ^ Qbm a:=by
 unfold Qbm
 split
 ·rename_i h
  have:=List.eq_nil_of_length_eq_zero h
  subst this
  simp[vd]
 ·rename_i h
  obtain⟨l,x,hx⟩:∃ l x,a=l++[x]:=⟨a.dropLast,a.getLast (by intro e;rw [e] at h;simp at h),(List.dropLast_concat_getLast _).symm⟩
  subst hx
  rw[Qfw]
  have hl:(l++[x]).length-1=l.length:=by simp
  rw[hl]
  have hg:(l++[x]).getD l.length 0=x:=by
   rw[List.getD_eq_getElem?_getD,List.getElem?_append_right (Nat.le_refl _)];simp
  rw[hg,Nat.pow_add,Nat.pow_mul,show (2:Nat) ^ 16=65536 from rfl]
  have h1:vd l<65536 ^ l.length:=QmJ (Q5A.1 ha).1
  have h2:x<2 ^ tb x:=by
   by_cases h3:x<2 ^ tb x
   ·exact h3
   ·have:=(QAZ (t:=x) (i:=tb x)).2 (Nat.div_pos (by omega) (Nat.pow_pos (by omega)))
    omega
  have h3:65536 ^ l.length * (x+1)≤65536 ^ l.length * 2 ^ tb x:=Nat.mul_le_mul_left _ h2
  rw[Nat.mul_add,Nat.mul_one] at h3
  omega
theorem QER {a R:List Nat} {k:Nat} (ha:okD a) (hR:Can R):vd (dgR a R k)=2 * vd R+vd a / 2 ^ k % 2∧Can (dgR a R k):=by
 have hc:=Qyb a k
 obtain⟨h1,_⟩:=QCl (c:=bitV a k) hR.ok (by omega) R.length (Nat.le_refl _)
 obtain⟨l1,l2,l3⟩:=Qp7 (c:=bitV a k) hR.ok (by omega) R.length
 obtain⟨k1,_⟩:=Q9c (a:=a) (k:=k) hR.ok
 rw[List.take_length] at h1
 rw[← QFd ha k]
 have hv:vd (dgR a R k)=2 * vd R+bitV a k:=by
  unfold dgR
  split
  ·rw[Qfw,l1];omega
  ·rename_i h
   rw[show (dbS R (bitV a k) R.length).2=0 by omega,Nat.mul_zero] at h1
   omega
 refine⟨hv, ?_⟩
 by_cases h0:R=[]
 ·subst h0
  have hz:∀ c,dbS [] c ([]:List Nat).length=([],c):=fun c=>rfl
  unfold dgR
  rw[hz]
  split
  ·rename_i hp
   have hp':0<bitV a k:=hp
   refine QtU (Qe9.2 ⟨by simp only;omega,QrI⟩) ?_
   simp[vd]
   omega
  ·exact Qk1
 refine QtU k1 ?_
 by_cases hc0:0<(dbS R (bitV a k) R.length).2
 ·have e:dgR a R k=(dbS R (bitV a k) R.length).1++[(dbS R (bitV a k) R.length).2]:=by unfold dgR;rw [if_pos hc0]
  rw[e,Qfw,List.length_append,l1]
  simp only[List.length_cons,List.length_nil,Nat.zero_add,Nat.add_sub_cancel]
  have:65536 ^ R.length * 1≤65536 ^ R.length * (dbS R (bitV a k) R.length).2:=Nat.mul_le_mul_left _ hc0
  omega
 ·have e:(dgR a R k).length=R.length:=by unfold dgR;rw [if_neg hc0,l1]
  rw[hv,e]
  have:=QHg hR h0
  omega
theorem QC0 {a b:List Nat} (ha:Can a) (hb:Can b):0≤szD a b↔vd b≤vd a:=by
 unfold szD
 by_cases h1:a.length<b.length
 ·rw[if_pos h1]
  have:=QhF ha.ok hb h1
  omega
 ·rw[if_neg h1]
  by_cases h2:b.length<a.length
  ·rw[if_pos h2]
   have:=QhF hb.ok ha h2
   omega
  ·rw[if_neg h2]
   unfold cmpN
   split
   ·omega
   ·split<;>omega
theorem Q9i {q k Q:Nat} (h:q<65536) (hq:q=2 ^ (k % 16+1) * Q):orV q k=q+2 ^ (k % 16):=by
 have hp:=p16 k
 have h2:(BitVec.ofInt 32 ((2 ^ (k % 16):Nat):Int)).toNat=2 ^ (k % 16):=Qf0 hp
 unfold orV
 rw[BitVec.toNat_or,Qf0 h,h2,hq]
 exact(Nat.two_pow_add_eq_or_of_lt (i:=k % 16+1) (b:=2 ^ (k % 16)) (Nat.pow_lt_pow_right (by omega) (by omega)) Q).symm
theorem QDd {a b:List Nat} (ha:okD a) (hb:Can b) (hb0:0<vd b):∀ i,i≤Qbm a→∃ Q,vd (dgS a b i).1=2 ^ (Qbm a-i) * Q∧Can (dgS a b i).2∧vd (dgS a b i).2<vd b∧vd a / 2 ^ (Qbm a-i)=Q * vd b+vd (dgS a b i).2
 | 0,_=>⟨0,by simp [dgS,Q48],by rw [dgS];exact Qk1,by simp [dgS,vd];exact hb0,by
  rw[Nat.sub_zero,Nat.div_eq_of_lt (QEl ha)];simp [dgS,vd]⟩
 | i+1,hi=>by
  obtain⟨Q,h1,h2,h3,h4⟩:=QDd ha hb hb0 i (by omega)
  obtain⟨l1,l2,l3,l4⟩:=QnF (a:=a) hb.ok i
  obtain⟨k,hk⟩:∃ k,k=Qbm a-1-i:=⟨_,rfl⟩
  have e1:Qbm a-i=k+1:=by omega
  have e2:Qbm a-(i+1)=k:=by omega
  rw[e1] at h1 h4
  rw[dgS,e2,← hk]
  obtain⟨P,hP⟩:∃ P,P=(dgS a b i).1:=⟨_,rfl⟩
  obtain⟨R,hR⟩:∃ R,R=(dgS a b i).2:=⟨_,rfl⟩
  rw[← hP] at h1 l1 l2 ⊢
  rw[← hR] at h2 h3 h4 ⊢
  obtain⟨r1,r2⟩:=QER (k:=k) ha h2
  obtain⟨T,hT⟩:∃ T,T=dgR a R k:=⟨_,rfl⟩
  rw[← hT] at r1 r2 ⊢
  have hA:vd a / 2 ^ k=2 * (vd a / 2 ^ (k+1))+vd a / 2 ^ k % 2:=by
   rw[Nat.pow_succ,← Nat.div_div_eq_div_mul];omega
  rw[h4] at hA
  have hb2:vd a / 2 ^ k % 2<2:=Nat.mod_lt _ (by omega)
  split
  ·rename_i hs
   have hge:=(QC0 r2 hb).1 hs
   have hlen:b.length≤T.length:=by
    by_cases hl:b.length≤T.length
    ·exact hl
    ·have:=QhF r2.ok hb (by omega);omega
   have hm:=Qm0 r2.ok hb.ok hlen hge
   refine⟨2 * Q+1, ?_,Q0w (Qhy r2.ok hb.ok), ?_, ?_⟩
   ·have hj:k / 16<P.length:=by have:=QjD ha;omega
    have hs:=Qnd P (k / 16) (orV (P.getD (k / 16) 0) k) hj
    have hsp:=QjX P (k / 16) hj
    have ht:vd (P.take (k / 16))<65536 ^ (k / 16):=by
     have:=QmJ (l:=P.take (k / 16)) (fun d hd=>l2 d (List.mem_of_mem_take hd))
     rwa [List.length_take,show min (k / 16) P.length=k / 16 by omega] at this
    have hp:0<65536 ^ (k / 16):=Nat.pow_pos (by omega)
    have hq:vd P / 65536 ^ (k / 16)=P.getD (k / 16) 0+65536 * vd (P.drop (k / 16+1)):=by
     rw[hsp,Nat.add_comm,Nat.mul_add_div hp,Nat.div_eq_of_lt ht,Nat.add_zero]
    have e16:2 ^ k=65536 ^ (k / 16) * 2 ^ (k % 16):=by
     rw[show (65536:Nat)=2 ^ 16 from rfl,← Nat.pow_mul,← Nat.pow_add]
     congr 1
     omega
    have hd:P.getD (k / 16) 0=2 ^ (k % 16+1) * (Q % 2 ^ (15-k % 16)):=by
     have hg:=QaW l2 (k / 16)
     have h5:vd P / 65536 ^ (k / 16)=2 ^ (k % 16+1) * Q:=by
      rw[h1,Nat.pow_succ,e16,Nat.mul_assoc,Nat.mul_assoc,Nat.mul_div_cancel_left _ hp,← Nat.mul_assoc,← Nat.pow_succ]
     have h6:P.getD (k / 16) 0=(vd P / 65536 ^ (k / 16)) % 65536:=by rw [hq,Nat.add_mul_mod_self_left,Nat.mod_eq_of_lt hg]
     have h7:(65536:Nat)=2 ^ (k % 16+1) * 2 ^ (15-k % 16):=by
      rw[← Nat.pow_add,show (65536:Nat)=2 ^ 16 from rfl]
      congr 1
      omega
     rw[h6,h5,h7,Nat.mul_mod_mul_left]
    rw[Q9i (QaW l2 _) hd,Nat.mul_add,← e16] at hs
    have:vd (P.set (k / 16) (orV (P.getD (k / 16) 0) k))=vd P+2 ^ k:=by
     rw[Q9i (QaW l2 _) hd]
     omega
    rw[this,h1,Nat.pow_succ,Nat.mul_add,Nat.mul_one,Nat.mul_assoc]
   ·rw[Qe5,hm];omega
   ·rw[Qe5,hm,hA,Nat.add_mul,Nat.one_mul,Nat.mul_assoc];omega
  ·rename_i hs
   have hge:¬ vd b≤vd T:=fun h=>hs ((QC0 r2 hb).2 h)
   refine⟨2 * Q, ?_,r2,by simp only;omega, ?_⟩
   ·rw[h1,Nat.pow_succ,Nat.mul_assoc]
   ·rw[hA,Nat.mul_assoc];simp only;omega
theorem dv_vd {a b:List Nat} (ha:okD a) (hb:Can b) (hb0:0<vd b):vd (dvQ a b)=vd a / vd b∧vd (dvR a b)=vd a % vd b:=by
 have key:∀ q r:Nat,vd a=q * vd b+r→r<vd b→q=vd a / vd b∧r=vd a % vd b:=by
  intro q r h1 h2
  rw[h1,Nat.mul_comm q]
  exact⟨by rw [Nat.mul_add_div hb0,Nat.div_eq_of_lt h2,Nat.add_zero],by rw [Nat.mul_add_mod,Nat.mod_eq_of_lt h2]⟩
 unfold dvQ dvR
 by_cases h1:b.length=1
 ·rw[if_pos h1,if_pos h1]
  obtain⟨x,hx⟩:∃ x,b=[x]:=by
   match b,h1 with
   | [x],_=>exact ⟨x,rfl⟩
  subst hx
  have hv:vd [x]=x:=by simp [vd]
  rw[hv] at hb0 key ⊢
  show vd (Qa6 (dvS a x a.length).1)=_∧vd (Qa6 [(dvS a x a.length).2])=_
  obtain⟨h2,_⟩:=QCq ha hb0 a.length (Nat.le_refl _)
  obtain⟨_,_,h3⟩:=QlR ha hb0 a.length
  rw[Nat.sub_self,Nat.pow_zero,Nat.one_mul,Nat.one_mul,List.drop_zero] at h2
  rw[Qe5,Qe5,show vd [(dvS a x a.length).2]=(dvS a x a.length).2 by simp [vd]]
  exact key _ _ h2.symm h3
 ·rw[if_neg h1,if_neg h1]
  obtain⟨Q,h2,_,h3,h4⟩:=QDd ha hb hb0 (Qbm a) (Nat.le_refl _)
  rw[Nat.sub_self,Nat.pow_zero,Nat.one_mul] at h2
  rw[Nat.sub_self,Nat.pow_zero,Nat.div_one,← h2] at h4
  rw[Qe5]
  exact key _ _ h4 h3
theorem Q7J (x y:Int) (hy:y≠0):Qf6 x y=divI y x:=by
 have hq:dmQ x y=sgn (!(decide (x<0) == decide (y<0))) (x.natAbs / y.natAbs)∧dmR x y=sgn (decide (x<0)) (x.natAbs % y.natAbs):=by
  have hv:0<vd (nD y):=by rw [nD,Qb3];omega
  obtain⟨h1,h2⟩:=dv_vd (a:=nD x) (b:=nD y) (QaF _).ok (QaF _) hv
  unfold dmQ dmR
  rw[h1,h2,nD,nD,Qb3,Qb3]
  exact⟨rfl,rfl⟩
 obtain⟨h1,h2⟩:=hq
 have hy0:0<y.natAbs:=by omega
 unfold Qf6
 by_cases hd:x % y=0
 ·have hx:x=y * (x / y):=by
   have:=Int.emod_add_mul_ediv x y
   rw[hd,Int.zero_add] at this
   exact this.symm
  obtain⟨q,hqe⟩:∃ q,q=x / y:=⟨_,rfl⟩
  rw[← hqe] at hx
  have hab:x.natAbs=y.natAbs * q.natAbs:=by rw [hx,Int.natAbs_mul]
  have e1:x.natAbs % y.natAbs=0:=by rw [hab,Nat.mul_mod_right]
  have e2:x.natAbs / y.natAbs=q.natAbs:=by rw [hab,Nat.mul_div_cancel_left _ hy0]
  rw[e2] at h1
  rw[e1] at h2
  have h2':dmR x y=0:=by rw [h2];unfold sgn;split<;>rfl
  rw[h2']
  simp only[Int.lt_irrefl,if_false,if_true]
  rw[h1]
  refine(((Q3p hy).2 ?_)).symm
  rw[hx]
  congr 1
  rw[← hx]
  have s1:x<0↔(0<y∧q<0)∨(y<0∧0<q):=by
   rw[hx]
   constructor
   ·intro h
    rcases Int.lt_trichotomy y 0 with hy1 | hy1 | hy1
    ·right;refine ⟨hy1, ?_⟩
     rcases Int.lt_trichotomy q 0 with hq1 | hq1 | hq1
     ·have:=Int.mul_pos_of_neg_of_neg hy1 hq1;omega
     ·subst hq1;rw [Int.mul_zero] at h;omega
     ·exact hq1
    ·omega
    ·left;refine ⟨hy1, ?_⟩
     rcases Int.lt_trichotomy q 0 with hq1 | hq1 | hq1
     ·exact hq1
     ·subst hq1;rw [Int.mul_zero] at h;omega
     ·have:=Int.mul_pos hy1 hq1;omega
   ·rintro(⟨ha,hb⟩ | ⟨ha,hb⟩)
    ·exact Int.mul_neg_of_pos_of_neg ha hb
    ·exact Int.mul_neg_of_neg_of_pos ha hb
  unfold sgn
  by_cases hxn:x<0<;>by_cases hyn:y<0
  ·have:=s1.1 hxn;simp only [hxn,hyn,decide_true,BEq.rfl,Bool.not_true,Bool.false_eq_true,if_false];omega
  ·have:=s1.1 hxn;simp [hxn,hyn];omega
  ·have hq0:q≤0:=by
    by_cases h0:0<q
    ·exact absurd (s1.2 (.inr ⟨hyn,h0⟩)) hxn
    ·omega
   simp[hxn,hyn];omega
  ·have hq0:0≤q:=by
    by_cases h0:q<0
    ·exact absurd (s1.2 (.inl ⟨by omega,h0⟩)) hxn
    ·omega
   simp[hxn,hyn];omega
 ·have hnd:¬ x.natAbs % y.natAbs=0:=fun h=>hd (by
   have:=Int.natAbs_dvd_natAbs.1 (Nat.dvd_of_mod_eq_zero h)
   exact Int.emod_eq_zero_of_dvd this)
  have hlt:x.natAbs % y.natAbs<y.natAbs:=Nat.mod_lt _ hy0
  unfold divI
  rw[if_neg hd,if_neg]
  rw[h2]
  unfold sgn
  split<;>split<;>omega
theorem QgS {op c:Int}:QdP op c=if op=5∨op=6 then c else pw2 c:=by
 unfold QdP pw2
 rw[QBR]
theorem Qrx (c:Int) (a:List Int):cmbL c 0 a a=a.map (c * ·):=by
 apply List.ext_getElem?
 intro j
 unfold cmbL
 rw[List.getElem?_map,List.getElem?_map]
 by_cases h:j<a.length
 ·rw[List.getElem?_range h,List.getElem?_eq_getElem h]
  simp only[Option.map_some]
  rw[List.getD_eq_getElem?_getD,List.getElem?_eq_getElem h]
  simp
 ·rw[List.getElem?_eq_none (by simpa using h),List.getElem?_eq_none (by omega)];rfl
def Qfn:List Int→Int→Option (List Int)
 | [],_=>some []
 | x::l,c=>match divI c x with
  | none=>none
  | some q=>(Qfn l c).map (q :: ·)
theorem Qyz {c:Int} (hc:c≠0):∀ l,Qcx l c=Qfn l c
 | []=>rfl
 | x::l=>by
  rw[Qcx,Qfn,Q7J x c hc,Qyz hc l]
  try (cases divI c x<;>rfl)
theorem Qbq {c:Int} (hc:c≠0):∀ {l q:List Int},Qfn l c=some q↔l=q.map (c * ·)
 | [],q=>by
  rw[Qfn]
  cases q with
  | nil=>simp
  | cons y q=>simp
 | x::l,q=>by
  rw[Qfn]
  cases h1:divI c x with
  | none =>
   constructor
   ·intro h;cases h
   ·intro h
    cases q with
    | nil=>cases h
    | cons y q =>
     have hx:x=c * y:=by injection h
     rw[(Q3p hc).2 hx] at h1
     cases h1
  | some y =>
   have hx:=Qsr h1
   constructor
   ·intro h
    obtain⟨z,hz,rfl⟩:=Option.map_eq_some_iff.1 h
    rw[List.map_cons,← hx,← (Qbq hc).1 hz]
   ·intro h
    cases q with
    | nil=>cases h
    | cons y2 q =>
     have hx2:x=c * y2:=by injection h
     have hl:l=q.map (c * ·):=by injection h
     have:y=y2:=Int.eq_of_mul_eq_mul_left hc (hx.symm.trans hx2)
     subst this
     show (Qfn l c).map (y :: ·)=_
     rw[(Qbq hc).2 hl]
     rfl
theorem QvX {c d:Int} {l m:List Int} (hc:c≠0) (hd:d≠0) (h:∀ q:List Int,l=q.map (c * ·)↔m=q.map (d * ·)):Qfn l c=Qfn m d:=by
 cases h1:Qfn l c with
 | some q=>exact ((Qbq hd).2 ((h q).1 ((Qbq hc).1 h1))).symm
 | none =>
  cases h2:Qfn m d with
  | none=>rfl
  | some q=>rw [(Qbq hc).2 ((h q).2 ((Qbq hd).1 h2))] at h1;cases h1
theorem QAv {c:Int} (hc:c≠0) {l m:List Int} (h:l.map (c * ·)=m.map (c * ·)):l=m:=by
 induction l generalizing m with
 | nil=>cases m with
  | nil=>rfl
  | cons y m=>cases h
 | cons x l ih=>cases m with
  | nil=>cases h
  | cons y m =>
   have h1:c * x=c * y:=by injection h
   have h2:l.map (c * ·)=m.map (c * ·):=by injection h
   rw[Int.eq_of_mul_eq_mul_left hc h1,ih h2]
noncomputable def QFN (L:Nat):Lin (QbX L) where
 mul c a:=a.map (c * ·)
 div c a:=Qfn a c
 f2 _ a _:=by show some (cmbL (-1) 0 a a)=_;rw [Qrx]
 f3 _ a:=by
  show some (cmbL 1 1 a a)=_
  rw[← Qrx]
  congr 1
  unfold cmbL
  refine List.map_congr_left fun j _=>?_
  omega
 f5 c a _:=by show some (cmbL (QdP 5 c) 0 a a)=_;rw [Qrx,QgS,if_pos (.inl rfl)]
 f7 c a _:=by show some (cmbL (QdP 7 c) 0 a a)=_;rw [Qrx,QgS,if_neg (by decide)]
 f6 c a _ hc:=by show Qcx a (QdP 6 c)=_;rw [QgS,if_pos (.inr rfl),Qyz hc]
 f8 c a _:=by show Qcx a (QdP 8 c)=_;rw [QgS,if_neg (by decide),Qyz (QlI c)]
 m1 a:=by simp
 mm c d a:=by rw [List.map_map];refine List.map_congr_left fun x _=>?_;show c * (d * x)=_;rw [Int.mul_assoc]
 d1 a:=by rw [Qbq (by decide)];simp
 dn a:=by
  rw[Qbq (by decide),List.map_map]
  have:(fun x:Int=>-1 * x) ∘ (fun x:Int=>-1 * x)=id:=by funext x;show -1 * (-1 * x)=x;omega
  rw[this,List.map_id]
 dd c d a hc hd:=by
  have hcd:=Int.mul_ne_zero hc hd
  have hm:∀ r:List Int,(r.map (d * ·)).map (c * ·)=r.map (c * d * ·):=fun r=>by
   rw[List.map_map];refine List.map_congr_left fun x _=>?_;show c * (d * x)=_;rw [Int.mul_assoc]
  cases h1:Qfn a c with
  | none =>
   cases h2:Qfn a (c * d) with
   | none=>rfl
   | some r=>rw [(Qbq (q:=r.map (d * ·)) hc).2 (by rw [hm];exact (Qbq hcd).1 h2)] at h1;cases h1
  | some q =>
   have e:=(Qbq hc).1 h1
   show Qfn q d=_
   refine QvX hd hcd fun r=>?_
   rw[e,← hm]
   exact⟨fun h=>by rw [h],fun h=>QAv hc h⟩
 dmc c d a hc hd:=by
  have hcd:=Int.mul_ne_zero hc hd
  refine QvX hcd hd fun r=>?_
  rw[← show (r.map (d * ·)).map (c * ·)=r.map (c * d * ·) by rw [List.map_map];refine List.map_congr_left fun x _=>?_;show c * (d * x)=_;rw [Int.mul_assoc]]
  exact⟨fun h=>QAv hc h,fun h=>by rw [h]⟩
 md c a hc:=by
  have hc':-c≠0:=by omega
  have hm:∀ r:List Int,(r.map (-1 * ·)).map (-c * ·)=r.map (c * ·):=fun r=>by
   rw[List.map_map];refine List.map_congr_left fun x _=>?_;show -c * (-1 * x)=_;rw [← Int.mul_assoc];congr 1;omega
  cases h1:Qfn a c with
  | none =>
   cases h2:Qfn a (-c) with
   | none=>rfl
   | some r =>
    have hm2:(r.map (-1 * ·)).map (c * ·)=r.map (-c * ·):=by
     rw[List.map_map];refine List.map_congr_left fun x _=>?_;show c * (-1 * x)=_;rw [← Int.mul_assoc];congr 1;omega
    rw[(Qbq (q:=r.map (-1 * ·)) hc).2 (by rw [hm2];exact (Qbq hc').1 h2)] at h1;cases h1
  | some q =>
   rw[Option.map_some]
   refine((Qbq hc').2 ?_).symm
   rw[hm]
   exact(Qbq hc).1 h1
theorem Q5e (l:List Int) (x c:Int):Qcx (l++[x]) c=match Qcx l c with
  | none=>none
  | some z=>(Qf6 x c).map fun q=>z++[q]:=by
 induction l with
 | nil =>
  rw[List.nil_append,Qcx,Qcx]
  cases Qf6 x c<;>rfl
 | cons y l ih =>
  rw[List.cons_append,Qcx,Qcx,ih]
  cases Qf6 y c with
  | none=>rfl
  | some q =>
   cases Qcx l c with
   | none=>rfl
   | some z =>
    show Option.map (q :: ·) ((Qf6 x c).map fun q=>z++[q])=_
    cases Qf6 x c<;>rfl
theorem Q5X {l:List Int} {c:Int} {i:Nat} (h:Qcx (l.take i) c=none):Qcx l c=none:=by
 have e:∀ (m a:List Int),Qcx a c=none→Qcx (a++m) c=none:=by
  intro m a
  induction a with
  | nil=>intro h;cases h
  | cons y a ih =>
   intro h
   rw[List.cons_append,Qcx]
   rw[Qcx] at h
   cases hv:Qf6 y c with
   | none=>rfl
   | some q =>
    rw[hv] at h
    cases ha:Qcx a c with
    | none=>rw [ih ha];rfl
    | some z=>rw [ha] at h;cases h
 have:=e (l.drop i) _ h
 rwa [List.take_append_drop] at this
theorem Q74 {A:List RI} {i:Nat} (h:i<A.length):(A.map RI.v).take (i+1)=(A.map RI.v).take i++[A[i].v]:=by
 rw[List.take_succ_eq_append_getElem (by simpa using h),List.getElem_map]
theorem Q5O (kf:Nat) (c:RI) (A:List RI) (nl:Bool) (cap:Option Nat) (hA:A.length≤1000) (hcz:c.v≠0) (hcl:(nD c.v).length≤2000) (hAl:∀ x ∈ A,(nD x.v).length≤2000) (hkf:50000≤kf) (k:Nat) (l:Ass) (z:Option Out) (hz:Qar Tryd.prog tab (kf+5) none Q2V 95 32 [0,3,6,7] 2 k l ([lo 58 0 (encR []),.cells 58 [bb (decide (c.v<0)),sD (dig c.v.natAbs) c.nl c.cap]])=z) (hk:A.length<k) (a0:asc l 0=sR A nl cap) (a3:asc l 3=.ptr 1 0) (a6:asc l 6=lv 0 2 0) (a7:asc l 7=ii 0) :
  (∃ l' Z,z=some (.exit 0 (fr 32 l') [lo 58 A.length (encR Z),.cells 58 [bb (decide (c.v<0)),sD (dig c.v.natAbs) c.nl c.cap]])∧asc l' 6=lv 0 2 A.length∧Qcx (A.map RI.v) c.v=some (Z.map RI.v))∨(Qcx (A.map RI.v) c.v=none∧∃ l' H,z=some (.ret (fr 32 l') H)∧asc l' 4=.c (.slice [] 0 true (some 0))∧asc l' 5=bb false):=by
 subst hz
 refine Qa1 A.length (fun k l H=>Qar Tryd.prog tab (kf+5) none Q2V 95 32 [0,3,6,7] 2 k l H)
  (fun i l H=>∃ (Z:List RI),asc l 0=sR A nl cap∧asc l 3=.ptr 1 0∧asc l 6=lv 0 2 i∧asc l 7=ii i∧(Qcx ((A.map RI.v).take i) c.v=some (Z.map RI.v))∧∃ G,H=([lo 58 i (encR Z),.cells 58 [bb (decide (c.v<0)),sD (dig c.v.natAbs) c.nl c.cap]])++G)
  (fun z=>(∃ l' Z,z=some (.exit 0 (fr 32 l') [lo 58 A.length (encR Z),.cells 58 [bb (decide (c.v<0)),sD (dig c.v.natAbs) c.nl c.cap]])∧asc l' 6=lv 0 2 A.length∧Qcx (A.map RI.v) c.v=some (Z.map RI.v))∨(Qcx (A.map RI.v) c.v=none∧∃ l' H,z=some (.ret (fr 32 l') H)∧asc l' 4=.c (.slice [] 0 true (some 0))∧asc l' 5=bb false)) ?_ A.length 0 k l _ (by omega) hk ⟨[],a0,a3,a6,a7,rfl,[],by rw [List.append_nil]⟩
 clear hk a0 a3 a6 a7
 rintro i k l H hi ⟨Z,a0,a3,a6,a7,hp,G,rfl⟩
 have ht:trim 2 (fr 32 (keep l [0,3,6,7])) (([lo 58 i (encR Z),.cells 58 [bb (decide (c.v<0)),sD (dig c.v.natAbs) c.nl c.cap]])++G)=([lo 58 i (encR Z),.cells 58 [bb (decide (c.v<0)),sD (dig c.v.natAbs) c.nl c.cap]]):=Qa4 (by simp) (by simp only [a0,a3,a6,a7,EVb,EVc,seval]) (by simp only [EVb,EVc,seval])
 by_cases hc:i<A.length
 ·have hc':(i:Int)<((A.length:Nat):Int):=by omega
  have hc0:(0:Int)≤i:=by omega
  have hw:IntKind.wrap .i64 ((i:Int)+1)=((i+1:Nat):Int):=by rw [wrap64 (by omega) (by omega)];omega
  have hx:=QfC hc
  have hla:=hAl _ (List.getElem_mem hc)
  obtain⟨u,hu,hov⟩:=QEy kf A[i] c hcz hla hcl hkf
  have hZl:Z.length=i:=by have:=Qdj hp;simpa [List.length_take,Nat.min_eq_left (show i≤A.length by omega)] using this
  have hx2:i * 2+2≤A.length * 2:=by omega
  simp only[run,aN,bb] at hov
  have hela:=Qbp A
  have hsn:=Q5e ((A.map RI.v).take i) A[i].v c.v
  rw[← Q74 hc,hp] at hsn
  simp only at hsn
  have hap:=fun (X:Heap) (y z:IV)=>Qgq (e:=58) (s:=0) (n:=i) (m:=1) (sz:=2) (by_:=32) (cells:=encR Z) (cs:=[y,z]) (H:=lo 58 i (encR Z)::X) (by decide) (Nat.le_trans (Nat.mul_le_mul_right 32 (show i+1≤20001 by omega)) (by decide)) (by decide) (by rfl) (by rw [Qbp,hZl])
  cases hv:Qf6 A[i].v c.v with
  | none =>
   rw[hv] at hov hsn
   simp only[Option.isSome_none] at hov
   refine .inl (.inr ⟨Q5X (i:=i+1) (by rw [hsn];rfl), ?_⟩)
   simp only[Qaa,ht]
   simp only[a0,a3,a6,a7,hc',hc0,hw,hx2,Qaa,Qag,Qae,Qab,LP,Tryd.f95,FT,seval]
   rw[Qaf Tryd.f95 5 QBT];rotate_left;rfl
   simp only[a0,a3,a6,a7,hc',hc0,hw,hx,hx2,List.map_cons,List.map_nil,hela,hov,EVd,List.getElem?_nil,Nat.reducePow,Nat.reduceDiv,Nat.reduceMod,FT,seval]
   try simp only [a0,a3,a6,a7,hc',hc0,hw,hx,FT,seval]
   exact⟨_,_,rfl,(by rfl),(by rfl)⟩
  | some q =>
   rw[hv] at hov hsn hu
   simp only[Option.isSome_some] at hov
   simp only[Qaa,ht]
   simp only[a0,a3,a6,a7,hc',hc0,hw,hx2,Qaa,Qag,Qae,Qab,LP,Tryd.f95,FT,seval]
   rw[Qaf Tryd.f95 5 QBT];rotate_left;rfl
   simp only[a0,a3,a6,a7,hc',hc0,hw,hx,hx2,List.map_cons,List.map_nil,hela,hov,hap,EVd,List.getElem?_nil,Nat.reducePow,Nat.reduceDiv,Nat.reduceMod,FT,seval]
   try simp only [a0,a3,a6,a7,hc',hc0,hw,hx,hap,FT,seval]
   refine .inr ⟨_,_,hc,rfl,Z++[u],(by rfl),(by rfl),(by rfl),(by rfl), ?_,⟨_,by rw [Qe0];exact rfl⟩⟩
   rw[hsn,List.map_append]
   simp[hu]
 ·refine .inl ?_
  obtain rfl:i=A.length:=by omega
  have hc':¬ (((A.length:Nat):Int)<((A.length:Nat):Int)):=by omega
  simp only[Qaa,ht]
  simp only[a0,a3,a6,a7,hc',Qaa,Qag,Qae,Qab,LP,Tryd.f95,FT,seval]
  rw[List.take_of_length_le (by simp)] at hp
  exact .inl ⟨_,Z,rfl,(by rfl),hp⟩
theorem QAA (k:Nat) (A:List RI) (c:RI) (nl:Bool) (cap:Option Nat) (hA:A.length≤1000) (hc0:c.v≠0) (hcl:(nD c.v).length≤2000) (hAl:∀ x ∈ A,(nD x.v).length≤2000) (hk:50000≤k) :
  (Qcx (A.map RI.v) c.v=none∧run (k+6) 95 [sR A nl cap,aN c]=some (.tup [.c (.slice [] 0 true (some 0)),bb false])) ∨
  ∃ (Z:List RI) (nl3:Bool) (cap3:Option Nat),Qcx (A.map RI.v) c.v=some (Z.map RI.v)∧run (k+6) 95 [sR A nl cap,aN c]=some (.tup [sR Z nl3 cap3,bb true]):=by
 rw[run,ev95,Qaq]
 simp only[Tryd.f95,aN,bb,FT,seval]
 rw[Qai Q2V QHm];rotate_left;rfl;rfl;rfl
 generalize hz:Qar _ _ _ _ _ _ _ _ _ _ _ _=z
 obtain⟨l',Z,rfl,e6,hp⟩ | ⟨hp,l',H,rfl,e4,e5⟩:=Q5O k c A nl cap hA hc0 hcl hAl hk _ _ z hz (by omega) (by rfl) (by rfl) (by rfl) (by rfl)
 ·clear hz
  refine .inr ?_
  have hZl:Z.length=A.length:=by have:=Qdj hp;simpa using this
  have hel:(encR Z).length=A.length * 2:=by rw [Qbp,hZl]
  refine⟨Z,decide (A.length=0),if A.length=0 then some 0 else none,hp, ?_⟩
  simp only[e6,hel,FT,seval]
  rw[sR,hZl]
  try rfl
 ·clear hz
  refine .inl ⟨hp, ?_⟩
  simp only[e4,e5,FT,seval]
theorem Qtt {m n:Int}:cmpI m n=0↔m=n:=by unfold cmpI;split<;>(try split)<;>omega
theorem Q5c (kf:Nat) (A B:List RI) (nl nl2:Bool) (cap cap2:Option Nat) (hAB:A.length=B.length) (hA:A.length≤1000) (hAl:∀ x ∈ A,(nD x.v).length≤20000) (hBl:∀ x ∈ B,(nD x.v).length≤20000) (hkf:50000≤kf) (k:Nat) (l:Ass) (z:Option Out) (hz:Qar Tryd.prog tab (kf+2) none Q0A 47 27 [0,1,5] 0 k l ([])=z) (hk:A.length<k) (a0:asc l 0=sR A nl cap) (a1:asc l 1=sR B nl2 cap2) (a5:asc l 5=ii 0) :
  ∃ l',(z=some (.exit 0 (fr 27 l') [])∧A.map RI.v=B.map RI.v)∨(z=some (.ret (fr 27 l') [])∧A.map RI.v≠B.map RI.v∧asc l' 4=bb false):=by
 subst hz
 refine Qa1 A.length (fun k l H=>Qar Tryd.prog tab (kf+2) none Q0A 47 27 [0,1,5] 0 k l H)
  (fun i l H=>asc l 0=sR A nl cap∧asc l 1=sR B nl2 cap2∧asc l 5=ii i∧(((A.map RI.v).take i=(B.map RI.v).take i))∧∃ G,H=([])++G)
  (fun z=>∃ l',(z=some (.exit 0 (fr 27 l') [])∧A.map RI.v=B.map RI.v)∨(z=some (.ret (fr 27 l') [])∧A.map RI.v≠B.map RI.v∧asc l' 4=bb false)) ?_ A.length 0 k l _ (by omega) hk ⟨a0,a1,a5,rfl,[],by rw [List.append_nil]⟩
 clear hk a0 a1 a5
 rintro i k l H hi ⟨a0,a1,a5,hp,G,rfl⟩
 have ht:trim 0 (fr 27 (keep l [0,1,5])) (([])++H)=([]):=Qa4 (by simp) (by simp only [a0,a1,a5,EVb,EVc,seval]) (by simp only [EVb,EVc,seval])
 by_cases hc:i<A.length
 ·have hc':(i:Int)<((A.length:Nat):Int):=by omega
  have hc0:(0:Int)≤i:=by omega
  have hw:IntKind.wrap .i64 ((i:Int)+1)=((i+1:Nat):Int):=by rw [wrap64 (by omega) (by omega)];omega
  have hcB:i<B.length:=by omega
  have hx:=QfC hc
  have hy:=QfC hcB
  have hla:=hAl _ (List.getElem_mem hc)
  have hlb:=hBl _ (List.getElem_mem hcB)
  have hcm:=QEX kf A[i] B[i] (Nat.le_trans hla (by decide)) (Nat.le_trans hlb (by decide)) ⟨Nat.lt_of_le_of_lt hla (by omega),Nat.lt_of_le_of_lt hlb (by omega)⟩
  simp only[run,aN,bb,ii] at hcm
  have hx2:i * 2+2≤A.length * 2:=by omega
  have hy2:i * 2+2≤B.length * 2:=by omega
  have hiB:(i:Int)<B.length:=by omega
  have hela:=Qbp A
  have helb:=Qbp B
  by_cases he:A[i].v=B[i].v
  ·have hz0:cmpI A[i].v B[i].v=0:=Qtt.2 he
   rw[hz0] at hcm
   simp only[Qaa,ht]
   simp only[a0,a1,a5,hc',hc0,hw,hx2,Qaa,Qag,Qae,Qab,LP,Tryd.f47,FT,seval]
   rw[Qaf Tryd.f47 6 QCj];rotate_left;rfl
   simp only[a0,a1,a5,hc',hc0,hw,hx,hx2,hy,hy2,hiB,List.map_cons,List.map_nil,hela,helb,hcm,EVd,List.getElem?_nil,Nat.reducePow,Nat.reduceDiv,Nat.reduceMod,FT,seval]
   exact .inr ⟨_,_,hc,rfl,(by rfl),(by rfl),(by rfl),by rw [Q74 hc,Q74 hcB,hp,he],⟨_,by rfl⟩⟩
  ·have hz0:¬ cmpI A[i].v B[i].v=0:=fun e=>he (Qtt.1 e)
   refine .inl ?_
   simp only[Qaa,ht]
   simp only[a0,a1,a5,hc',hc0,hw,hx2,Qaa,Qag,Qae,Qab,LP,Tryd.f47,FT,seval]
   rw[Qaf Tryd.f47 6 QCj];rotate_left;rfl
   simp only[a0,a1,a5,hc',hc0,hw,hx,hx2,hy,hy2,hiB,List.map_cons,List.map_nil,hela,helb,hcm,hz0,EVd,List.getElem?_nil,Nat.reducePow,Nat.reduceDiv,Nat.reduceMod,FT,seval]
   refine⟨_,.inr ⟨rfl,fun e=>he ?_,(by rfl)⟩⟩
   have:=congrArg (fun l=>l[i]?) e
   simpa [hc,hcB] using this
 ·refine .inl ?_
  obtain rfl:i=A.length:=by omega
  have hc':¬ (((A.length:Nat):Int)<((A.length:Nat):Int)):=by omega
  simp only[Qaa,ht]
  simp only[a0,a1,a5,hc',Qaa,Qag,Qae,Qab,LP,Tryd.f47,FT,seval]
  rw[List.take_of_length_le (by simp),List.take_of_length_le (by simp [hAB])] at hp
  exact⟨_,.inl ⟨rfl,hp⟩⟩
theorem QAT (k:Nat) (A B:List RI) (nl nl2:Bool) (cap cap2:Option Nat) (hA:A.length≤1000) (hAl:∀ x ∈ A,(nD x.v).length≤20000) (hBl:∀ x ∈ B,(nD x.v).length≤20000) (hk:50000≤k) :
  run (k+3) 47 [sR A nl cap,sR B nl2 cap2]=some (bb (decide (A.map RI.v=B.map RI.v))):=by
 rw[run,ev47,Qaq]
 by_cases hAB:A.length=B.length
 ·have hABi:(A.length:Int)=B.length:=by omega
  simp only[Tryd.f47,bb,hABi,FT,seval]
  rw[Qai Q0A QHf];rotate_left;rfl;rfl;rfl
  generalize hz:Qar _ _ _ _ _ _ _ _ _ _ _ _=z
  obtain⟨l',⟨rfl,he⟩ | ⟨rfl,he,e4⟩⟩:=Q5c k A B nl nl2 cap cap2 hAB hA hAl hBl hk _ _ z hz (by omega) (by rfl) (by rfl) (by rfl)
  ·clear hz
   simp only[he,decide_true,FT,seval]
  ·clear hz
   simp only[he,decide_false,e4,FT,seval]
 ·have hABi:¬ (A.length:Int)=B.length:=by omega
  have hne:¬ A.map RI.v=B.map RI.v:=fun e=>hAB (by simpa using congrArg List.length e)
  simp only[Tryd.f47,bb,hABi,hne,decide_false,FT,seval]
structure Rw where
 l:List RI
 nl:Bool
 cap:Option Nat
def Rw.vals (r:Rw):List Int:=r.l.map RI.v
abbrev sRw (r:Rw):AV:=sR r.l r.nl r.cap
abbrev iRw (r:Rw):IV:=.slice (encR r.l) r.l.length r.nl r.cap
def encW (R:List Rw):List IV:=R.map fun r=>.slice (encR r.l) r.l.length r.nl r.cap
theorem QaZ (R:List Rw):(encW R).length=R.length:=by simp [encW]
theorem Qgu (a b:List Rw):encW (a++b)=encW a++encW b:=by simp [encW]
def dR:Rw:=⟨[],true,some 0⟩
theorem Qj9 {R:List Rw} {r:Int} (h0:0≤r) (h:r<R.length):(encW R)[r.toNat]?=some (iRw (R.getD r.toNat dR)):=by
 have h2:r.toNat<R.length:=by omega
 simp[encW,h2]
theorem Qhj {R:List Rw} {i:Nat} (h:i<R.length):(encW R)[i]?=some (iRw (R.getD i dR)):=by
 simp[encW,h]
theorem Qr8 {R:List Rw} {r:Nat} {x:Rw}:(encW R).set r (iRw x)=encW (R.set r x):=by
 simp[encW,List.map_set]
abbrev nW:List Rw:=[]
abbrev rW (R:List Rw):AObj:=.row false 55 (encW R)
abbrev sW (R:List Rw) (nl:Bool) (cap:Option Nat):AV:=.c (.slice (encW R) R.length nl cap)
structure SzR (L n:Nat) (r:Rw):Prop where
 len:r.l.length=L
 sz:∀ x ∈ r.l,(nD x.v).length≤n
theorem SzR.mono {L n m:Nat} {r:Rw} (h:SzR L n r) (hm:n≤m):SzR L m r:=⟨h.len,fun x hx=>Nat.le_trans (h.sz x hx) hm⟩
theorem Qrt {R:List Rw} {r:Int} (h0:0≤r) (h:r<R.length):R.getD r.toNat dR ∈ R:=by
 have:r.toNat<R.length:=by omega
 rw[List.getD_eq_getElem?_getD,List.getElem?_eq_getElem this]
 exact List.getElem_mem this
theorem szZ {L n:Nat} {Z:List RI} {l:List Int} (hZ:Z.map RI.v=l) (hl:l.length=L) (h:∀ v ∈ l,(nD v).length≤n) (nl:Bool) (cap:Option Nat):SzR L n ⟨Z,nl,cap⟩:=by
 refine⟨by rw [← hl,← hZ];simp,fun x hx=>h _ ?_⟩
 rw[← hZ]
 exact List.mem_map.2 ⟨x,hx,rfl⟩
theorem Qku {a:List Int} {n:Nat} (h:∀ x ∈ a,(nD x).length≤n) (j:Nat):(nD (a.getD j 0)).length≤n:=by
 rw[List.getD_eq_getElem?_getD]
 by_cases hj:j<a.length
 ·rw[List.getElem?_eq_getElem hj];exact h _ (List.getElem_mem hj)
 ·rw[List.getElem?_eq_none (by omega)];exact Nat.zero_le _
theorem Qf7 {c d:Int} {a b:List Int} {p n:Nat} (hc:(nD c).length≤p) (hd:(nD d).length≤p) (ha:∀ x ∈ a,(nD x).length≤n) (hb:∀ x ∈ b,(nD x).length≤n):∀ v ∈ cmbL c d a b,(nD v).length≤n+p+1:=by
 intro v hv
 obtain⟨j,_,rfl⟩:=List.mem_map.1 hv
 have h1:=Q1i c (a.getD j 0)
 have h2:=Q1i d (b.getD j 0)
 have h3:=Qku ha j
 have h4:=Qku hb j
 exact QCG _ _ (by omega) (by omega)
theorem Qk7 {c:Int} (hc:c≠0) {n:Nat}:∀ {l q:List Int},Qcx l c=some q→(∀ x ∈ l,(nD x).length≤n)→∀ v ∈ q,(nD v).length≤n+2
 | [],q,h,_,v,hv=>by obtain rfl:=Option.some.inj h;cases hv
 | x::l,q,h,hl,v,hv=>by
  rw[Qcx] at h
  cases hx:Qf6 x c with
  | none=>rw [hx] at h;cases h
  | some y =>
   rw[hx] at h
   cases hq:Qcx l c with
   | none=>rw [hq] at h;cases h
   | some z =>
    rw[hq] at h
    obtain rfl:=Option.some.inj h
    rcases List.mem_cons.1 hv with rfl | hv
    ·have:=Q9l hc hx
     have:=hl x List.mem_cons_self
     omega
    ·exact Qk7 hc hq (fun x hx=>hl x (List.mem_cons_of_mem _ hx)) v hv
theorem Rw.small {L n:Nat} {r:Rw} (h:SzR L n r):∀ x ∈ r.vals,(nD x).length≤n:=by
 intro x hx
 obtain⟨y,hy,rfl⟩:=List.mem_map.1 hx
 exact h.sz y hy
theorem QmP {x:Ins} (h:constant x=true):(x.op=5∨x.op=6→x.c≠0∧-512≤x.c∧x.c≤512)∧(x.op=7∨x.op=8→1≤x.c∧x.c≤64):=by
 unfold constant at h
 constructor
 ·intro e;rw [if_pos e] at h;simpa using h
 ·intro e
  rw[if_neg (by omega),if_pos e] at h
  simpa using h
theorem Qu4 {op c:Int} (h5:op=5∨op=6→c≠0∧-512≤c∧c≤512) (h7:op=7∨op=8→1≤c∧c≤64) (h:5≤op∧op≤8):QdP op c≠0∧(nD (QdP op c)).length≤5:=by
 unfold QdP
 by_cases e:op=5∨op=6
 ·rw[if_pos e]
  have:=h5 e
  exact⟨this.1,Nat.le_trans (Qfd (k:=1) (by omega)) (by omega)⟩
 ·rw[if_neg e,QBR]
  have:=h7 (by omega)
  have hp:2 ^ c.toNat≤2 ^ 64:=Nat.pow_le_pow_right (by omega) (by omega)
  have hp0:0<2 ^ c.toNat:=Nat.pow_pos (by omega)
  refine⟨by omega,Qfd (k:=5) ?_⟩
  rw[Int.natAbs_natCast]
  exact Nat.lt_of_le_of_lt hp (by decide)
theorem Q6e {i:Ins} {regs:Int} (h:mayM i regs=true):constant i=true:=by
 simp only[mayM,Bool.and_eq_true] at h
 exact h.1.1.2
theorem do_ev (k:Nat) (op to a b c:Int) (R:List Rw) (L n:Nat) (hL:L≤1000) (hn:n≤1990) (hR:∀ r ∈ R,SzR L n r) (hm:mayM ⟨op,to,a,b,c⟩ R.length=true) (hk:50000≤k) :
  (rowF op c (R.getD a.toNat dR).vals (R.getD b.toNat dR).vals=none∧Qav Tryd.prog (Qac tab) (k+7) (.fn 71) [aI op to a b c,.hsl 0 0 R.length R.length 1] [rW R]=some (.tup [.c (.slice [] 0 true (some 0)),bb false],[rW R])) ∨
  ∃ z:Rw,rowF op c (R.getD a.toNat dR).vals (R.getD b.toNat dR).vals=some z.vals∧SzR L (n+6) z∧Qav Tryd.prog (Qac tab) (k+7) (.fn 71) [aI op to a b c,.hsl 0 0 R.length R.length 1] [rW R]=some (.tup [sRw z,bb true],[rW R]):=by
 obtain⟨⟨m1,m2⟩,⟨m3,m4⟩,⟨m5,m6⟩,m7⟩:=QaO hm
 simp only at m1 m2 m3 m4 m5 m6 m7
 obtain⟨c5,c7⟩:=QmP (Q6e hm)
 simp only at c5 c7
 have hel:=QaZ R
 have hxa:=Qj9 m5 m6
 have hSa:=hR _ (Qrt m5 m6)
 have hna:=Rw.small hSa
 obtain⟨A,hA⟩:∃ A,A=R.getD a.toNat dR:=⟨_,rfl⟩
 rw[← hA] at hxa hSa hna ⊢
 have hAl:=hSa.len
 by_cases h2:op=2
 ·obtain⟨o,ho,h1⟩:=Qyl (k+4) (-1) (by omega) (by omega) (by omega)
  obtain⟨Z,nl3,cap3,hZ,hs⟩:=QwD (k+2) A.l o A.nl A.cap (by omega) 1990 (by omega) (by rw [ho];exact Nat.le_trans (len1 (by decide)) (by omega)) (fun x hx=>Nat.le_trans (hSa.sz x hx) hn) (by omega)
  rw[ho,Q4x] at hZ
  refine .inr ⟨⟨Z,nl3,cap3⟩, ?_, ?_, ?_⟩
  ·rw[rowF,if_pos h2];exact congrArg some hZ.symm
  ·refine(szZ (n:=n+2) hZ (by rw [Qcq,List.length_map];exact hAl) ?_ nl3 cap3).mono (by omega)
   exact Qf7 (p:=1) (len1 (by decide)) (Nat.zero_le _) hna hna
  ·simp only[run,aN,bb,ii] at h1 hs
   rw[ev71]
   simp only[Tryd.f71,aI,ii,bb,m5,m6,hel,hxa,h2,h1,hs,FT,seval]
 by_cases h3:op=3
 ·obtain⟨b0,b1⟩:=m7 (.inl h3)
  have hxb:=Qj9 b0 b1
  have hSb:=hR _ (Qrt b0 b1)
  have hnb:=Rw.small hSb
  obtain⟨B,hB⟩:∃ B,B=R.getD b.toNat dR:=⟨_,rfl⟩
  rw[← hB] at hxb hSb hnb ⊢
  have hBl:=hSb.len
  obtain⟨Z,nl3,cap3,hZ,hs⟩:=QE3 (k+2) A.l B.l A.nl B.nl A.cap B.cap (by omega) (by omega) 1990 (by omega) (by omega) (fun x hx=>Nat.le_trans (hSa.sz x hx) hn) (fun x hx=>Nat.le_trans (hSb.sz x hx) hn) (by omega)
  rw[Q4x] at hZ
  refine .inr ⟨⟨Z,nl3,cap3⟩, ?_, ?_, ?_⟩
  ·rw[rowF,if_neg h2,if_pos h3];exact congrArg some hZ.symm
  ·refine(szZ (n:=n+2) hZ (by rw [Qcq,List.length_map];exact hAl) ?_ nl3 cap3).mono (by omega)
   exact Qf7 (p:=1) (len1 (by decide)) (len1 (by decide)) hna hnb
  ·simp only[run,aN,bb,ii] at hs
   rw[ev71]
   simp only[Tryd.f71,aI,ii,bb,m5,m6,b0,b1,hel,hxa,hxb,h3,hs,FT,seval]
 by_cases h4:op=4
 ·obtain⟨b0,b1⟩:=m7 (.inr h4)
  have hxb:=Qj9 b0 b1
  have hSb:=hR _ (Qrt b0 b1)
  have hnb:=Rw.small hSb
  obtain⟨B,hB⟩:∃ B,B=R.getD b.toNat dR:=⟨_,rfl⟩
  rw[← hB] at hxb hSb hnb ⊢
  have hBl:=hSb.len
  obtain⟨Z,nl3,cap3,hZ,hs⟩:=QE8 (k+2) A.l B.l A.nl B.nl A.cap B.cap (by omega) (by omega) 1990 (by omega) (by omega) (fun x hx=>Nat.le_trans (hSa.sz x hx) hn) (fun x hx=>Nat.le_trans (hSb.sz x hx) hn) (by omega)
  rw[Q4x] at hZ
  refine .inr ⟨⟨Z,nl3,cap3⟩, ?_, ?_, ?_⟩
  ·rw[rowF,if_neg h2,if_neg h3,if_pos h4];exact congrArg some hZ.symm
  ·refine(szZ (n:=n+2) hZ (by rw [Qcq,List.length_map];exact hAl) ?_ nl3 cap3).mono (by omega)
   exact Qf7 (p:=1) (len1 (by decide)) (len1 (by decide)) hna hnb
  ·simp only[run,aN,bb,ii] at hs
   rw[ev71]
   simp only[Tryd.f71,aI,ii,bb,m5,m6,b0,b1,hel,hxa,hxb,h4,hs,FT,seval]
 by_cases h1:op=1
 ·refine .inr ⟨A, ?_,hSa.mono (by omega), ?_⟩
  ·rw[rowF,if_neg h2,if_neg h3,if_neg h4,if_neg (by omega),if_neg (by omega)]
  ·rw[ev71]
   simp only[Tryd.f71,aI,ii,bb,m5,m6,hel,hxa,h1,FT,seval]
 obtain⟨hv0,hv5⟩:=Qu4 c5 c7 (by omega)
 obtain⟨o,ho,hcn⟩:=QxK (k+3) op to a b c (fun e=>by have:=c5 e;omega) (fun e=>by have:=c7 (by omega);omega) (by omega)
 by_cases h57:op=5∨op=7
 ·obtain⟨Z,nl3,cap3,hZ,hs⟩:=QwD (k+2) A.l o A.nl A.cap (by omega) 1990 (by omega) (by rw [ho];omega) (fun x hx=>Nat.le_trans (hSa.sz x hx) hn) (by omega)
  rw[ho,Q4x] at hZ
  refine .inr ⟨⟨Z,nl3,cap3⟩, ?_, ?_, ?_⟩
  ·rw[rowF,if_neg h2,if_neg h3,if_neg h4,if_pos h57];exact congrArg some hZ.symm
  ·refine szZ (n:=n+6) hZ (by rw [Qcq,List.length_map];exact hAl) ?_ nl3 cap3
   exact Qf7 (p:=5) hv5 (Nat.zero_le _) hna hna
  ·simp only[run,aI,aN,bb,ii] at hcn hs
   rcases h57 with h5 | h7
   ·simp only[h5] at hcn hs
    rw[ev71]
    simp only[Tryd.f71,aI,ii,bb,m5,m6,hel,hxa,h5,hcn,hs,FT,seval]
   ·simp only[h7] at hcn hs
    rw[ev71]
    simp only[Tryd.f71,aI,ii,bb,m5,m6,hel,hxa,h7,hcn,hs,FT,seval]
 ·have h68:op=6∨op=8:=by omega
  have hrf:rowF op c A.vals (R.getD b.toNat dR).vals=Qcx A.vals (QdP op c):=by
   rw[rowF,if_neg h2,if_neg h3,if_neg h4,if_neg h57,if_pos h68]
  rw[hrf]
  have hov:=QAA k A.l o A.nl A.cap (by omega) (by rw [ho];exact hv0) (by rw [ho];omega) (fun x hx=>Nat.le_trans (hSa.sz x hx) (by omega)) hk
  rw[ho] at hov
  rcases hov with ⟨hq,hs⟩ | ⟨Z,nl3,cap3,hq,hs⟩
  ·refine .inl ⟨hq, ?_⟩
   simp only[run,aI,aN,bb,ii] at hcn hs
   rcases h68 with h6 | h8
   ·simp only[h6] at hcn hs
    rw[ev71]
    simp only[Tryd.f71,aI,ii,bb,m5,m6,hel,hxa,h6,hcn,hs,FT,seval]
   ·simp only[h8] at hcn hs
    rw[ev71]
    simp only[Tryd.f71,aI,ii,bb,m5,m6,hel,hxa,h8,hcn,hs,FT,seval]
  ·refine .inr ⟨⟨Z,nl3,cap3⟩,hq, ?_, ?_⟩
   ·refine(szZ (n:=n+2) rfl ?_ (Qk7 hv0 hq hna) nl3 cap3).mono (by omega)
    rw[Qdj hq]
    show (A.l.map RI.v).length=L
    rw[List.length_map];exact hAl
   ·simp only[run,aI,aN,bb,ii] at hcn hs
    rcases h68 with h6 | h8
    ·simp only[h6] at hcn hs
     rw[ev71]
     simp only[Tryd.f71,aI,ii,bb,m5,m6,hel,hxa,h6,hcn,hs,FT,seval]
    ·simp only[h8] at hcn hs
     rw[ev71]
     simp only[Tryd.f71,aI,ii,bb,m5,m6,hel,hxa,h8,hcn,hs,FT,seval]
end Go.Proofs.Sw
