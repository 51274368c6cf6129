/- A part of the proof: what functions of the program answer; conditions stand in each theorem. -/
import Derived.Test.YtiiannaficbjeaaDoorVB
import Derived.Test.YtiiannaficbjeaaDoorVA
set_option linter.unusedVariables false
set_option linter.unusedSimpArgs false
set_option linter.unusedSectionVars false
namespace Go.Proofs.Sw
open Go.Ab
variable [Globals]
def QcH (v:Int):List Int→Nat→Int
 | [],_=>-1
 | x::l,j=>if x=v then (j:Int) else QcH v l (j+1)
theorem QyK (kf:Nat) (S:St) (v:Int) (hn:S.held.length≤1000000) (k:Nat) (l:Ass) (z:Option Out) (hz:Qar Tryd.prog tab kf none Q0i 43 22 [1,10,11,12] 4 k l (tabH S)=z) (hk:S.held.length<k) (a1:asc l 1=ii v) (a10:asc l 10=hI 1 S.held.length) (a11:asc l 11=ii S.held.length) (a12:asc l 12=ii 0) :
  ∃ l',(z=some (.exit 0 (fr 22 l') (tabH S))∧QcH v S.held 0=-1)∨(z=some (.ret (fr 22 l') (tabH S))∧asc l' 4=ii (QcH v S.held 0)):=by
 subst hz
 have hel:=Qaj S.held
 refine Qa1 (S.held.length) (fun k l H=>Qar Tryd.prog tab kf none Q0i 43 22 [1,10,11,12] 4 k l H)
  (fun i l H=>asc l 1=ii v∧asc l 10=hI 1 S.held.length∧asc l 11=ii S.held.length∧asc l 12=ii i∧(QcH v S.held 0=QcH v (S.held.drop i) i)∧∃ G,H=(tabH S)++G)
  (fun z=>∃ l',(z=some (.exit 0 (fr 22 l') (tabH S))∧QcH v S.held 0=-1)∨(z=some (.ret (fr 22 l') (tabH S))∧asc l' 4=ii (QcH v S.held 0))) ?_ (S.held.length) 0 k l _ (by omega) hk ⟨a1,a10,a11,a12,rfl,[],by rw [List.append_nil]⟩
 clear hk a1 a10 a11 a12
 rintro i k l H hi ⟨a1,a10,a11,a12,hp,G,rfl⟩
 have ht:trim 4 (fr 22 (keep l [1,10,11,12])) ((tabH S)++G)=(tabH S):=Qa4 (by simp) (by simp only [a1,a10,a11,a12,Qbc,EVb,EVc,seval]) (by simp only [Qbc,EVb,EVc,seval])
 by_cases hc:i<(S.held.length)
 ·have hc':(i:Int)<((S.held.length:Nat):Int):=by omega
  have hc0:(0:Int)≤i:=by omega
  have hw:IntKind.wrap .i64 ((i:Int)+1)=((i+1:Nat):Int):=by rw [wrap64 (by omega) (by omega)];omega
  have hx:=QaT hc
  have hd:=List.drop_eq_getElem_cons hc
  obtain⟨x,hX⟩:∃ x,x=S.held[i]:=⟨_,rfl⟩
  rw[← hX] at hd hx
  rw[hd,QcH] at hp
  by_cases hxv:x=v
  ·rw[if_pos hxv] at hp
   refine .inl ?_
   simp only[Qaa,ht]
   simp only[a1,a10,a11,a12,hc',hc0,hw,hel,hx,hxv,Qaa,Qag,Qae,Qab,LP,Tryd.f43,FT,seval]
   exact⟨_,.inr ⟨rfl,by rw [hp];rfl⟩⟩
  ·rw[if_neg hxv] at hp
   simp only[Qaa,ht]
   simp only[a1,a10,a11,a12,hc',hc0,hw,hel,hx,hxv,Qaa,Qag,Qae,Qab,LP,Tryd.f43,FT,seval]
   exact .inr ⟨_,_,hc,rfl,(by rfl),(by rfl),(by rfl),(by rfl),hp,[],by rfl⟩
 ·refine .inl ?_
  obtain rfl:i=(S.held.length):=by omega
  have hc':¬ ((((S.held.length):Nat):Int)<(((S.held.length):Nat):Int)):=by omega
  simp only[Qaa,ht]
  simp only[a1,a10,a11,a12,hc',Qaa,Qag,Qae,Qab,LP,Tryd.f43,FT,seval]
  exact⟨_,.inl ⟨rfl,by rw [hp,List.drop_length];rfl⟩⟩
theorem Qik (k:Nat) (S:St) (v:Int) (hn:S.held.length≤1000000) (hk:S.held.length<k) :
  Qav Tryd.prog (Qac tab) (k+1) (.fn 43) [.ptr 0 0,ii v] (tabH S)=some (ii (QcH v S.held 0),tabH S):=by
 rw[ev43]
 simp only[Tryd.f43,ii,FT,seval]
 rw[Qai Q0i QFa];rotate_left;rfl;rfl;rfl
 generalize hz:Qar _ _ _ _ _ _ _ _ _ _ _ _=z
 obtain⟨l',⟨rfl,h⟩ | ⟨rfl,h⟩⟩:=QyK k S v hn _ _ z hz hk (by rfl) (by rfl) (by rfl) (by rfl)
 ·simp only[h,Qbc,FT,seval]
 ·simp only[h,Qbc,FT,seval]
def askM (held:List Int) (i:Ins):Ins :=
 { i with a:=QcH (held.getD i.a.toNat 0) held 0,b:=if i.op=3∨i.op=4 then QcH (held.getD i.b.toNat 0) held 0 else i.b }
theorem Q8s (k:Nat) (S:St) (o t a b c:Int) (hn:S.held.length≤1000000) (hk:S.held.length<k) (ha:0≤a∧a<S.held.length) (hb:o=3∨o=4→0≤b∧b<S.held.length) :
  Qav Tryd.prog (Qac tab) (k+2) (.fn 42) [.ptr 0 0,aI o t a b c] (tabH S)=some (encI (askM S.held ⟨o,t,a,b,c⟩),tabH S):=by
 obtain⟨a0,a1⟩:=ha
 have hel:=Qaj S.held
 have hxa:=QaL a0 a1
 have hA:=QeJ k o t a b c
 simp only[run,aI,ii] at hA
 have hh:=fun v=>Qik k S v hn hk
 simp only[ii] at hh
 rw[ev42]
 simp only[Tryd.f42,aI,ii,hA,FT,seval]
 rw[Qaf Tryd.f42 2 QG9];rotate_left;rfl
 simp only[a0,a1,hel,hxa,hh,Qdx,Qdu,EVd,List.getElem?_nil,Nat.reducePow,Nat.reduceDiv,Nat.reduceMod,FT,seval]
 by_cases h34:o=3∨o=4
 ·obtain⟨b0,b1⟩:=hb h34
  have hxb:=QaL b0 b1
  have hl2:(asks ⟨o,t,a,b,c⟩).length=2:=by rw [Qdc h34];rfl
  have h12:(1:Int)<((2:Nat):Int):=by decide
  simp only[hl2,h12,FT,seval]
  rw[Qaf Tryd.f42 4 QFA];rotate_left;rfl
  simp only[b0,b1,hel,hxb,hh,Qdx,Qdu,Qbc,EVd,List.getElem?_nil,Nat.reducePow,Nat.reduceDiv,Nat.reduceMod,FT,seval]
  simp only[askM,h34,if_true]
 ·have hl1:¬ (1:Int)<((asks ⟨o,t,a,b,c⟩).length:Int):=by
   unfold asks
   rw[if_neg h34]
   split<;>simp
  simp only[hl1,Qbc,FT,seval]
  simp only[askM,h34,if_false]
theorem bd97h (a b:Nat) (x:IV):QbD Tryd.prog 92 [(1,.hmap a),(2,.hmap b),(3,.c x)]=some (.agg [.c (.slice [] 0 true (some 0)),.hmap a,.hmap b,.c x]):=by kernel_rfl
theorem QqQ (kf:Nat) (ins regs:Int) (x2 x3:IV) (nx:Int) (n:Nat) (hn:n≤1000000) (k:Nat) (l:Ass) (z:Option Out) (hz:Qar Tryd.prog tab kf none Q0a 40 32 [1,3,13,14] 5 k l ([lo 3 0 (Qal (Qbs ins 0)),.cells 25 [ii ins,ii regs,.c x2,.c x3],.map 90 [],.map 90 [],.cells 92 [lv 0 1 0,.hmap 2,.hmap 3,ii nx]])=z) (hk:n<k) (a1:asc l 1=.ptr 1 0) (a3:asc l 3=.ptr 4 0) (a13:asc l 13=ii n) (a14:asc l 14=ii 0) :
  ∃ l',z=some (.exit 0 (fr 32 l') ([lo 3 n (Qal (Qbs ins n)),.cells 25 [ii ins,ii regs,.c x2,.c x3],.map 90 [],.map 90 [],.cells 92 [lv 0 1 n,.hmap 2,.hmap 3,ii nx]]))∧asc l' 1=.ptr 1 0∧asc l' 3=.ptr 4 0∧asc l' 13=ii n∧asc l' 14=ii n:=by
 subst hz
 refine Qa1 n (fun k l H=>Qar Tryd.prog tab kf none Q0a 40 32 [1,3,13,14] 5 k l H)
  (fun i l H=>asc l 1=.ptr 1 0∧asc l 3=.ptr 4 0∧asc l 13=ii n∧asc l 14=ii i∧∃ G,H=([lo 3 i (Qal (Qbs ins i)),.cells 25 [ii ins,ii regs,.c x2,.c x3],.map 90 [],.map 90 [],.cells 92 [lv 0 1 i,.hmap 2,.hmap 3,ii nx]])++G)
  (fun z=>∃ l',z=some (.exit 0 (fr 32 l') ([lo 3 n (Qal (Qbs ins n)),.cells 25 [ii ins,ii regs,.c x2,.c x3],.map 90 [],.map 90 [],.cells 92 [lv 0 1 n,.hmap 2,.hmap 3,ii nx]]))∧asc l' 1=.ptr 1 0∧asc l' 3=.ptr 4 0∧asc l' 13=ii n∧asc l' 14=ii n) ?_ n 0 k l _ (by omega) hk ⟨a1,a3,a13,a14,[],by rw [List.append_nil]⟩
 clear hk a1 a3 a13 a14
 rintro i k l H hi ⟨a1,a3,a13,a14,G,rfl⟩
 have ht:trim 5 (fr 32 (keep l [1,3,13,14])) (([lo 3 i (Qal (Qbs ins i)),.cells 25 [ii ins,ii regs,.c x2,.c x3],.map 90 [],.map 90 [],.cells 92 [lv 0 1 i,.hmap 2,.hmap 3,ii nx]])++G)=([lo 3 i (Qal (Qbs ins i)),.cells 25 [ii ins,ii regs,.c x2,.c x3],.map 90 [],.map 90 [],.cells 92 [lv 0 1 i,.hmap 2,.hmap 3,ii nx]]):=Qa4 (by simp) (by simp only [a1,a3,a13,a14,EVb,EVc,seval]) (by simp only [EVb,EVc,seval])
 by_cases hc:i<n
 ·have hc':(i:Int)<((n:Nat):Int):=by omega
  have hc0:(0:Int)≤i:=by omega
  have hw:IntKind.wrap .i64 ((i:Int)+1)=((i+1:Nat):Int):=by rw [wrap64 (by omega) (by omega)];omega
  have hap:=fun X x=>QcN (e:=3) (n:=i) (sz:=1) (by_:=8) (cells:=Qal (Qbs ins i)) (cs:=[x]) (X:=X) (Nat.le_trans (Nat.mul_le_mul_right 8 (show i+1≤1000001 by omega)) (by decide)) (by decide) (by rw [Qaj,Qbk,Nat.mul_one])
  simp only[Qaa,ht]
  simp only[a1,a3,a13,a14,hc',hc0,hw,Qaa,Qag,Qae,Qab,LP,Tryd.f40,FT,seval]
  rw[Qaf Tryd.f40 5 QEE];rotate_left;rfl
  simp only[a1,a3,a13,a14,hc',hc0,hw,hap,EVd,List.getElem?_nil,Nat.reducePow,Nat.reduceDiv,Nat.reduceMod,FT,seval]
  refine .inr ⟨_,_,hc,rfl,(by rfl),(by rfl),(by rfl),(by rfl), ?_⟩
  rw[QlM,QbL]
  exact⟨_,by rfl⟩
 ·refine .inl ?_
  obtain rfl:i=n:=by omega
  have hc':¬ (((i:Nat):Int)<((i:Nat):Int)):=by omega
  simp only[Qaa,ht]
  simp only[a1,a3,a13,a14,hc',Qaa,Qag,Qae,Qab,LP,Tryd.f40,FT,seval]
  exact⟨_,rfl,(by rfl),(by rfl),(by rfl),(by rfl)⟩
theorem Qyj (k:Nat) (ins:Int) (n:Nat) (x2 x3:IV) (h1:0<n) (hn:n≤1000000) (hi0:0≤ins) (hi1:ins≤1000000) (hk:n<k) :
  Qav Tryd.prog (Qac tab) (k+1) (.fn 40) [.agg [ii ins,ii n,.c x2,.c x3]] []=some (.ptr 4 0,[rI (Qbs ins n),.cells 25 [ii ins,ii n,.c x2,.c x3],.map 90 [],.map 90 [],.cells 92 [hI 0 (Qbs ins n).length,.hmap 2,.hmap 3,ii (ins+1)]]):=by
 have hw:IntKind.wrap .i64 (ins+1)=ins+1:=wrap64 (by omega) (by omega)
 rw[ev40,Qbk]
 simp only[Tryd.f40,ii,hw,bd97h,FT,seval]
 rw[Qai Q0a QFl];rotate_left;rfl;rfl;rfl
 generalize hz:Qar _ _ _ _ _ _ _ _ _ _ _ _=z
 obtain⟨l',rfl,e1,e3,e4,e5⟩:=QqQ k ins n x2 x3 (ins+1) n hn _ _ z hz hk (by rfl) (by rfl) (by rfl) (by rfl)
 simp only[e3,Qct (s:=0) (sz:=1) h1,Qcm (e:=3) h1,FT,seval]
theorem QiH (S:St) (n:Int) (i:Ins):(Qbj S n i).2.2.held=S.held:=by
 unfold Qbj
 split
 ·rfl
 ·split<;>rfl
theorem Qxs (S:St) (n:Int) (i:Ins):S.next≤(Qbj S n i).2.2.next∧(Qbj S n i).2.2.next≤S.next+1:=by
 unfold Qbj
 split
 ·exact⟨Int.le_refl _,by show S.next≤S.next+1;omega⟩
 ·split
  ·exact⟨Int.le_refl _,by show S.next≤S.next+1;omega⟩
  ·exact⟨by show S.next≤S.next+1;omega,Int.le_refl _⟩
theorem Qu6 (S:St) (n:Int) (i:Ins):(Qbj S n i).2.2.keys.length≤S.keys.length+1∧S.keys.length≤(Qbj S n i).2.2.keys.length:=by
 unfold Qbj
 split
 ·exact⟨Nat.le_succ _,Nat.le_refl _⟩
 ·split
  ·exact⟨Nat.le_succ _,Nat.le_refl _⟩
  ·simp
theorem Qze {S:St} {n:Int} {i:Ins} (h:i.op=1):Qbj S n i=(S.held.getD i.a.toNat 0,-1,S):=if_pos h
abbrev startS (ins:Int) (n:Nat):St:=⟨Qbs ins n,[],ins+1⟩
def QmB (v:Int) (held:List Int) (x:Ins):Ins:=if 0≤QcH v held 0 then ⟨1,x.to,QcH v held 0,0,0⟩ else askM held x
theorem QDC (held:List Int) (x:Ins):(askM held x).op=x.op:=rfl
theorem QqI (held:List Int) (x:Ins):(askM held x).to=x.to:=rfl
theorem QHw (held:List Int) (x:Ins):(askM held x).c=x.c:=rfl
def Qb4 (q:St × List Ins) (n:Int) (x:Ins):St × List Ins :=
 let r:=Qbj q.1 n x
 if q.1.held.getD x.to.toNat 0=r.1 then (r.2.2,q.2) else ({ r.2.2 with held:=q.1.held.set x.to.toNat r.1 },q.2++[QmB r.1 q.1.held x])
def Qa7 (S0:St) (code:List Ins):Nat→St × List Ins
 | 0=>(S0,[])
 | i+1=>match code[i]? with
  | some x=>Qb4 (Qa7 S0 code i) i x
  | none=>Qa7 S0 code i
theorem Qlr {S0:St} {code:List Ins} {i:Nat} (h:i<code.length):Qa7 S0 code (i+1)=Qb4 (Qa7 S0 code i) i code[i]:=by
 rw[Qa7,List.getElem?_eq_getElem h]
theorem Qcc (S0:St) (code:List Ins):∀ i,(Qa7 S0 code i).1.held.length=S0.held.length∧S0.next≤(Qa7 S0 code i).1.next∧(Qa7 S0 code i).1.next≤S0.next+i∧(Qa7 S0 code i).1.keys.length≤S0.keys.length+i∧(Qa7 S0 code i).2.length≤i
 | 0=>⟨rfl,Int.le_refl _,by simp [Qa7],Nat.le_refl _,Nat.le_refl _⟩
 | i+1=>by
  obtain⟨h1,h2,h3,h4,h5⟩:=Qcc S0 code i
  rw[Qa7]
  split
  ·rename_i x hx
   have h6:=Qxs (Qa7 S0 code i).1 i x
   have h7:=Qu6 (Qa7 S0 code i).1 i x
   have h8:=QiH (Qa7 S0 code i).1 i x
   simp only[Qb4]
   split
   ·simp only[h8]
    exact⟨h1,by omega,by omega,by omega,by omega⟩
   ·simp only[List.length_set,List.length_append,List.length_cons,List.length_nil]
    exact⟨h1,by omega,by omega,by omega,by omega⟩
  ·exact⟨h1,h2,by omega,by omega,by omega⟩
abbrev passS (ins:Int) (n:Nat) (code:List Ins):St:=(Qa7 (startS ins n) code code.length).1
abbrev passC (ins:Int) (n:Nat) (code:List Ins):List Ins:=(Qa7 (startS ins n) code code.length).2
def QdG (held outs:List Int):List Int:=outs.map fun r=>QcH (held.getD r.toNat 0) held 0
def QeN (ins:Int) (n:Nat) (code:List Ins) (outs:List Int):Pg:=⟨ins,n,passC ins n code,QdG (passS ins n code).held outs⟩
abbrev codeO (l:List Ins):AObj:=lo 61 l.length (Qak l)
theorem QmE (kf:Nat) (x0 x1 x2 x3 y0 y1:IV) (zz:List AV) (hz0:(zz.all fun e=>AV.under 9 e)=true) (S0:St) (code:List Ins) (nl:Bool) (cap:Option Nat) (hcode:∀ i ∈ code,mayM i S0.held.length=true) (hlen:code.length≤20000) (hreg:S0.held.length≤128) (hkf:200≤kf) (hnx:0≤S0.next∧S0.next≤100000) (k:Nat) (l:Ass) (z:Option Out) (hz:Qar Tryd.prog tab (kf+8) none Q16 17 106 [1,2,6,7,32,33,34] 9 k l ([codeO (Qa7 S0 code 0).2,.slot,.cells 25 [.c x0,.c x1,.c x2,.c x3],.cells 25 zz,.cells 92 [hI 5 (Qa7 S0 code 0).1.held.length,.hmap 6,.hmap 7,ii (Qa7 S0 code 0).1.next],rI (Qa7 S0 code 0).1.held,knO (Qa7 S0 code 0).1.keys,fsO (Qa7 S0 code 0).1.keys,.cells 25 [.c y0,.c y1,lv 0 5 (Qa7 S0 code 0).2.length,.c (.slice [] 0 true (some 0))]])=z) (hk:code.length<k) (a1:asc l 1=.ptr 2 0) (a2:asc l 2=.ptr 3 0) (a6:asc l 6=.ptr 4 0) (a7:asc l 7=.ptr 8 0) (a32:asc l 32=sC code nl cap) (a33:asc l 33=ii code.length) (a34:asc l 34=ii 0) :
  ∃ l',z=some (.exit 0 (fr 106 l') ([codeO (Qa7 S0 code code.length).2,.slot,.cells 25 [.c x0,.c x1,.c x2,.c x3],.cells 25 zz,.cells 92 [hI 5 (Qa7 S0 code code.length).1.held.length,.hmap 6,.hmap 7,ii (Qa7 S0 code code.length).1.next],rI (Qa7 S0 code code.length).1.held,knO (Qa7 S0 code code.length).1.keys,fsO (Qa7 S0 code code.length).1.keys,.cells 25 [.c y0,.c y1,lv 0 5 (Qa7 S0 code code.length).2.length,.c (.slice [] 0 true (some 0))]]))∧asc l' 1=.ptr 2 0∧asc l' 2=.ptr 3 0∧asc l' 6=.ptr 4 0∧asc l' 7=.ptr 8 0∧asc l' 32=sC code nl cap∧asc l' 33=ii code.length∧asc l' 34=ii code.length:=by
 subst hz
 refine Qa1 code.length (fun k l H=>Qar Tryd.prog tab (kf+8) none Q16 17 106 [1,2,6,7,32,33,34] 9 k l H)
  (fun i l H=>asc l 1=.ptr 2 0∧asc l 2=.ptr 3 0∧asc l 6=.ptr 4 0∧asc l 7=.ptr 8 0∧asc l 32=sC code nl cap∧asc l 33=ii code.length∧asc l 34=ii i∧∃ G,H=([codeO (Qa7 S0 code i).2,.slot,.cells 25 [.c x0,.c x1,.c x2,.c x3],.cells 25 zz,.cells 92 [hI 5 (Qa7 S0 code i).1.held.length,.hmap 6,.hmap 7,ii (Qa7 S0 code i).1.next],rI (Qa7 S0 code i).1.held,knO (Qa7 S0 code i).1.keys,fsO (Qa7 S0 code i).1.keys,.cells 25 [.c y0,.c y1,lv 0 5 (Qa7 S0 code i).2.length,.c (.slice [] 0 true (some 0))]])++G)
  (fun z=>∃ l',z=some (.exit 0 (fr 106 l') ([codeO (Qa7 S0 code code.length).2,.slot,.cells 25 [.c x0,.c x1,.c x2,.c x3],.cells 25 zz,.cells 92 [hI 5 (Qa7 S0 code code.length).1.held.length,.hmap 6,.hmap 7,ii (Qa7 S0 code code.length).1.next],rI (Qa7 S0 code code.length).1.held,knO (Qa7 S0 code code.length).1.keys,fsO (Qa7 S0 code code.length).1.keys,.cells 25 [.c y0,.c y1,lv 0 5 (Qa7 S0 code code.length).2.length,.c (.slice [] 0 true (some 0))]]))∧asc l' 1=.ptr 2 0∧asc l' 2=.ptr 3 0∧asc l' 6=.ptr 4 0∧asc l' 7=.ptr 8 0∧asc l' 32=sC code nl cap∧asc l' 33=ii code.length∧asc l' 34=ii code.length) ?_ code.length 0 k l _ (by omega) hk ⟨a1,a2,a6,a7,a32,a33,a34,[],by rw [List.append_nil]⟩
 clear hk a1 a2 a6 a7 a32 a33 a34
 rintro i k l H hi ⟨a1,a2,a6,a7,a32,a33,a34,G,rfl⟩
 have ht:trim 9 (fr 106 (keep l [1,2,6,7,32,33,34])) (([codeO (Qa7 S0 code i).2,.slot,.cells 25 [.c x0,.c x1,.c x2,.c x3],.cells 25 zz,.cells 92 [hI 5 (Qa7 S0 code i).1.held.length,.hmap 6,.hmap 7,ii (Qa7 S0 code i).1.next],rI (Qa7 S0 code i).1.held,knO (Qa7 S0 code i).1.keys,fsO (Qa7 S0 code i).1.keys,.cells 25 [.c y0,.c y1,lv 0 5 (Qa7 S0 code i).2.length,.c (.slice [] 0 true (some 0))]])++G)=([codeO (Qa7 S0 code i).2,.slot,.cells 25 [.c x0,.c x1,.c x2,.c x3],.cells 25 zz,.cells 92 [hI 5 (Qa7 S0 code i).1.held.length,.hmap 6,.hmap 7,ii (Qa7 S0 code i).1.next],rI (Qa7 S0 code i).1.held,knO (Qa7 S0 code i).1.keys,fsO (Qa7 S0 code i).1.keys,.cells 25 [.c y0,.c y1,lv 0 5 (Qa7 S0 code i).2.length,.c (.slice [] 0 true (some 0))]]):=Qa4 (by simp) (by simp only [a1,a2,a6,a7,a32,a33,a34,Qbc,hz0,EVb,EVc,seval]) (by simp only [Qbc,hz0,EVb,EVc,seval])
 by_cases hc:i<code.length
 ·have hc':(i:Int)<((code.length:Nat):Int):=by omega
  have hc0:(0:Int)≤i:=by omega
  have hw:IntKind.wrap .i64 ((i:Int)+1)=((i+1:Nat):Int):=by rw [wrap64 (by omega) (by omega)];omega
  have hx:=Qbg hc
  obtain⟨x,hX⟩:∃ x,x=code[i]:=⟨_,rfl⟩
  rw[← hX] at hx
  obtain⟨f1,f2,f3,f4,f5⟩:=Qcc S0 code i
  have hm:=QaO (hcode x (by rw [hX];exact List.getElem_mem hc))
  have hst:Qa7 S0 code (i+1)=Qb4 (Qa7 S0 code i) i x:=by rw [Qlr hc,hX]
  rw[hst]
  obtain⟨S,hS⟩:∃ S,S=(Qa7 S0 code i).1:=⟨_,rfl⟩
  obtain⟨out,hO⟩:∃ out,out=(Qa7 S0 code i).2:=⟨_,rfl⟩
  have hps:Qa7 S0 code i=(S,out):=by rw [hS,hO]
  rw[hps] at f1 f2 f3 f4 f5 ht ⊢
  simp only at f1 f2 f3 f4 f5 ht
  have hap:=fun X cs=>QcN (e:=61) (n:=out.length) (sz:=5) (by_:=40) (cells:=Qak out) (cs:=cs) (X:=X) (Nat.le_trans (Nat.mul_le_mul_right 40 (show out.length+1≤20001 by omega)) (by decide)) (by decide) (Qau _)
  rw[← f1] at hm
  obtain⟨⟨m1,m2⟩,⟨m3,m4⟩,⟨m5,m6⟩,m7⟩:=hm
  have hR:=Q5j (kf+5) S i x.op x.to x.a x.b x.c ⟨m5,m6⟩ m7 (by omega)
  have hel:=Qaj S.held
  have ht2:x.to.toNat<S.held.length:=by omega
  have hxt:=QaL m3 m4
  obtain⟨ks,nx,hRR⟩:∃ ks nx,(Qbj S i x).2.2=⟨S.held,ks,nx⟩:=⟨(Qbj S i x).2.2.keys,(Qbj S i x).2.2.next,by rw [← QiH S i x]⟩
  obtain⟨v,hv⟩:∃ v,v=(Qbj S i x).1:=⟨_,rfl⟩
  have hA:=Q8s (kf+6) ⟨S.held,ks,nx⟩ x.op x.to x.a x.b x.c (by simp only;omega) (by simp only;omega) ⟨m5,m6⟩ m7
  have hH:=Qik (kf+7) ⟨S.held,ks,nx⟩ v (by simp only;omega) (by simp only;omega)
  rw[show (Qbj S i ⟨x.op,x.to,x.a,x.b,x.c⟩)=Qbj S i x from rfl,hRR,← hv] at hR
  rw[show (Ins.mk x.op x.to x.a x.b x.c)=x from rfl] at hA
  simp only[aI,ii] at hR hA hH
  simp only[Qb4,← hv,hRR]
  clear hst hps hcode hX
  by_cases he:S.held.getD x.to.toNat 0=v
  ·rw[if_pos he]
   simp only[Qaa,ht]
   simp only[a1,a2,a6,a7,a32,a33,a34,hc',hc0,hw,hx,hR,hA,QqI,Qdx,Qdu,Qaa,Qag,Qae,Qab,LP,Tryd.f17,FT,seval]
   rw[Qaf Tryd.f17 11 Q6y];rotate_left;rfl
   simp only[a1,a2,a6,a7,a32,a33,a34,hc',hc0,hw,hel,hxt,he,m3,m4,EVd,List.getElem?_nil,Nat.reducePow,Nat.reduceDiv,Nat.reduceMod,FT,seval]
   refine .inr ⟨_,_,hc,rfl,(by rfl),(by rfl),(by rfl),(by rfl),(by rfl),(by rfl),(by rfl), ?_⟩
   exact⟨_,by rfl⟩
  ·rw[if_neg he]
   simp only[Qaa,ht]
   simp only[a1,a2,a6,a7,a32,a33,a34,hc',hc0,hw,hx,hR,hA,QqI,Qdx,Qdu,Qaa,Qag,Qae,Qab,LP,Tryd.f17,FT,seval]
   rw[Qaf Tryd.f17 11 Q6y];rotate_left;rfl
   simp only[a1,a2,a6,a7,a32,a33,a34,hc',hc0,hw,hel,hxt,he,m3,m4,EVd,List.getElem?_nil,Nat.reducePow,Nat.reduceDiv,Nat.reduceMod,FT,seval]
   by_cases h0:0≤QcH v S.held 0
   ·have hem:QmB v S.held x=⟨1,x.to,QcH v S.held 0,0,0⟩:=if_pos h0
    rw[hem]
    try simp only [a1,a2,a6,a7,a32,a33,a34,hc',hc0,hw,hH,h0,Qdx,Qdu,hap,FT,seval]
    rw[Qaf Tryd.f17 16 Q6H];rotate_left;rfl
    simp only[a1,a2,a6,a7,a32,a33,a34,hc',hc0,hw,hel,m3,m4,ht2,QbK,EVd,List.getElem?_nil,Nat.reducePow,Nat.reduceDiv,Nat.reduceMod,FT,seval]
    refine .inr ⟨_,_,hc,rfl,(by rfl),(by rfl),(by rfl),(by rfl),(by rfl),(by rfl),(by rfl), ?_⟩
    simp only[codeO,List.length_append,List.length_cons,List.length_nil,Nat.zero_add,List.length_set,Qbv,Qak,enc1,List.append_nil]
    exact⟨_,by rfl⟩
   ·have hem:QmB v S.held x=askM S.held x:=if_neg h0
    rw[hem]
    try simp only [a1,a2,a6,a7,a32,a33,a34,hc',hc0,hw,hH,h0,Qdx,Qdu,hap,FT,seval]
    rw[Qaf Tryd.f17 16 Q6H];rotate_left;rfl
    simp only[a1,a2,a6,a7,a32,a33,a34,hc',hc0,hw,hel,m3,m4,ht2,QbK,QqI,EVd,List.getElem?_nil,Nat.reducePow,Nat.reduceDiv,Nat.reduceMod,FT,seval]
    refine .inr ⟨_,_,hc,rfl,(by rfl),(by rfl),(by rfl),(by rfl),(by rfl),(by rfl),(by rfl), ?_⟩
    simp only[codeO,List.length_append,List.length_cons,List.length_nil,Nat.zero_add,List.length_set,Qbv,Qak,enc1,List.append_nil]
    exact⟨_,by rfl⟩
 ·refine .inl ?_
  obtain rfl:i=code.length:=by omega
  have hc':¬ (((code.length:Nat):Int)<((code.length:Nat):Int)):=by omega
  simp only[Qaa,ht]
  simp only[a1,a2,a6,a7,a32,a33,a34,hc',Qaa,Qag,Qae,Qab,LP,Tryd.f17,FT,seval]
  exact⟨_,rfl,(by rfl),(by rfl),(by rfl),(by rfl),(by rfl),(by rfl),(by rfl)⟩
theorem Q5a {held outs:List Int} {i:Nat} (h:i<outs.length):QdG held (outs.take (i+1))=QdG held (outs.take i)++[QcH (held.getD outs[i].toNat 0) held 0]:=by
 rw[List.take_succ_eq_append_getElem h,QdG,QdG,List.map_append];rfl
theorem Qdk (held outs:List Int):(QdG held outs).length=outs.length:=by simp [QdG]
theorem Qkr (kf:Nat) (x0 x1 x2 x3 y0 y1:IV) (zz:List AV) (hz0:(zz.all fun e=>AV.under 9 e)=true) (cl:Nat) (cc:List IV) (S:St) (outs:List Int) (nl:Bool) (cap:Option Nat) (hr:∀ r ∈ outs,0≤r∧r<S.held.length) (hlen:outs.length≤20000) (hreg:S.held.length≤128) (hkf:200≤kf) (k:Nat) (l:Ass) (z:Option Out) (hz:Qar Tryd.prog tab (kf+8) none QrL 17 106 [2,6,7,84,85,86] 9 k l ([lo 61 cl cc,lo 3 0 (Qal (QdG S.held (outs.take 0))),.cells 25 [.c x0,.c x1,.c x2,.c x3],.cells 25 zz,.cells 92 [hI 5 S.held.length,.hmap 6,.hmap 7,ii S.next],rI S.held,knO S.keys,fsO S.keys,.cells 25 [.c y0,.c y1,lv 0 5 cl,lv 1 1 0]])=z) (hk:outs.length<k) (a2:asc l 2=.ptr 3 0) (a6:asc l 6=.ptr 4 0) (a7:asc l 7=.ptr 8 0) (a84:asc l 84=sI outs nl cap) (a85:asc l 85=ii outs.length) (a86:asc l 86=ii 0) :
  ∃ l',z=some (.exit 2 (fr 106 l') ([lo 61 cl cc,lo 3 outs.length (Qal (QdG S.held (outs.take outs.length))),.cells 25 [.c x0,.c x1,.c x2,.c x3],.cells 25 zz,.cells 92 [hI 5 S.held.length,.hmap 6,.hmap 7,ii S.next],rI S.held,knO S.keys,fsO S.keys,.cells 25 [.c y0,.c y1,lv 0 5 cl,lv 1 1 outs.length]]))∧asc l' 2=.ptr 3 0∧asc l' 6=.ptr 4 0∧asc l' 7=.ptr 8 0∧asc l' 84=sI outs nl cap∧asc l' 85=ii outs.length∧asc l' 86=ii outs.length:=by
 subst hz
 refine Qa1 outs.length (fun k l H=>Qar Tryd.prog tab (kf+8) none QrL 17 106 [2,6,7,84,85,86] 9 k l H)
  (fun i l H=>asc l 2=.ptr 3 0∧asc l 6=.ptr 4 0∧asc l 7=.ptr 8 0∧asc l 84=sI outs nl cap∧asc l 85=ii outs.length∧asc l 86=ii i∧∃ G,H=([lo 61 cl cc,lo 3 i (Qal (QdG S.held (outs.take i))),.cells 25 [.c x0,.c x1,.c x2,.c x3],.cells 25 zz,.cells 92 [hI 5 S.held.length,.hmap 6,.hmap 7,ii S.next],rI S.held,knO S.keys,fsO S.keys,.cells 25 [.c y0,.c y1,lv 0 5 cl,lv 1 1 i]])++G)
  (fun z=>∃ l',z=some (.exit 2 (fr 106 l') ([lo 61 cl cc,lo 3 outs.length (Qal (QdG S.held (outs.take outs.length))),.cells 25 [.c x0,.c x1,.c x2,.c x3],.cells 25 zz,.cells 92 [hI 5 S.held.length,.hmap 6,.hmap 7,ii S.next],rI S.held,knO S.keys,fsO S.keys,.cells 25 [.c y0,.c y1,lv 0 5 cl,lv 1 1 outs.length]]))∧asc l' 2=.ptr 3 0∧asc l' 6=.ptr 4 0∧asc l' 7=.ptr 8 0∧asc l' 84=sI outs nl cap∧asc l' 85=ii outs.length∧asc l' 86=ii outs.length) ?_ outs.length 0 k l _ (by omega) hk ⟨a2,a6,a7,a84,a85,a86,[],by rw [List.append_nil]⟩
 clear hk a2 a6 a7 a84 a85 a86
 rintro i k l H hi ⟨a2,a6,a7,a84,a85,a86,G,rfl⟩
 have ht:trim 9 (fr 106 (keep l [2,6,7,84,85,86])) (([lo 61 cl cc,lo 3 i (Qal (QdG S.held (outs.take i))),.cells 25 [.c x0,.c x1,.c x2,.c x3],.cells 25 zz,.cells 92 [hI 5 S.held.length,.hmap 6,.hmap 7,ii S.next],rI S.held,knO S.keys,fsO S.keys,.cells 25 [.c y0,.c y1,lv 0 5 cl,lv 1 1 i]])++G)=([lo 61 cl cc,lo 3 i (Qal (QdG S.held (outs.take i))),.cells 25 [.c x0,.c x1,.c x2,.c x3],.cells 25 zz,.cells 92 [hI 5 S.held.length,.hmap 6,.hmap 7,ii S.next],rI S.held,knO S.keys,fsO S.keys,.cells 25 [.c y0,.c y1,lv 0 5 cl,lv 1 1 i]]):=Qa4 (by simp) (by simp only [a2,a6,a7,a84,a85,a86,Qbc,hz0,EVb,EVc,seval]) (by simp only [Qbc,hz0,EVb,EVc,seval])
 by_cases hc:i<outs.length
 ·have hc':(i:Int)<((outs.length:Nat):Int):=by omega
  have hc0:(0:Int)≤i:=by omega
  have hw:IntKind.wrap .i64 ((i:Int)+1)=((i+1:Nat):Int):=by rw [wrap64 (by omega) (by omega)];omega
  have hx:=QaT hc
  have hlen2:(QdG S.held (outs.take i)).length=i:=by rw [Qdk,List.length_take];omega
  have hap:=fun x0 X cs=>Qgq (e:=3) (s:=1) (n:=i) (m:=1) (sz:=1) (by_:=8) (cells:=Qal (QdG S.held (outs.take i))) (cs:=cs) (H:=x0::lo 3 i (Qal (QdG S.held (outs.take i)))::X) (by decide) (Nat.le_trans (Nat.mul_le_mul_right 8 (show i+1≤20001 by omega)) (by decide)) (by decide) rfl (by rw [Qaj,hlen2,Nat.mul_one])
  obtain⟨r,hR⟩:∃ r,r=outs[i]:=⟨_,rfl⟩
  obtain⟨r0,r1⟩:=hr r (by rw [hR];exact List.getElem_mem hc)
  have hnx:=Q5a (held:=S.held) hc
  rw[← hR] at hx hnx
  have hel:=Qaj S.held
  have hxr:=QaL r0 r1
  have hH:=Qik (kf+7) S (S.held.getD r.toNat 0) (by omega) (by omega)
  simp only[ii] at hH
  rw[hnx,QbL]
  simp only[Qaa,ht]
  simp only[a2,a6,a7,a84,a85,a86,hc',hc0,hw,hx,Qaa,Qag,Qae,Qab,LP,Tryd.f17,FT,seval]
  rw[Qaf Tryd.f17 21 QEb];rotate_left;rfl
  simp only[a2,a6,a7,a84,a85,a86,hc',hc0,hw,hx,hxr,hel,r0,r1,hH,Qdx,Qdu,hap,EVd,List.getElem?_nil,Nat.reducePow,Nat.reduceDiv,Nat.reduceMod,FT,seval]
  refine .inr ⟨_,_,hc,rfl,(by rfl),(by rfl),(by rfl),(by rfl),(by rfl),(by rfl), ?_⟩
  exact⟨_,by rfl⟩
 ·refine .inl ?_
  obtain rfl:i=outs.length:=by omega
  have hc':¬ (((outs.length:Nat):Int)<((outs.length:Nat):Int)):=by omega
  simp only[Qaa,ht]
  simp only[a2,a6,a7,a84,a85,a86,hc',Qaa,Qag,Qae,Qab,LP,Tryd.f17,FT,seval]
  exact⟨_,rfl,(by rfl),(by rfl),(by rfl),(by rfl),(by rfl),(by rfl)⟩
theorem Qmv {v:Int}:∀ {l:List Int},v ∈ l→∀ j,∃ i,i<l.length∧QcH v l j=((j+i:Nat):Int)∧l.getD i 0=v
 | [],h,_=>by cases h
 | x::l,h,j=>by
  rw[QcH]
  by_cases e:x=v
  ·rw[if_pos e]
   exact⟨0,by simp,by simp,by simpa using e⟩
  ·rw[if_neg e]
   rcases List.mem_cons.1 h with h | h
   ·exact absurd h.symm e
   ·obtain⟨i,h1,h2,h3⟩:=Qmv h (j+1)
    exact⟨i+1,by simpa using h1,by rw [h2];congr 1;omega,by simpa using h3⟩
theorem QuD {v:Int}:∀ {l:List Int},v ∉ l→∀ j,QcH v l j=-1
 | [],_,_=>rfl
 | x::l,h,j=>by
  rw[List.mem_cons,not_or] at h
  rw[QcH,if_neg (fun e=>h.1 e.symm),QuD h.2]
theorem Qr0 {v:Int} {l:List Int}:0≤QcH v l 0↔v ∈ l:=by
 by_cases h:v ∈ l
 ·obtain⟨i,_,h2,_⟩:=Qmv h 0
  rw[h2]
  exact⟨fun _=>h,fun _=>by omega⟩
 ·rw[QuD h]
  exact⟨fun h'=>absurd h' (by decide),fun h'=>absurd h' h⟩
theorem Qh1 {v:Int} {l:List Int} (h:v ∈ l):(0≤QcH v l 0∧QcH v l 0<l.length)∧l.getD (QcH v l 0).toNat 0=v:=by
 obtain⟨i,h1,h2,h3⟩:=Qmv h 0
 rw[h2]
 exact⟨by omega,by simpa using h3⟩
theorem Qc3 {l:List Int} {r:Int} (h0:0≤r) (h:r<l.length):l.getD r.toNat 0 ∈ l:=by
 have:r.toNat<l.length:=by omega
 rw[List.getD_eq_getElem?_getD,List.getElem?_eq_getElem this]
 exact List.getElem_mem this
def QHG (S:St):Prop:=(∀ h ∈ S.held,h<S.next)∧∀ e ∈ S.keys,e.2.1<S.next
theorem QmS {S:St} {n:Int} {x:Ins} (h1:x.op≠1) (hl:QcG (keyM S.held x) S.keys=none):Qbj S n x=(S.next,n,{ S with keys:=S.keys++[(keyM S.held x,S.next,n)],next:=S.next+1 }):=by
 rw[Qbj,if_neg h1,hl]
theorem QmU {S:St} {n:Int} {x:Ins} {p:Nat × Ent} (h1:x.op≠1) (hl:QcG (keyM S.held x) S.keys=some p):Qbj S n x=(p.2.2.1,p.2.2.2,S):=by
 rw[Qbj,if_neg h1,hl]
theorem Q7U {S:St} {x:Ins} {v:Int} (hm:mayM x S.held.length=true):mayM (QmB v S.held x) S.held.length=true:=by
 have hm0:=hm
 obtain⟨⟨m1,m2⟩,⟨m3,m4⟩,⟨m5,m6⟩,m7⟩:=QaO hm
 unfold QmB
 split
 ·rename_i h
  obtain⟨⟨g1,g2⟩,_⟩:=Qh1 (Qr0.1 h)
  simp only[mayM,constant,Bool.and_eq_true,decide_eq_true_eq]
  exact⟨⟨⟨⟨by decide,by decide,m3,m4,by simp⟩,by simp⟩,g1,g2⟩,fun h=>by rcases h with h | h<;>cases h⟩
 ·obtain⟨⟨g1,g2⟩,_⟩:=Qh1 (Qc3 m5 m6)
  simp only[mayM,Bool.and_eq_true,decide_eq_true_eq] at hm0 ⊢
  obtain⟨⟨⟨⟨_,_,_,_,q5⟩,q6⟩,_⟩,_⟩:=hm0
  by_cases h34:x.op=3∨x.op=4
  ·obtain⟨b0,b1⟩:=m7 h34
   obtain⟨⟨g3,g4⟩,_⟩:=Qh1 (Qc3 b0 b1)
   simp only[askM,h34,if_true]
   exact⟨⟨⟨⟨m1,m2,m3,m4,by rcases h34 with h | h;exact .inl h;exact .inr (.inl h)⟩,q6⟩,g1,g2⟩,fun _=>⟨g3,g4⟩⟩
  ·simp only[askM,h34,if_false]
   exact⟨⟨⟨⟨m1,m2,m3,m4,q5⟩,q6⟩,g1,g2⟩,by first | trivial | exact fun h=>absurd h h34 | exact fun h=>h.elim⟩
theorem QfB {S0:St} {code:List Ins} (hcode:∀ i ∈ code,mayM i S0.held.length=true):∀ i,∀ e ∈ (Qa7 S0 code i).2,mayM e S0.held.length=true
 | 0,e,h=>by cases h
 | i+1,e,h=>by
  rw[Qa7] at h
  split at h
  ·rename_i x hx
   have hl:=(Qcc S0 code i).1
   have hm:=hcode x (List.mem_of_getElem? hx)
   simp only[Qb4] at h
   split at h
   ·exact QfB hcode i e h
   ·rcases List.mem_append.1 h with h | h
    ·exact QfB hcode i e h
    ·simp only[List.mem_cons,List.not_mem_nil,or_false] at h
     subst h
     rw[← hl] at hm ⊢
     exact Q7U hm
  ·exact QfB hcode i e h
theorem QuA {ins:Int} {n:Nat} (h:0≤ins):QHG (startS ins n):=by
 refine⟨fun h hh=>?_,fun e he=>by cases he⟩
 simp only[startS,Qbs,List.mem_map,List.mem_range] at hh ⊢
 obtain⟨r,_,rfl⟩:=hh
 split<;>omega
theorem Qy5 {ins:Int} {n:Nat} {code:List Ins} {outs:List Int} (hr:Qax ⟨ins,n,code,outs⟩=true):Qax (QeN ins n code outs)=true:=by
 have hr0:=hr
 simp only[Qax,Qdh,QfT,QfV,Bool.and_eq_true,decide_eq_true_eq,List.all_eq_true] at hr ⊢
 obtain⟨⟨⟨h1,h2,h3,h4,h5,h6⟩,ho⟩,hc⟩:=hr
 have hl:(startS ins n).held.length=n:=Qbk ins n
 have hcode:∀ i ∈ code,mayM i (startS ins n).held.length=true:=by rw [hl];exact hc
 have hf:=Qcc (startS ins n) code code.length
 have hpl:(passS ins n code).held.length=n:=hf.1.trans hl
 have hlen:(passC ins n code).length≤code.length:=hf.2.2.2.2
 refine⟨⟨⟨h1,h2,h3,Nat.le_trans hlen h4,by simp only [QeN,Qdk];exact h5,by simp only [QeN,Qdk];exact h6⟩,fun r hr=>?_⟩,fun e he=>?_⟩
 ·simp only[QeN,QdG,List.mem_map] at hr
  obtain⟨r0,hr0,rfl⟩:=hr
  have:=ho r0 hr0
  have hat:=Qh1 (Qc3 (l:=(passS ins n code).held) this.1 (by rw [hpl];exact this.2))
  rw[hpl] at hat
  exact hat.1
 ·have:=QfB hcode code.length e he
  rw[hl] at this
  exact this
section
variable {α:Type} (M:Sem α)
structure ShI (S:St) (R:List α) (w:Int→α):Prop where
 len:R.length=S.held.length
 reg:∀ r:Nat,r<R.length→R.getD r M.d=w (S.held.getD r 0)
 good:∀ v,M.G (w v)
 fresh:QHG S
 pos:0≤S.next
 keys:∀ e ∈ S.keys,e.1.a<S.next∧e.1.b<S.next∧M.f e.1.op e.1.c (w e.1.a) (w e.1.b)=some (w e.2.1)
variable {M}
theorem ShI.at {S:St} {R:List α} {w:Int→α} (h:ShI M S R w) {r:Int} (h0:0≤r) (h1:r<S.held.length):R.getD r.toNat M.d=w (S.held.getD r.toNat 0):=h.reg r.toNat (by rw [h.len];omega)
theorem ShI.hold {S:St} {R:List α} {w:Int→α} (h:ShI M S R w) {v:Int} (hv:v ∈ S.held):R.getD (QcH v S.held 0).toNat M.d=w v:=by
 obtain⟨⟨h0,h1⟩,h2⟩:=Qh1 hv
 rw[h.at h0 h1,h2]
theorem ShI.key {S:St} {R:List α} {w:Int→α} (h:ShI M S R w) {x:Ins} (hm:mayM x S.held.length=true) :
  M.f x.op x.c (R.getD x.a.toNat M.d) (R.getD x.b.toNat M.d)=M.f (keyM S.held x).op (keyM S.held x).c (w (keyM S.held x).a) (w (keyM S.held x).b):=by
 obtain⟨_,_,⟨m5,m6⟩,m7⟩:=QaO hm
 rw[h.at m5 m6]
 by_cases h34:x.op=3∨x.op=4
 ·obtain⟨b0,b1⟩:=m7 h34
  rw[h.at b0 b1]
  by_cases hs:x.op=3∧S.held.getD x.b.toNat 0<S.held.getD x.a.toNat 0
  ·rw[QlN hs.1 hs.2,hs.1]
   exact M.comm _ _ _ (h.good _) (h.good _)
  ·rw[QjH h34 hs]
 ·rw[Qry h34]
  exact M.two _ _ _ _ _ (fun e=>h34 (.inl e)) (fun e=>h34 (.inr e))
theorem ShI.ask {S:St} {R:List α} {w:Int→α} (h:ShI M S R w) {x:Ins} (hm:mayM x S.held.length=true):Qbt M R (askM S.held x)=Qbt M R x:=by
 obtain⟨_,_,⟨m5,m6⟩,m7⟩:=QaO hm
 have ha:R.getD (askM S.held x).a.toNat M.d=R.getD x.a.toNat M.d:=by
  show R.getD (QcH _ S.held 0).toNat M.d=_
  rw[h.hold (Qc3 m5 m6),h.at m5 m6]
 unfold Qbt
 rw[ha,QDC,QqI,QHw]
 by_cases h34:x.op=3∨x.op=4
 ·obtain⟨b0,b1⟩:=m7 h34
  have hb:R.getD (askM S.held x).b.toNat M.d=R.getD x.b.toNat M.d:=by
   show R.getD (if x.op=3∨x.op=4 then QcH _ S.held 0 else x.b).toNat M.d=_
   rw[if_pos h34,h.hold (Qc3 b0 b1),h.at b0 b1]
  rw[hb]
 ·rw[M.two x.op x.c _ _ (R.getD x.b.toNat M.d) (fun e=>h34 (.inl e)) (fun e=>h34 (.inr e))]
theorem ShI.put {S:St} {R:List α} {w:Int→α} (h:ShI M S R w) {to v:Int} (h0:0≤to) (h1:to<S.held.length) (hv:v<S.next):ShI M { S with held:=S.held.set to.toNat v } (R.set to.toNat (w v)) w:=by
 have h2:to.toNat<S.held.length:=by omega
 refine⟨by simp [h.len],fun r hr=>?_,h.good,⟨fun z hz=>?_,h.fresh.2⟩,h.pos,h.keys⟩
 ·rw[List.length_set] at hr
  show _=w ((S.held.set to.toNat v).getD r 0)
  rw[Qci (by rw [h.len];exact h2),Qci h2]
  split
  ·rfl
  ·exact h.reg r hr
 ·rcases List.mem_or_eq_of_mem_set hz with hz | rfl
  ·exact h.fresh.1 z hz
  ·exact hv
theorem ShI.step {S:St} {R:List α} {w:Int→α} (h:ShI M S R w) (n:Int) {x:Ins} (hm:mayM x S.held.length=true) (out:List Ins) (R0:List α) (hR:runE M out R0=some R) :
  (Qbt M R x=none→runE M (Qb4 (S,out) n x).2 R0=none)∧∀ Q,Qbt M R x=some Q→∃ w',runE M (Qb4 (S,out) n x).2 R0=some Q∧ShI M (Qb4 (S,out) n x).1 Q w':=by
 obtain⟨⟨m1,m2⟩,⟨m3,m4⟩,⟨m5,m6⟩,m7⟩:=QaO hm
 have hto:x.to.toNat<S.held.length:=by omega
 have hk:=h.key hm
 have hask:=h.ask hm
 have known:∀ v:Int,v<S.next→Qbj S n x=(v,(Qbj S n x).2.1,S)→Qbt M R x=some (R.set x.to.toNat (w v)) →
   ∃ w',runE M (Qb4 (S,out) n x).2 R0=some (R.set x.to.toNat (w v))∧ShI M (Qb4 (S,out) n x).1 (R.set x.to.toNat (w v)) w':=by
  intro v hv hr hs
  by_cases he:S.held.getD x.to.toNat 0=v
  ·have e:Qb4 (S,out) n x=(S,out):=by simp only [Qb4];rw [hr];exact if_pos he
   have e2:R.set x.to.toNat (w v)=R:=by
    have:=h.at m3 m4
    rw[he] at this
    rw[← this]
    exact Qrp (by rw [h.len];exact hto)
   rw[e,e2]
   exact⟨w,hR,h⟩
  ·have e:Qb4 (S,out) n x=({ S with held:=S.held.set x.to.toNat v },out++[QmB v S.held x]):=by simp only [Qb4];rw [hr];exact if_neg he
   rw[e]
   refine⟨w, ?_,h.put m3 m4 hv⟩
   show runE M (out++[QmB v S.held x]) R0=_
   rw[Qc5,hR]
   show Qbt M R (QmB v S.held x)=_
   unfold QmB
   split
   ·rename_i hh
    have hh':=h.hold (Qr0.1 hh)
    unfold Qbt
    rw[M.one]
    show some (R.set x.to.toNat (R.getD (QcH v S.held 0).toNat M.d))=_
    rw[hh']
   ·rw[hask,hs]
 by_cases h1:x.op=1
 ·have hs:Qbt M R x=some (R.set x.to.toNat (w (S.held.getD x.a.toNat 0))):=by
   unfold Qbt
   rw[h1,M.one,h.at m5 m6]
   rfl
  rw[hs]
  refine⟨fun e=>(nomatch e),fun Q hQ=>?_⟩
  obtain rfl:=Option.some.inj hQ
  exact known _ (h.fresh.1 _ (Qc3 m5 m6)) (by rw [Qze h1]) hs
 ·cases hl:QcG (keyM S.held x) S.keys with
  | some p =>
   obtain⟨hp1,hp2⟩:=Q0q hl
   obtain⟨k1,k2,k3⟩:=h.keys _ (List.mem_of_getElem? hp1)
   rw[hp2] at k3
   have hs:Qbt M R x=some (R.set x.to.toNat (w p.2.2.1)):=by
    unfold Qbt
    rw[hk,k3]
    rfl
   rw[hs]
   refine⟨fun e=>(nomatch e),fun Q hQ=>?_⟩
   obtain rfl:=Option.some.inj hQ
   exact known _ (h.fresh.2 _ (List.mem_of_getElem? hp1)) (by rw [QmU h1 hl]) hs
  | none =>
   have hr:=QmS (n:=n) h1 hl
   have hnew:S.next ∉ S.held:=fun hh=>by have:=h.fresh.1 _ hh;omega
   have he:S.held.getD x.to.toNat 0≠S.next:=fun e=>hnew (by rw [← e];exact Qc3 m3 m4)
   have hem:QmB S.next S.held x=askM S.held x:=if_neg (fun hh=>hnew (Qr0.1 hh))
   have e:Qb4 (S,out) n x=({ S with keys:=S.keys++[(keyM S.held x,S.next,n)],next:=S.next+1,held:=S.held.set x.to.toNat S.next },out++[askM S.held x]):=by
    simp only[Qb4];rw [hr,if_neg he,hem]
   have hrun:runE M (Qb4 (S,out) n x).2 R0=Qbt M R x:=by
    rw[e]
    show runE M (out++[askM S.held x]) R0=_
    rw[Qc5,hR]
    exact hask
   rw[hrun]
   refine⟨fun h=>h,fun Q hQ=>?_⟩
   have hQ0:=hQ
   unfold Qbt at hQ
   cases hf:M.f x.op x.c (R.getD x.a.toNat M.d) (R.getD x.b.toNat M.d) with
   | none=>rw [hf] at hQ;cases hQ
   | some u =>
    rw[hf] at hQ
    obtain rfl:=Option.some.inj hQ
    rw[hk] at hf
    have hgu:M.G u:=M.good _ _ _ _ _ (h.good _) (h.good _) hf
    refine⟨fun z=>if z=S.next then u else w z,hQ0, ?_⟩
    have hold:∀ z,z<S.next→(if z=S.next then u else w z)=w z:=fun z hz=>if_neg (by omega)
    have hka:(keyM S.held x).a<S.next∧(keyM S.held x).b<S.next:=by
     have g1:=h.fresh.1 _ (Qc3 m5 m6)
     by_cases h34:x.op=3∨x.op=4
     ·have g2:=h.fresh.1 _ (Qc3 (m7 h34).1 (m7 h34).2)
      by_cases hs:x.op=3∧S.held.getD x.b.toNat 0<S.held.getD x.a.toNat 0
      ·rw[QlN hs.1 hs.2];exact ⟨g2,g1⟩
      ·rw[QjH h34 hs];exact ⟨g1,g2⟩
     ·rw[Qry h34]
      have:=h.pos
      exact⟨g1,by show (-1:Int)<S.next;omega⟩
    rw[e]
    refine⟨by simp [h.len],fun r hr=>?_,fun v=>?_,⟨fun z hz=>?_,fun e he=>?_⟩,by have:=h.pos;show 0≤S.next+1;omega,fun e he=>?_⟩
    ·rw[List.length_set] at hr
     show _=(if (S.held.set x.to.toNat S.next).getD r 0=S.next then u else w ((S.held.set x.to.toNat S.next).getD r 0))
     rw[Qci (by rw [h.len];exact hto),Qci hto]
     by_cases hrt:r=x.to.toNat
     ·rw[if_pos hrt,if_pos hrt,if_pos rfl]
     ·rw[if_neg hrt,if_neg hrt,hold _ (h.fresh.1 _ (by
       rw[List.getD_eq_getElem?_getD,List.getElem?_eq_getElem (by rw [← h.len];exact hr)]
       exact List.getElem_mem _))]
      exact h.reg r hr
    ·show M.G (if v=S.next then u else w v)
     split
     ·exact hgu
     ·exact h.good v
    ·show z<S.next+1
     rcases List.mem_or_eq_of_mem_set hz with hz | rfl
     ·have:=h.fresh.1 z hz;omega
     ·omega
    ·show e.2.1<S.next+1
     rcases List.mem_append.1 he with he | he
     ·have:=h.fresh.2 e he;omega
     ·simp only[List.mem_cons,List.not_mem_nil,or_false] at he
      subst he
      show S.next<S.next+1
      omega
    ·show e.1.a<S.next+1∧e.1.b<S.next+1∧M.f e.1.op e.1.c (if e.1.a=S.next then u else w e.1.a) (if e.1.b=S.next then u else w e.1.b)=some (if e.2.1=S.next then u else w e.2.1)
     rcases List.mem_append.1 he with he | he
     ·obtain⟨k1,k2,k3⟩:=h.keys e he
      have k4:=h.fresh.2 e he
      rw[hold _ k1,hold _ k2,hold _ k4]
      exact⟨by omega,by omega,k3⟩
     ·simp only[List.mem_cons,List.not_mem_nil,or_false] at he
      subst he
      show (keyM S.held x).a<S.next+1∧(keyM S.held x).b<S.next+1∧M.f (keyM S.held x).op (keyM S.held x).c (if (keyM S.held x).a=S.next then u else w (keyM S.held x).a) (if (keyM S.held x).b=S.next then u else w (keyM S.held x).b)=some (if S.next=S.next then u else w S.next)
      rw[hold _ hka.1,hold _ hka.2,if_pos rfl]
      exact⟨by omega,by omega,hf⟩
theorem QvM {S0:St} {code:List Ins} (hcode:∀ i ∈ code,mayM i S0.held.length=true) {R0:List α} {w0:Int→α} (h0:ShI M S0 R0 w0):∀ i,i≤code.length →
  (runE M (code.take i) R0=none∧runE M (Qa7 S0 code i).2 R0=none)∨∃ R w,runE M (code.take i) R0=some R∧runE M (Qa7 S0 code i).2 R0=some R∧ShI M (Qa7 S0 code i).1 R w
 | 0,_=>.inr ⟨R0,w0,rfl,rfl,h0⟩
 | i+1,hi=>by
  have hlt:i<code.length:=hi
  have ih:=QvM hcode h0 i (by omega)
  have hps:=Qlr (S0:=S0) hlt
  rw[List.take_succ_eq_append_getElem hlt,Qc5,hps]
  have hm:=hcode _ (List.getElem_mem hlt)
  rw[← (Qcc S0 code i).1] at hm
  rcases ih with ⟨h1,h2⟩ | ⟨R,w,h1,h2,h3⟩
  ·refine .inl ⟨by rw [h1];rfl, ?_⟩
   simp only[Qb4]
   split
   ·exact h2
   ·show runE M (_++[_]) R0=none
    rw[Qc5,h2];rfl
  ·obtain⟨s1,s2⟩:=h3.step i hm (Qa7 S0 code i).2 R0 h2
   rw[h1]
   cases hs:Qbt M R code[i] with
   | none=>exact .inl ⟨hs,s1 hs⟩
   | some Q =>
    obtain⟨w',q1,q2⟩:=s2 Q hs
    exact .inr ⟨Q,w',hs,q1,q2⟩
theorem Q56 {ins:Int} {n r:Nat} (h:r<n):(Qbs ins n).getD r 0=if (r:Int)<ins then (r:Int) else ins:=by
 unfold Qbs
 simp only[List.getD_eq_getElem?_getD,List.getElem?_map,List.getElem?_range h,Option.map_some,Option.getD_some]
 split<;>split<;>omega
theorem Qzm {ins:Int} {n:Nat} (h0:0≤ins) {R0:List α} (hl:R0.length=n) (hg:∀ a ∈ R0,M.G a) (hz:∀ r:Nat,ins≤r→r<n→R0.getD r M.d=R0.getD ins.toNat M.d):ShI M (startS ins n) R0 (fun v=>if v<ins then R0.getD v.toNat M.d else R0.getD ins.toNat M.d):=by
 have hgd:∀ r:Nat,M.G (R0.getD r M.d):=fun r=>by
  rw[List.getD_eq_getElem?_getD]
  by_cases h:r<R0.length
  ·rw[List.getElem?_eq_getElem h];exact hg _ (List.getElem_mem h)
  ·rw[List.getElem?_eq_none (by omega)];exact M.gd
 refine⟨by rw [hl];exact (Qbk ins n).symm,fun r hr=>?_,fun v=>?_,QuA h0,by show 0≤ins+1;omega,fun e he=>by cases he⟩
 ·rw[hl] at hr
  show _=if (Qbs ins n).getD r 0<ins then _ else _
  rw[Q56 hr]
  by_cases h:(r:Int)<ins
  ·rw[if_pos h,if_pos h,Int.toNat_natCast]
  ·rw[if_neg h,if_neg (by omega)]
   exact hz r (by omega) hr
 ·split<;>exact hgd _
theorem Q5h {ins:Int} {n:Nat} {code:List Ins} {outs:List Int} (hr:Qax ⟨ins,n,code,outs⟩=true) {R0:List α} (hl:R0.length=n) (hg:∀ a ∈ R0,M.G a) (hz:∀ r:Nat,ins≤r→r<n→R0.getD r M.d=R0.getD ins.toNat M.d) :
  runE M (passC ins n code) R0=runE M code R0∧∀ R,runE M code R0=some R→(QdG (passS ins n code).held outs).map (fun r=>R.getD r.toNat M.d)=outs.map (fun r=>R.getD r.toNat M.d):=by
 simp only[Qax,Qdh,QfT,QfV,Bool.and_eq_true,decide_eq_true_eq,List.all_eq_true] at hr
 obtain⟨⟨⟨h1,h2,h3,h4,h5,h6⟩,ho⟩,hc⟩:=hr
 have hs:(startS ins n).held.length=n:=Qbk ins n
 have hcode:∀ i ∈ code,mayM i (startS ins n).held.length=true:=by rw [hs];exact hc
 have h:=QvM (M:=M) hcode (Qzm (by omega) hl hg hz) code.length (Nat.le_refl _)
 rw[List.take_of_length_le (Nat.le_refl _)] at h
 rcases h with ⟨q1,q2⟩ | ⟨R,w,q1,q2,q3⟩
 ·exact⟨by rw [q1];exact q2,fun R hR=>by rw [q1] at hR;cases hR⟩
 ·refine⟨by rw [q1];exact q2,fun R' hR=>?_⟩
  rw[q1] at hR
  obtain rfl:=Option.some.inj hR
  unfold QdG
  rw[List.map_map]
  refine List.map_congr_left fun r hr=>?_
  have hb:=ho r hr
  have hpl:(passS ins n code).held.length=n:=(Qcc (startS ins n) code code.length).1.trans hs
  show R.getD (QcH ((passS ins n code).held.getD r.toNat 0) (passS ins n code).held 0).toNat M.d=_
  have hb2:r<(passS ins n code).held.length:=by rw [hpl];exact hb.2
  rw[q3.hold (Qc3 hb.1 hb2),q3.at hb.1 hb2]
end
theorem Q6S (k:Nat) (ins:Int) (x1 x2 x3:IV) (r:Int):run (k+1) 64 [.agg [ii ins,.c x1,.c x2,.c x3],ii r]=some (ii (if ins<r then ins else r)):=by
 rw[run,ev64,Qaq]
 simp only[Tryd.f64,ii,FT,seval]
structure Lv where
 held:List Int
 a:List Int
 b:List Int
 sets:List Int
 unt:List Int
def lvB (held:List Int) (x:Ins):Int:=if x.op=3∨x.op=4 then held.getD x.b.toNat 0 else held.getD x.a.toNat 0
def Qdi (q:Lv) (k:Nat) (x:Ins):Lv :=
 ⟨q.held.set x.to.toNat q.unt.length,q.a.set k (q.held.getD x.a.toNat 0),q.b.set k (lvB q.held x),q.sets.set k q.unt.length,((q.unt.set (q.held.getD x.a.toNat 0).toNat k).set (lvB q.held x).toNat k)++[-1]⟩
def lvAt (q0:Lv) (need:List Bool) (code:List Ins):Nat→Lv
 | 0=>q0
 | i+1=>match code[i]? with
  | some x=>if need.getD i false=true then Qdi (lvAt q0 need code i) i x else lvAt q0 need code i
  | none=>lvAt q0 need code i
theorem Qfv {q0:Lv} {need:List Bool} {code:List Ins} {i:Nat} (h:i<code.length):lvAt q0 need code (i+1)=if need.getD i false=true then Qdi (lvAt q0 need code i) i code[i] else lvAt q0 need code i:=by
 rw[lvAt,List.getElem?_eq_getElem h]
structure LvOk (q:Lv) (n c:Nat):Prop where
 held:q.held.length=n
 a:q.a.length=c
 b:q.b.length=c
 sets:q.sets.length=c
 pos:0<q.unt.length
 vals:∀ v ∈ q.held,0≤v∧v<q.unt.length
theorem QfG {l:List Int} {r:Nat} (h:r<l.length):l.getD r 0 ∈ l:=by
 rw[List.getD_eq_getElem?_getD,List.getElem?_eq_getElem h]
 exact List.getElem_mem h
theorem QHo {q:Lv} {n c:Nat} (h:LvOk q n c) {x:Ins} (m5:0≤x.a∧x.a<n) (m7:x.op=3∨x.op=4→0≤x.b∧x.b<n):0≤lvB q.held x∧lvB q.held x<q.unt.length:=by
 unfold lvB
 split
 ·rename_i h34
  have:=m7 h34
  exact h.vals _ (QfG (by rw [h.held];omega))
 ·exact h.vals _ (QfG (by rw [h.held];omega))
theorem Q8o {q:Lv} {n c k:Nat} {x:Ins} (h:LvOk q n c):LvOk (Qdi q k x) n c:=by
 refine⟨by simp [Qdi,h.held],by simp [Qdi,h.a],by simp [Qdi,h.b],by simp [Qdi,h.sets],by simp [Qdi],fun v hv=>?_⟩
 simp only[Qdi,List.length_append,List.length_set,List.length_cons,List.length_nil] at hv ⊢
 rcases List.mem_or_eq_of_mem_set hv with hv | rfl
 ·have:=h.vals v hv;omega
 ·omega
theorem QfD {q:Lv} {k:Nat} {x:Ins}:(Qdi q k x).unt.length=q.unt.length+1:=by simp [Qdi]
theorem Qg3 {q0:Lv} {need:List Bool} {code:List Ins} {n c:Nat} (h:LvOk q0 n c):∀ i,LvOk (lvAt q0 need code i) n c∧(lvAt q0 need code i).unt.length≤q0.unt.length+i
 | 0=>⟨h,Nat.le_refl _⟩
 | i+1=>by
  obtain⟨h1,h2⟩:=Qg3 (need:=need) (code:=code) h i
  rw[lvAt]
  split
  ·split
   ·exact⟨Q8o h1,by rw [QfD];omega⟩
   ·exact⟨h1,by omega⟩
  ·exact⟨h1,by omega⟩
theorem Q54 {ins:Int} {n i:Nat} (h:i<n):(Qbs ins i++List.replicate (n-i) 0).set i (if ins<(i:Int) then ins else (i:Int))=Qbs ins (i+1)++List.replicate (n-(i+1)) 0:=by
 rw[List.set_append_right _ _ (by rw [Qbk];exact Nat.le_refl _),Qbk,Nat.sub_self,QlM]
 obtain⟨m,hm⟩:∃ m,n-i=m+1:=⟨n-i-1,by omega⟩
 rw[hm,show n-(i+1)=m by omega,List.replicate_succ,List.set_cons_zero,List.append_assoc]
 rfl
theorem Qyh (n:Nat):(List.replicate n [IV.int .i64 0]).flatten=Qal (List.replicate n 0):=by
 induction n with
 | zero=>rfl
 | succ n ih=>rw [List.replicate_succ,List.flatten_cons,ih];rfl
theorem Qzg (kf:Nat) (ins:Int) (x1 x2 x3:IV) (nd:List Bool) (c3 c4 c5:List IV) (zz:List AV) (hz0:(zz.all fun e=>AV.under 8 e)=true) (cl:Int) (n:Nat) (hn:n≤1000000) (k:Nat) (l:Ass) (z:Option Out) (hz:Qar Tryd.prog tab (kf+1) none Q20 33 203 [1,4,6,7,8,39,40] 8 k l ([.slot,.slot,.row false 3 c3,.row false 3 c4,.row false 3 c5,.cells 25 [ii ins,.c x1,.c x2,.c x3],.cells 78 zz,rI (Qbs ins 0++List.replicate (n-0) 0)])=z) (hk:n<k) (a1:asc l 1=.ptr 5 0) (a4:asc l 4=sB nd false none) (a6:asc l 6=ii cl) (a7:asc l 7=.ptr 6 0) (a8:asc l 8=hI 7 n) (a39:asc l 39=ii n) (a40:asc l 40=ii 0) :
  ∃ l',z=some (.exit 0 (fr 203 l') ([.slot,.slot,.row false 3 c3,.row false 3 c4,.row false 3 c5,.cells 25 [ii ins,.c x1,.c x2,.c x3],.cells 78 zz,rI (Qbs ins n++List.replicate (n-n) 0)]))∧asc l' 1=.ptr 5 0∧asc l' 4=sB nd false none∧asc l' 6=ii cl∧asc l' 7=.ptr 6 0∧asc l' 8=hI 7 n∧asc l' 39=ii n∧asc l' 40=ii n:=by
 subst hz
 refine Qa1 n (fun k l H=>Qar Tryd.prog tab (kf+1) none Q20 33 203 [1,4,6,7,8,39,40] 8 k l H)
  (fun i l H=>asc l 1=.ptr 5 0∧asc l 4=sB nd false none∧asc l 6=ii cl∧asc l 7=.ptr 6 0∧asc l 8=hI 7 n∧asc l 39=ii n∧asc l 40=ii i∧∃ G,H=([.slot,.slot,.row false 3 c3,.row false 3 c4,.row false 3 c5,.cells 25 [ii ins,.c x1,.c x2,.c x3],.cells 78 zz,rI (Qbs ins i++List.replicate (n-i) 0)])++G)
  (fun z=>∃ l',z=some (.exit 0 (fr 203 l') ([.slot,.slot,.row false 3 c3,.row false 3 c4,.row false 3 c5,.cells 25 [ii ins,.c x1,.c x2,.c x3],.cells 78 zz,rI (Qbs ins n++List.replicate (n-n) 0)]))∧asc l' 1=.ptr 5 0∧asc l' 4=sB nd false none∧asc l' 6=ii cl∧asc l' 7=.ptr 6 0∧asc l' 8=hI 7 n∧asc l' 39=ii n∧asc l' 40=ii n) ?_ n 0 k l _ (by omega) hk ⟨a1,a4,a6,a7,a8,a39,a40,[],by rw [List.append_nil]⟩
 clear hk a1 a4 a6 a7 a8 a39 a40
 rintro i k l H hi ⟨a1,a4,a6,a7,a8,a39,a40,G,rfl⟩
 have ht:trim 8 (fr 203 (keep l [1,4,6,7,8,39,40])) (([.slot,.slot,.row false 3 c3,.row false 3 c4,.row false 3 c5,.cells 25 [ii ins,.c x1,.c x2,.c x3],.cells 78 zz,rI (Qbs ins i++List.replicate (n-i) 0)])++G)=([.slot,.slot,.row false 3 c3,.row false 3 c4,.row false 3 c5,.cells 25 [ii ins,.c x1,.c x2,.c x3],.cells 78 zz,rI (Qbs ins i++List.replicate (n-i) 0)]):=Qa4 (by simp) (by simp only [a1,a4,a6,a7,a8,a39,a40,hz0,EVb,EVc,seval]) (by simp only [hz0,EVb,EVc,seval])
 by_cases hc:i<n
 ·have hc':(i:Int)<((n:Nat):Int):=by omega
  have hc0:(0:Int)≤i:=by omega
  have hw:IntKind.wrap .i64 ((i:Int)+1)=((i+1:Nat):Int):=by rw [wrap64 (by omega) (by omega)];omega
  have hS:=Q6S kf ins x1 x2 x3 i
  simp only[run,ii] at hS
  have hel:(Qal (Qbs ins i++List.replicate (n-i) 0)).length=n:=by rw [Qaj,List.length_append,Qbk,List.length_replicate];omega
  simp only[Qaa,ht]
  simp only[a1,a4,a6,a7,a8,a39,a40,hc',hc0,hw,hS,hel,Qaa,Qag,Qae,Qab,LP,Tryd.f33,FT,seval]
  try simp only [a1,a4,a6,a7,a8,a39,a40,hc',hc0,hw,hS,hel,QbK,Q54 hc,if_pos hc,FT,seval]
  refine .inr ⟨_,_,hc,rfl,(by rfl),(by rfl),(by rfl),(by rfl),(by rfl),(by rfl),(by rfl), ?_⟩
  exact⟨_,by rfl⟩
 ·refine .inl ?_
  obtain rfl:i=n:=by omega
  have hc':¬ (((i:Nat):Int)<((i:Nat):Int)):=by omega
  simp only[Qaa,ht]
  simp only[a1,a4,a6,a7,a8,a39,a40,hc',Qaa,Qag,Qae,Qab,LP,Tryd.f33,FT,seval]
  exact⟨_,rfl,(by rfl),(by rfl),(by rfl),(by rfl),(by rfl),(by rfl),(by rfl)⟩
theorem Qu2 (kf:Nat) (x0 x1 x2 x3:IV) (nd:List Bool) (c3 c4 c5 hc7:List IV) (y0 y1 y2 y3 y4:IV) (cl:Int) (n c m:Nat) (hm:m≤1000000) (k:Nat) (l:Ass) (z:Option Out) (hz:Qar Tryd.prog tab kf none QrF 33 203 [1,4,6,7,8,52,53] 8 k l ([lo 3 0 (Qal (List.replicate 0 (-1))),.slot,.row false 3 c3,.row false 3 c4,.row false 3 c5,.cells 25 [.c x0,.c x1,.c x2,.c x3],.cells 78 [.c y0,.c y1,.c y2,.c y3,.c y4,hI 2 c,hI 3 c,hI 4 c,.c (.slice [] 0 true (some 0)),lv 0 1 0],.row false 3 hc7])=z) (hk:m<k) (a1:asc l 1=.ptr 5 0) (a4:asc l 4=sB nd false none) (a6:asc l 6=ii cl) (a7:asc l 7=.ptr 6 0) (a8:asc l 8=hI 7 n) (a52:asc l 52=ii m) (a53:asc l 53=ii 0) :
  ∃ l',z=some (.exit 2 (fr 203 l') ([lo 3 m (Qal (List.replicate m (-1))),.slot,.row false 3 c3,.row false 3 c4,.row false 3 c5,.cells 25 [.c x0,.c x1,.c x2,.c x3],.cells 78 [.c y0,.c y1,.c y2,.c y3,.c y4,hI 2 c,hI 3 c,hI 4 c,.c (.slice [] 0 true (some 0)),lv 0 1 m],.row false 3 hc7]))∧asc l' 1=.ptr 5 0∧asc l' 4=sB nd false none∧asc l' 6=ii cl∧asc l' 7=.ptr 6 0∧asc l' 8=hI 7 n∧asc l' 52=ii m∧asc l' 53=ii m:=by
 subst hz
 refine Qa1 m (fun k l H=>Qar Tryd.prog tab kf none QrF 33 203 [1,4,6,7,8,52,53] 8 k l H)
  (fun i l H=>asc l 1=.ptr 5 0∧asc l 4=sB nd false none∧asc l 6=ii cl∧asc l 7=.ptr 6 0∧asc l 8=hI 7 n∧asc l 52=ii m∧asc l 53=ii i∧∃ G,H=([lo 3 i (Qal (List.replicate i (-1))),.slot,.row false 3 c3,.row false 3 c4,.row false 3 c5,.cells 25 [.c x0,.c x1,.c x2,.c x3],.cells 78 [.c y0,.c y1,.c y2,.c y3,.c y4,hI 2 c,hI 3 c,hI 4 c,.c (.slice [] 0 true (some 0)),lv 0 1 i],.row false 3 hc7])++G)
  (fun z=>∃ l',z=some (.exit 2 (fr 203 l') ([lo 3 m (Qal (List.replicate m (-1))),.slot,.row false 3 c3,.row false 3 c4,.row false 3 c5,.cells 25 [.c x0,.c x1,.c x2,.c x3],.cells 78 [.c y0,.c y1,.c y2,.c y3,.c y4,hI 2 c,hI 3 c,hI 4 c,.c (.slice [] 0 true (some 0)),lv 0 1 m],.row false 3 hc7]))∧asc l' 1=.ptr 5 0∧asc l' 4=sB nd false none∧asc l' 6=ii cl∧asc l' 7=.ptr 6 0∧asc l' 8=hI 7 n∧asc l' 52=ii m∧asc l' 53=ii m) ?_ m 0 k l _ (by omega) hk ⟨a1,a4,a6,a7,a8,a52,a53,[],by rw [List.append_nil]⟩
 clear hk a1 a4 a6 a7 a8 a52 a53
 rintro i k l H hi ⟨a1,a4,a6,a7,a8,a52,a53,G,rfl⟩
 have ht:trim 8 (fr 203 (keep l [1,4,6,7,8,52,53])) (([lo 3 i (Qal (List.replicate i (-1))),.slot,.row false 3 c3,.row false 3 c4,.row false 3 c5,.cells 25 [.c x0,.c x1,.c x2,.c x3],.cells 78 [.c y0,.c y1,.c y2,.c y3,.c y4,hI 2 c,hI 3 c,hI 4 c,.c (.slice [] 0 true (some 0)),lv 0 1 i],.row false 3 hc7])++G)=([lo 3 i (Qal (List.replicate i (-1))),.slot,.row false 3 c3,.row false 3 c4,.row false 3 c5,.cells 25 [.c x0,.c x1,.c x2,.c x3],.cells 78 [.c y0,.c y1,.c y2,.c y3,.c y4,hI 2 c,hI 3 c,hI 4 c,.c (.slice [] 0 true (some 0)),lv 0 1 i],.row false 3 hc7]):=Qa4 (by simp) (by simp only [a1,a4,a6,a7,a8,a52,a53,EVb,EVc,seval]) (by simp only [EVb,EVc,seval])
 by_cases hc:i<m
 ·have hc':(i:Int)<((m:Nat):Int):=by omega
  have hc0:(0:Int)≤i:=by omega
  have hw:IntKind.wrap .i64 ((i:Int)+1)=((i+1:Nat):Int):=by rw [wrap64 (by omega) (by omega)];omega
  have hap:=fun X x=>QcN (e:=3) (n:=i) (sz:=1) (by_:=8) (cells:=Qal (List.replicate i (-1))) (cs:=[x]) (X:=X) (Nat.le_trans (Nat.mul_le_mul_right 8 (show i+1≤1000001 by omega)) (by decide)) (by decide) (by rw [Qaj,List.length_replicate,Nat.mul_one])
  simp only[Qaa,ht]
  simp only[a1,a4,a6,a7,a8,a52,a53,hc',hc0,hw,hap,Qaa,Qag,Qae,Qab,LP,Tryd.f33,FT,seval]
  refine .inr ⟨_,_,hc,rfl,(by rfl),(by rfl),(by rfl),(by rfl),(by rfl),(by rfl),(by rfl), ?_⟩
  rw[List.replicate_succ',QbL]
  exact⟨_,by rfl⟩
 ·refine .inl ?_
  obtain rfl:i=m:=by omega
  have hc':¬ (((i:Nat):Int)<((i:Nat):Int)):=by omega
  simp only[Qaa,ht]
  simp only[a1,a4,a6,a7,a8,a52,a53,hc',Qaa,Qag,Qae,Qab,LP,Tryd.f33,FT,seval]
  exact⟨_,rfl,(by rfl),(by rfl),(by rfl),(by rfl),(by rfl),(by rfl),(by rfl)⟩
theorem QqG {l:List Bool} {i:Nat} (h:i<l.length):(encB l)[i]?=some (.bool (l.getD i false)):=by
 simp[encB,h]
theorem Qfq {l:List Int} {i:Nat} {v:Int} (h:i<l.length):(Qal (l.set i v))[i]?=some (.int .i64 v):=by
 simp[Qal,h]
theorem QBW {l:List Int} {X:Heap} {cs:List IV} (h0:0<l.length) (hb:l.length≤1000000) :
  apO 3 1 8 (some 0) (hI 0 l.length) (rI l::X) (some (cs,1))=some (hI 0 (l.length+1),.row false 3 (Qal l++cs)::X):=by
 have:=QcN (e:=3) (n:=l.length) (sz:=1) (by_:=8) (cells:=Qal l) (cs:=cs) (X:=X) (Nat.le_trans (Nat.mul_le_mul_right 8 (show l.length+1≤1000001 by omega)) (by decide)) (by decide) (by rw [Qaj,Nat.mul_one])
 rw[Qct h0,Qcm h0,Qct (by omega),Qcm (by omega),Nat.mul_one,Nat.mul_one] at this
 exact this
set_option maxHeartbeats 8000000 in
theorem QuM (kf:Nat) (x0 x1 x2 x3:IV) (y0 y1 y2 y3 y4:IV) (n:Nat) (need:List Bool) (q0:Lv) (code:List Ins) (hnd:need.length=code.length) (nl:Bool) (cap:Option Nat) (hq:LvOk q0 n code.length) (hu:q0.unt.length≤1000) (hcode:∀ i ∈ code,mayM i n=true) (hlen:code.length≤20000) (k:Nat) (l:Ass) (z:Option Out) (hz:Qar Tryd.prog tab (kf+1) none QqS 33 203 [1,4,6,7,8,66,67,68] 8 k l ([rI (lvAt q0 need code 0).unt,.slot,rI (lvAt q0 need code 0).a,rI (lvAt q0 need code 0).b,rI (lvAt q0 need code 0).sets,.cells 25 [.c x0,.c x1,.c x2,.c x3],.cells 78 [.c y0,.c y1,.c y2,.c y3,.c y4,hI 2 code.length,hI 3 code.length,hI 4 code.length,.c (.slice [] 0 true (some 0)),hI 0 (lvAt q0 need code 0).unt.length],rI (lvAt q0 need code 0).held])=z) (hk:code.length<k) (a1:asc l 1=.ptr 5 0) (a4:asc l 4=sB need false none) (a6:asc l 6=ii code.length) (a7:asc l 7=.ptr 6 0) (a8:asc l 8=hI 7 n) (a66:asc l 66=sC code nl cap) (a67:asc l 67=ii code.length) (a68:asc l 68=ii 0) :
  ∃ l',z=some (.exit 4 (fr 203 l') ([rI (lvAt q0 need code code.length).unt,.slot,rI (lvAt q0 need code code.length).a,rI (lvAt q0 need code code.length).b,rI (lvAt q0 need code code.length).sets,.cells 25 [.c x0,.c x1,.c x2,.c x3],.cells 78 [.c y0,.c y1,.c y2,.c y3,.c y4,hI 2 code.length,hI 3 code.length,hI 4 code.length,.c (.slice [] 0 true (some 0)),hI 0 (lvAt q0 need code code.length).unt.length],rI (lvAt q0 need code code.length).held]))∧asc l' 1=.ptr 5 0∧asc l' 4=sB need false none∧asc l' 6=ii code.length∧asc l' 7=.ptr 6 0∧asc l' 8=hI 7 n∧asc l' 66=sC code nl cap∧asc l' 67=ii code.length∧asc l' 68=ii code.length:=by
 subst hz
 refine Qa1 code.length (fun k l H=>Qar Tryd.prog tab (kf+1) none QqS 33 203 [1,4,6,7,8,66,67,68] 8 k l H)
  (fun i l H=>asc l 1=.ptr 5 0∧asc l 4=sB need false none∧asc l 6=ii code.length∧asc l 7=.ptr 6 0∧asc l 8=hI 7 n∧asc l 66=sC code nl cap∧asc l 67=ii code.length∧asc l 68=ii i∧∃ G,H=([rI (lvAt q0 need code i).unt,.slot,rI (lvAt q0 need code i).a,rI (lvAt q0 need code i).b,rI (lvAt q0 need code i).sets,.cells 25 [.c x0,.c x1,.c x2,.c x3],.cells 78 [.c y0,.c y1,.c y2,.c y3,.c y4,hI 2 code.length,hI 3 code.length,hI 4 code.length,.c (.slice [] 0 true (some 0)),hI 0 (lvAt q0 need code i).unt.length],rI (lvAt q0 need code i).held])++G)
  (fun z=>∃ l',z=some (.exit 4 (fr 203 l') ([rI (lvAt q0 need code code.length).unt,.slot,rI (lvAt q0 need code code.length).a,rI (lvAt q0 need code code.length).b,rI (lvAt q0 need code code.length).sets,.cells 25 [.c x0,.c x1,.c x2,.c x3],.cells 78 [.c y0,.c y1,.c y2,.c y3,.c y4,hI 2 code.length,hI 3 code.length,hI 4 code.length,.c (.slice [] 0 true (some 0)),hI 0 (lvAt q0 need code code.length).unt.length],rI (lvAt q0 need code code.length).held]))∧asc l' 1=.ptr 5 0∧asc l' 4=sB need false none∧asc l' 6=ii code.length∧asc l' 7=.ptr 6 0∧asc l' 8=hI 7 n∧asc l' 66=sC code nl cap∧asc l' 67=ii code.length∧asc l' 68=ii code.length) ?_ code.length 0 k l _ (by omega) hk ⟨a1,a4,a6,a7,a8,a66,a67,a68,[],by rw [List.append_nil]⟩
 clear hk a1 a4 a6 a7 a8 a66 a67 a68
 rintro i k l H hi ⟨a1,a4,a6,a7,a8,a66,a67,a68,G,rfl⟩
 have ht:trim 8 (fr 203 (keep l [1,4,6,7,8,66,67,68])) (([rI (lvAt q0 need code i).unt,.slot,rI (lvAt q0 need code i).a,rI (lvAt q0 need code i).b,rI (lvAt q0 need code i).sets,.cells 25 [.c x0,.c x1,.c x2,.c x3],.cells 78 [.c y0,.c y1,.c y2,.c y3,.c y4,hI 2 code.length,hI 3 code.length,hI 4 code.length,.c (.slice [] 0 true (some 0)),hI 0 (lvAt q0 need code i).unt.length],rI (lvAt q0 need code i).held])++G)=([rI (lvAt q0 need code i).unt,.slot,rI (lvAt q0 need code i).a,rI (lvAt q0 need code i).b,rI (lvAt q0 need code i).sets,.cells 25 [.c x0,.c x1,.c x2,.c x3],.cells 78 [.c y0,.c y1,.c y2,.c y3,.c y4,hI 2 code.length,hI 3 code.length,hI 4 code.length,.c (.slice [] 0 true (some 0)),hI 0 (lvAt q0 need code i).unt.length],rI (lvAt q0 need code i).held]):=Qa4 (by simp) (by simp only [a1,a4,a6,a7,a8,a66,a67,a68,EVb,EVc,seval]) (by simp only [EVb,EVc,seval])
 by_cases hc:i<code.length
 ·have hc':(i:Int)<((code.length:Nat):Int):=by omega
  have hc0:(0:Int)≤i:=by omega
  have hw:IntKind.wrap .i64 ((i:Int)+1)=((i+1:Nat):Int):=by rw [wrap64 (by omega) (by omega)];omega
  have hx:=Qbg hc
  obtain⟨x,hX⟩:∃ x,x=code[i]:=⟨_,rfl⟩
  have hm:=QaO (hcode x (by rw [hX];exact List.getElem_mem hc))
  have hst:lvAt q0 need code (i+1)=if need.getD i false=true then Qdi (lvAt q0 need code i) i x else lvAt q0 need code i:=by rw [Qfv hc,hX]
  rw[← hX] at hx
  obtain⟨hok,hul2⟩:=Qg3 (need:=need) (code:=code) hq i
  obtain⟨q,hQ⟩:∃ q,q=lvAt q0 need code i:=⟨_,rfl⟩
  rw[hst]
  rw[← hQ] at hok hul2 ht ⊢
  obtain⟨⟨m1,m2⟩,⟨m3,m4⟩,⟨m5,m6⟩,m7⟩:=hm
  have hnb:=QqG (l:=need) (i:=i) (by omega)
  have hnl:(encB need).length=code.length:=by rw [QaM,hnd]
  have hel:(Qal q.held).length=n:=by rw [Qaj,hok.held]
  have hal:q.a.length=code.length:=hok.a
  have hbl:q.b.length=code.length:=hok.b
  have hsl:q.sets.length=code.length:=hok.sets
  have hhl:q.held.length=n:=hok.held
  have hxa:=QaL m5 (show x.a<q.held.length by omega)
  obtain⟨va,hva⟩:∃ va,va=q.held.getD x.a.toNat 0:=⟨_,rfl⟩
  have hv:=hok.vals va (by rw [hva];exact QfG (by omega))
  obtain⟨v0,v1⟩:=hv
  rw[← hva] at hxa
  have hv2:va.toNat<q.unt.length:=by omega
  have ht2:x.to.toNat<n:=by omega
  have hA:=QeJ (kf+0) x.op x.to x.a x.b x.c
  simp only[run,aI,ii] at hA
  have g1:=Qfq (l:=q.a) (v:=va) (show i<q.a.length by omega)
  have ic:(i:Int)<code.length:=hc'
  cases hni:need.getD i false with
  | false =>
   rw[if_neg (by simp)]
   rw[hni] at hnb
   simp only[Qaa,ht]
   simp only[a1,a4,a6,a7,a8,a66,a67,a68,hc',hc0,hw,hx,hnb,hnl,hnd,Qaa,Qag,Qae,Qab,LP,Tryd.f33,FT,seval]
   refine .inr ⟨_,_,hc,rfl,(by rfl),(by rfl),(by rfl),(by rfl),(by rfl),(by rfl),(by rfl),(by rfl), ?_⟩
   exact⟨_,by rfl⟩
  | true =>
   rw[if_pos rfl]
   rw[hni] at hnb
   simp only[Qaa,ht]
   simp only[a1,a4,a6,a7,a8,a66,a67,a68,hc',hc0,hw,hx,hnb,hnl,hnd,Qaa,Qag,Qae,Qab,LP,Tryd.f33,FT,seval]
   rw[Qaf Tryd.f33 20 QD6];rotate_left;rfl
   simp only[a1,a4,a6,a7,a8,a66,a67,a68,hc',hc0,hw,hel,hxa,hx,m5,m6,hal,hbl,Qaj,List.length_set,QbK,if_pos hc,EVd,List.getElem?_nil,Nat.reducePow,Nat.reduceDiv,Nat.reduceMod,FT,seval]
   by_cases h34:x.op=3∨x.op=4
   ·obtain⟨b0,b1⟩:=m7 h34
    have hxb:=QaL b0 (show x.b<q.held.length by omega)
    have hl2:(asks ⟨x.op,x.to,x.a,x.b,x.c⟩).length=2:=by rw [Qdc h34];rfl
    have h12:(1:Int)<((2:Nat):Int):=by decide
    have hlb:lvB q.held x=q.held.getD x.b.toNat 0:=if_pos h34
    obtain⟨w,hw'⟩:∃ w,w=q.held.getD x.b.toNat 0:=⟨_,rfl⟩
    obtain⟨w0,w1⟩:=hok.vals w (by rw [hw'];exact QfG (by omega))
    rw[← hw'] at hxb hlb
    have hw2:w.toNat<q.unt.length:=by omega
    have g2:=Qfq (l:=q.b) (v:=w) (show i<q.b.length by omega)
    have hap:=fun X cs=>QBW (l:=(q.unt.set va.toNat i).set w.toNat i) (cs:=cs) (X:=X) (by simp only [List.length_set];exact hok.pos) (by simp only [List.length_set];omega)
    simp only[List.length_set] at hap
    have hul:=Qaj q.unt
    try simp only [a1,a4,a6,a7,a8,a66,a67,a68,hc',hc0,hw,hA,hl2,h12,FT,seval]
    rw[Qaf Tryd.f33 22 QDv];rotate_left;rfl
    simp only[a1,a4,a6,a7,a8,a66,a67,a68,hc',hc0,hw,hel,hxb,b0,b1,hal,hbl,Qaj,List.length_set,QbK,if_pos hc,List.set_set,EVd,List.getElem?_nil,Nat.reducePow,Nat.reduceDiv,Nat.reduceMod,FT,seval]
    rw[Qaf Tryd.f33 23 Q7k];rotate_left;rfl
    simp only[a1,a4,a6,a7,a8,a66,a67,a68,hc',hc0,hw,hv2,hw2,g1,g2,hal,hbl,hel,hul,Qaj,List.length_set,v0,v1,w0,w1,QbK,if_pos hc,EVd,List.getElem?_nil,Nat.reducePow,Nat.reduceDiv,Nat.reduceMod,FT,seval]
    rw[Qaf Tryd.f33 24 Q8Y];rotate_left;rfl
    simp only[a1,a4,a6,a7,a8,a66,a67,a68,hc',hc0,hw,ht2,hsl,hhl,hel,hul,Qaj,List.length_set,m3,m4,ic,QbK,if_pos hc,EVd,List.getElem?_nil,Nat.reducePow,Nat.reduceDiv,Nat.reduceMod,FT,seval]
    try simp only [a1,a4,a6,a7,a8,a66,a67,a68,hc',hc0,hw,hap,hul,FT,seval]
    refine .inr ⟨_,_,hc,rfl,(by rfl),(by rfl),(by rfl),(by rfl),(by rfl),(by rfl),(by rfl),(by rfl), ?_⟩
    simp only[Qdi,rI,List.length_append,List.length_set,List.length_cons,List.length_nil,Nat.zero_add,QbL,hlb,← hva]
    exact⟨_,by rfl⟩
   ·have hl1:¬ (1:Int)<((asks ⟨x.op,x.to,x.a,x.b,x.c⟩).length:Int):=by
     unfold asks
     rw[if_neg h34]
     split<;>simp
    have hlb:lvB q.held x=q.held.getD x.a.toNat 0:=if_neg h34
    rw[← hva] at hlb
    obtain⟨w,hw'⟩:∃ w,w=va:=⟨_,rfl⟩
    have hw2:=hv2
    have w0:=v0
    have w1:=v1
    have g2:=Qfq (l:=q.b) (v:=va) (show i<q.b.length by omega)
    have hap:=fun X cs=>QBW (l:=(q.unt.set va.toNat i).set va.toNat i) (cs:=cs) (X:=X) (by simp only [List.length_set];exact hok.pos) (by simp only [List.length_set];omega)
    simp only[List.length_set] at hap
    have hul:=Qaj q.unt
    try simp only [a1,a4,a6,a7,a8,a66,a67,a68,hc',hc0,hw,hA,hl1,FT,seval]
    rw[Qaf Tryd.f33 23 Q7k];rotate_left;rfl
    simp only[a1,a4,a6,a7,a8,a66,a67,a68,hc',hc0,hw,hv2,hw2,g1,g2,hal,hbl,hel,hul,Qaj,List.length_set,v0,v1,w0,w1,QbK,if_pos hc,EVd,List.getElem?_nil,Nat.reducePow,Nat.reduceDiv,Nat.reduceMod,FT,seval]
    rw[Qaf Tryd.f33 24 Q8Y];rotate_left;rfl
    simp only[a1,a4,a6,a7,a8,a66,a67,a68,hc',hc0,hw,ht2,hsl,hhl,hel,hul,Qaj,List.length_set,m3,m4,ic,QbK,if_pos hc,EVd,List.getElem?_nil,Nat.reducePow,Nat.reduceDiv,Nat.reduceMod,FT,seval]
    try simp only [a1,a4,a6,a7,a8,a66,a67,a68,hc',hc0,hw,hap,hul,FT,seval]
    refine .inr ⟨_,_,hc,rfl,(by rfl),(by rfl),(by rfl),(by rfl),(by rfl),(by rfl),(by rfl),(by rfl), ?_⟩
    simp only[Qdi,rI,List.length_append,List.length_set,List.length_cons,List.length_nil,Nat.zero_add,QbL,hlb,← hva]
    exact⟨_,by rfl⟩
 ·refine .inl ?_
  obtain rfl:i=code.length:=by omega
  have hc':¬ (((code.length:Nat):Int)<((code.length:Nat):Int)):=by omega
  simp only[Qaa,ht]
  simp only[a1,a4,a6,a7,a8,a66,a67,a68,hc',Qaa,Qag,Qae,Qab,LP,Tryd.f33,FT,seval]
  exact⟨_,rfl,(by rfl),(by rfl),(by rfl),(by rfl),(by rfl),(by rfl),(by rfl),(by rfl)⟩
end Go.Proofs.Sw
