/- A part of the proof: what functions of the program answer; conditions stand in each theorem. -/
import Derived.Test.YtiiannaficbjeaaDoorVK
import Derived.Test.YtiiannaficbjeaaDoorVB
set_option linter.unusedVariables false
set_option linter.unusedSimpArgs false
set_option linter.unusedSectionVars false
namespace Go.Proofs.Sw
open Go.Ab Go.Proofs.YtiiannaficbjeaaDoor.tab
theorem Qf9 (k:Nat) (x y z w:AV) (hx:[x,y,z,w].all AV.isCell=true) (H:Heap):Qav Tryd.prog (Qac tab) (k+1) (.fn 10) [.agg [x,y,z,w]] H=some (.clo 29 [] [.ptr H.length 0],H++[.cells 25 [x,y,z,w]]):=by
 simp only[List.all_cons,List.all_nil,Bool.and_true,Bool.and_eq_true] at hx
 rw[ev10]
 simp only[Tryd.f10,hx,FT,seval]
 rfl
theorem QhZ (k:Nat) (x y z w:AV) (hx:[x,y,z,w].all AV.isCell=true):ans (Qav Tryd.prog (Qac tab) (k+1) (.fn 10) [.agg [x,y,z,w]] [])=none:=by
 rw[Qf9 k x y z w hx];rfl
abbrev zPg:AObj:=.cells 25 [ii 0,ii 0,.c (.slice [] 0 true (some 0)),.c (.slice [] 0 true (some 0))]
noncomputable abbrev allL (p:Pg) (nl0:Bool) (cap0 cap20:Option Nat) (l0:Ass) (c:AObj):Heap:=[cPg p nl0 cap0 false cap20,zPg,c,cPg p nl0 cap0 false cap20,Qdm #[20,21] QDY QDR 9 .ready none (fr 24 l0)]
def AllJ (p:Pg) (nl0:Bool) (cap0 cap20:Option Nat) (l0:Ass) (j:Nat) (L:Heap):Prop:=∃ x y z w:IV,L=allL p nl0 cap0 cap20 l0 (.cells 25 [.c x,.c y,.c z,.c w])∧(0<j→∃ nl cap cap2,AObj.cells 25 [.c x,.c y,.c z,.c w]=cPg (ylP p (j-1)) nl cap false cap2)
theorem QAL {p:Pg} {nl0:Bool} {cap0 cap20:Option Nat} (K:Nat) (l0:Ass) (h6:asc l0 6=.ptr 2 0) (hl0:∀ n,5≤n→(l0.all fun e=>AV.under n e.2)=true):RBody p nl0 cap0 cap20 (K+9) 4 5 3 (AllJ p nl0 cap0 cap20 l0) (fun _=>true):=by
 refine⟨?_, ?_, ?_,by omega,by omega, ?_⟩
 ·rintro j L ⟨x,y,z,w,rfl,_⟩;rfl
 ·rintro j L n ⟨x,y,z,w,rfl,_⟩ hn
  simp only[QcA (hl0 n hn),EVb,EVc,seval]
 ·rintro j L ⟨x,y,z,w,rfl,_⟩;rfl
 ·rintro j L M V rows hj ⟨x,y,z,w,rfl,_⟩ _ hM hV
  have hel:=Qau (ylP p j).code
  have hOe:=Qaj (ylP p j).outs
  have htc:(Qak (ylP p j).code).take ((ylP p j).code.length * 5)=Qak (ylP p j).code:=List.take_of_length_le (by omega)
  have hto:(Qal (ylP p j).outs).take (ylP p j).outs.length=Qal (ylP p j).outs:=List.take_of_length_le (by omega)
  rcases hV with ⟨rfl,rfl⟩ | ⟨hC,rfl,rfl⟩
  ·match M,hM with
   | [m0,m1],_ =>
    simp only[Qah,Qes,QcW,hel,hOe,htc,hto,h6,Nat.le_refl,rfAs,rfBd,rfOf,Qay,Qae,Qag,Qaa,Qab,LP,Tryd.f9,FT,seval]
    exact⟨_,_,(by rfl),_,_,_,_,rfl,fun _=>⟨false,none,none,by rw [Nat.add_sub_cancel];try rfl⟩⟩
   | [m0,m1,m2],_ =>
    simp only[Qah,Qes,QcW,hel,hOe,htc,hto,h6,Nat.le_refl,rfAs,rfBd,rfOf,Qay,Qae,Qag,Qaa,Qab,LP,Tryd.f9,FT,seval]
    exact⟨_,_,(by rfl),_,_,_,_,rfl,fun _=>⟨false,none,none,by rw [Nat.add_sub_cancel];try rfl⟩⟩
   | [m0,m1,m2,m3],_ =>
    simp only[Qah,Qes,QcW,hel,hOe,htc,hto,h6,Nat.le_refl,rfAs,rfBd,rfOf,Qay,Qae,Qag,Qaa,Qab,LP,Tryd.f9,FT,seval]
    exact⟨_,_,(by rfl),_,_,_,_,rfl,fun _=>⟨false,none,none,by rw [Nat.add_sub_cancel];try rfl⟩⟩
  ·match M,hM with
   | [m0,m1],_ =>
    simp only[Qah,Qes,QcW,hel,hOe,htc,hto,h6,Nat.le_refl,rfAs,rfBd,rfOf,Qay,Qae,Qag,Qaa,Qab,LP,Tryd.f9,FT,seval]
    exact⟨_,_,(by rfl),_,_,_,_,rfl,fun _=>⟨true,some 0,none,by rw [Nat.add_sub_cancel];simp only [cPg,sC,hC];try rfl⟩⟩
   | [m0,m1,m2],_ =>
    simp only[Qah,Qes,QcW,hel,hOe,htc,hto,h6,Nat.le_refl,rfAs,rfBd,rfOf,Qay,Qae,Qag,Qaa,Qab,LP,Tryd.f9,FT,seval]
    exact⟨_,_,(by rfl),_,_,_,_,rfl,fun _=>⟨true,some 0,none,by rw [Nat.add_sub_cancel];simp only [cPg,sC,hC];try rfl⟩⟩
   | [m0,m1,m2,m3],_ =>
    simp only[Qah,Qes,QcW,hel,hOe,htc,hto,h6,Nat.le_refl,rfAs,rfBd,rfOf,Qay,Qae,Qag,Qaa,Qab,LP,Tryd.f9,FT,seval]
    exact⟨_,_,(by rfl),_,_,_,_,rfl,fun _=>⟨true,some 0,none,by rw [Nat.add_sub_cancel];simp only [cPg,sC,hC];try rfl⟩⟩
theorem Q6d {p:Pg} {nl0:Bool} {cap0 cap20:Option Nat} (K:Nat) (hr:Qax p=true) (hk:p.outs.length+p.code.length+3500≤K) (hn0:nl0=true→p.code=[]) (l0:Ass) (E:Option (AV × Heap))
  (hE:Qav Tryd.prog (Qac tab) (K+10) (.fn 29) [.yld 4,.ptr 3 0] (allL p nl0 cap0 cap20 l0 zPg)=E) (h6:asc l0 6=.ptr 2 0) (hl0:∀ n,5≤n→(l0.all fun e=>AV.under n e.2)=true) :
  ∃ nl cap cap2,E=some (.tup [],allL p nl0 cap0 cap20 l0 (cPg (Qbo (nowP p (3 * rT p))) nl cap false cap2)):=by
 obtain⟨L',j,h1,⟨x,y,z,w,rfl,hJ⟩,hj,_,hjj⟩:=Qid (QAL K l0 h6 hl0) hr hk hn0 (allL p nl0 cap0 cap20 l0 zPg) ⟨_,_,_,_,rfl,fun h=>by omega⟩
 have hj2:j=3 * rT p:=by
  rcases hjj with h | h
  ·exact h
  ·cases h
 obtain⟨nl,cap,cap2,hc⟩:=hJ (by omega)
 refine⟨nl,cap,cap2, ?_⟩
 rw[← hE,h1,hc,Nat.add_sub_cancel,hj2]
 unfold ylP
 rw[if_neg (by omega)]
theorem QHL (K:Nat) (p:Pg) (nl:Bool) (cap cap2:Option Nat) (hr:Qax p=true) (hk:p.outs.length+p.code.length+3500≤K) (hn0:nl=true→p.code=[]) :
  ∃ nl3 cap3 cap4,run (K+11) 9 [aP p nl cap false cap2]=some (.tup [aP (Qbo (nowP p (3 * rT p))) nl3 cap3 false cap4,ii 0]):=by
 obtain⟨cn,hck⟩:=QdR (K+9) p nl cap false cap2 (by omega)
 rw[QdS,if_pos hr] at hck
 have hba:=QhZ (K+9) (ii p.ins) (ii p.regs) (sC p.code nl cap) (sI p.outs false cap2) rfl
 have hbk:=Qf9 (K+9) (ii p.ins) (ii p.regs) (sC p.code nl cap) (sI p.outs false cap2) rfl
 simp only[run,aP,ii,sC,sI] at hck hba hbk
 rw[run,ev9,Qaq]
 simp only[Tryd.f9,aP,ii,hck,hba,hbk,FT,seval]
 rw[QbI QDY QDR];rotate_left;rfl;rfl
 simp only[hba,hbk,FT,seval]
 generalize hE:Qav Tryd.prog (Qac tab) (K+10) (.fn 29) _ _=E
 obtain⟨nl3,cap3,cap4,rfl⟩:=Q6d K hr hk hn0 _ E (by exact hE) (by rfl) (fun n hn=>by
  have d0:decide (0<n)=true:=decide_eq_true (by omega)
  have d1:decide (1<n)=true:=decide_eq_true (by omega)
  have d2:decide (2<n)=true:=decide_eq_true (by omega)
  have d3:decide (3<n)=true:=decide_eq_true (by omega)
  simp only[d0,d1,d2,d3,EVb,EVc,seval])
 refine⟨nl3,cap3,cap4, ?_⟩
 simp only[FT,seval]
theorem QDG (k:Nat) (p:Pg) (nl:Bool) (cap:Option Nat) (nl2:Bool) (cap2:Option Nat) (hr:Qax p=false) (hk:p.outs.length+p.code.length+20≤k) :
  run (k+2) 9 [aP p nl cap nl2 cap2]=some (.tup [.agg [ii 0,ii 0,.c (.slice [] 0 true (some 0)),.c (.slice [] 0 true (some 0))],ii 80]):=by
 obtain⟨cn,hck⟩:=QdR k p nl cap nl2 cap2 (by omega)
 simp only[QdS,hr] at hck
 simp only[run,aP,ii,sC,sI] at hck
 rw[run,ev9,Qaq]
 simp only[Tryd.f9,aP,ii,hck,FT,seval]
end Go.Proofs.Sw
namespace Go.Proofs.Sw
open Go.Ab
variable [Globals]
theorem Q8U (kf:Nat) (x y x2 y2:Int) (C D:List Ins) (ov ov2:IV) (nl nl2:Bool) (cap cap2:Option Nat) (hAB:C.length=D.length) (hl:C.length≤1000000) (k:Nat) (l:Ass) (z:Option Out) (hz:Qar Tryd.prog tab kf none Q3H 14 73 [2,3,5] 2 k l ([.cells 25 [ii x,ii y,sC C nl cap,.c ov],.cells 25 [ii x2,ii y2,sC D nl2 cap2,.c ov2]])=z) (hk:C.length<k) (a2:asc l 2=.ptr 0 0) (a3:asc l 3=.ptr 1 0) (a5:asc l 5=ii 0) :
  ∃ (l':Ass) (H:Heap),(z=some (.exit 0 (fr 73 l') [.cells 25 [ii x,ii y,sC C nl cap,.c ov],.cells 25 [ii x2,ii y2,sC D nl2 cap2,.c ov2]])∧C=D∧asc l' 2=.ptr 0 0∧asc l' 3=.ptr 1 0)∨(z=some (.ret (fr 73 l') H)∧C≠D∧asc l' 4=bb false):=by
 subst hz
 refine Qa1 C.length (fun k l H=>Qar Tryd.prog tab kf none Q3H 14 73 [2,3,5] 2 k l H)
  (fun i l H=>asc l 2=.ptr 0 0∧asc l 3=.ptr 1 0∧asc l 5=ii i∧(C.take i=D.take i)∧∃ G,H=([.cells 25 [ii x,ii y,sC C nl cap,.c ov],.cells 25 [ii x2,ii y2,sC D nl2 cap2,.c ov2]])++G)
  (fun z=>∃ (l':Ass) (H:Heap),(z=some (.exit 0 (fr 73 l') [.cells 25 [ii x,ii y,sC C nl cap,.c ov],.cells 25 [ii x2,ii y2,sC D nl2 cap2,.c ov2]])∧C=D∧asc l' 2=.ptr 0 0∧asc l' 3=.ptr 1 0)∨(z=some (.ret (fr 73 l') H)∧C≠D∧asc l' 4=bb false)) ?_ C.length 0 k l _ (by omega) hk ⟨a2,a3,a5,rfl,[],by rw [List.append_nil]⟩
 clear hk a2 a3 a5
 rintro i k l H hi ⟨a2,a3,a5,hp,G,rfl⟩
 have ht:trim 2 (fr 73 (keep l [2,3,5])) (([.cells 25 [ii x,ii y,sC C nl cap,.c ov],.cells 25 [ii x2,ii y2,sC D nl2 cap2,.c ov2]])++G)=([.cells 25 [ii x,ii y,sC C nl cap,.c ov],.cells 25 [ii x2,ii y2,sC D nl2 cap2,.c ov2]]):=Qa4 (by simp) (by simp only [a2,a3,a5,EVb,EVc,seval]) (by simp only [EVb,EVc,seval])
 by_cases hc:i<C.length
 ·have hc':(i:Int)<((C.length:Nat):Int):=by omega
  have hc0:(0:Int)≤i:=by omega
  have hw:IntKind.wrap .i64 ((i:Int)+1)=((i+1:Nat):Int):=by rw [wrap64 (by omega) (by omega)];omega
  have hcB:i<D.length:=by omega
  have hx:=Qbg hc
  have hy:=Qbg hcB
  have hiB:(i:Int)<D.length:=by omega
  have hela:=Qau C
  have helb:=Qau D
  have hbb:=insB C[i] D[i]
  by_cases he:C[i]=D[i]
  ·have hsn:=QdZ hc hcB hp he
   rw[decide_eq_true he] at hbb
   simp only[Qaa,ht]
   simp only[a2,a3,a5,hc',hc0,hw,hx,hy,hiB,Qaa,Qag,Qae,Qab,LP,Tryd.f14,FT,seval]
   rw[Qaf Tryd.f14 6 QCW];rotate_left;rfl
   simp only[a2,a3,a5,hc',hc0,hw,hx,hy,hiB,hbb,EVd,List.getElem?_nil,Nat.reducePow,Nat.reduceDiv,Nat.reduceMod,FT,seval]
   exact .inr ⟨_,_,hc,rfl,(by rfl),(by rfl),(by rfl),hsn,⟨_,by rfl⟩⟩
  ·refine .inl ?_
   rw[decide_eq_false he] at hbb
   simp only[Qaa,ht]
   simp only[a2,a3,a5,hc',hc0,hw,hx,hy,hiB,Qaa,Qag,Qae,Qab,LP,Tryd.f14,FT,seval]
   rw[Qaf Tryd.f14 6 QCW];rotate_left;rfl
   simp only[a2,a3,a5,hc',hc0,hw,hx,hy,hiB,hbb,EVd,List.getElem?_nil,Nat.reducePow,Nat.reduceDiv,Nat.reduceMod,FT,seval]
   exact⟨_,_,.inr ⟨rfl,fun e=>he (by subst e;rfl),(by rfl)⟩⟩
 ·refine .inl ?_
  obtain rfl:i=C.length:=by omega
  have hc':¬ (((C.length:Nat):Int)<((C.length:Nat):Int)):=by omega
  rw[List.take_of_length_le (by omega),List.take_of_length_le (by omega)] at hp
  simp only[Qaa,ht]
  simp only[a2,a3,a5,hc',Qaa,Qag,Qae,Qab,LP,Tryd.f14,FT,seval]
  exact⟨_,[],.inl ⟨rfl,hp,(by rfl),(by rfl)⟩⟩
theorem Q7P (kf:Nat) (x y x2 y2:Int) (C D:List Int) (ov ov2:IV) (nl nl2:Bool) (cap cap2:Option Nat) (hAB:C.length=D.length) (hl:C.length≤1000000) (k:Nat) (l:Ass) (z:Option Out) (hz:Qar Tryd.prog tab kf none Q1Z 14 73 [2,3,6] 2 k l ([.cells 25 [ii x,ii y,.c ov,sI C nl cap],.cells 25 [ii x2,ii y2,.c ov2,sI D nl2 cap2]])=z) (hk:C.length<k) (a2:asc l 2=.ptr 0 0) (a3:asc l 3=.ptr 1 0) (a6:asc l 6=ii 0) :
  ∃ (l':Ass) (H:Heap),(z=some (.exit 2 (fr 73 l') H)∧C=D)∨(z=some (.ret (fr 73 l') H)∧C≠D∧asc l' 4=bb false):=by
 subst hz
 refine Qa1 C.length (fun k l H=>Qar Tryd.prog tab kf none Q1Z 14 73 [2,3,6] 2 k l H)
  (fun i l H=>asc l 2=.ptr 0 0∧asc l 3=.ptr 1 0∧asc l 6=ii i∧(C.take i=D.take i)∧∃ G,H=([.cells 25 [ii x,ii y,.c ov,sI C nl cap],.cells 25 [ii x2,ii y2,.c ov2,sI D nl2 cap2]])++G)
  (fun z=>∃ (l':Ass) (H:Heap),(z=some (.exit 2 (fr 73 l') H)∧C=D)∨(z=some (.ret (fr 73 l') H)∧C≠D∧asc l' 4=bb false)) ?_ C.length 0 k l _ (by omega) hk ⟨a2,a3,a6,rfl,[],by rw [List.append_nil]⟩
 clear hk a2 a3 a6
 rintro i k l H hi ⟨a2,a3,a6,hp,G,rfl⟩
 have ht:trim 2 (fr 73 (keep l [2,3,6])) (([.cells 25 [ii x,ii y,.c ov,sI C nl cap],.cells 25 [ii x2,ii y2,.c ov2,sI D nl2 cap2]])++G)=([.cells 25 [ii x,ii y,.c ov,sI C nl cap],.cells 25 [ii x2,ii y2,.c ov2,sI D nl2 cap2]]):=Qa4 (by simp) (by simp only [a2,a3,a6,EVb,EVc,seval]) (by simp only [EVb,EVc,seval])
 by_cases hc:i<C.length
 ·have hc':(i:Int)<((C.length:Nat):Int):=by omega
  have hc0:(0:Int)≤i:=by omega
  have hw:IntKind.wrap .i64 ((i:Int)+1)=((i+1:Nat):Int):=by rw [wrap64 (by omega) (by omega)];omega
  have hcB:i<D.length:=by omega
  have hx:=QaT hc
  have hy:=QaT hcB
  have hiB:(i:Int)<D.length:=by omega
  have hela:=Qaj C
  have helb:=Qaj D
  by_cases he:C[i]=D[i]
  ·have hsn:=QdZ hc hcB hp he
   rw[he] at hx
   simp only[Qaa,ht]
   simp only[a2,a3,a6,hc',hc0,hw,hx,hy,hiB,Qaa,Qag,Qae,Qab,LP,Tryd.f14,FT,seval]
   rw[Qaf Tryd.f14 11 Q7a];rotate_left;rfl
   simp only[a2,a3,a6,hc',hc0,hw,hx,hy,hiB,EVd,List.getElem?_nil,Nat.reducePow,Nat.reduceDiv,Nat.reduceMod,FT,seval]
   exact .inr ⟨_,_,hc,rfl,(by rfl),(by rfl),(by rfl),hsn,⟨_,by rfl⟩⟩
  ·refine .inl ?_
   simp only[Qaa,ht]
   simp only[a2,a3,a6,hc',hc0,hw,hx,hy,hiB,he,Qaa,Qag,Qae,Qab,LP,Tryd.f14,FT,seval]
   rw[Qaf Tryd.f14 11 Q7a];rotate_left;rfl
   simp only[a2,a3,a6,hc',hc0,hw,hx,hy,hiB,he,EVd,List.getElem?_nil,Nat.reducePow,Nat.reduceDiv,Nat.reduceMod,FT,seval]
   exact⟨_,_,.inr ⟨rfl,fun e=>he (by subst e;rfl),(by rfl)⟩⟩
 ·refine .inl ?_
  obtain rfl:i=C.length:=by omega
  have hc':¬ (((C.length:Nat):Int)<((C.length:Nat):Int)):=by omega
  rw[List.take_of_length_le (by omega),List.take_of_length_le (by omega)] at hp
  simp only[Qaa,ht]
  simp only[a2,a3,a6,hc',Qaa,Qag,Qae,Qab,LP,Tryd.f14,FT,seval]
  exact⟨_,_,.inl ⟨rfl,hp⟩⟩
theorem QbR (k:Nat) (p q:Pg) (a1 a2 b1 b2:Bool) (c1 c2 d1 d2:Option Nat) (hl:p.code.length≤1000000) (hl2:p.outs.length≤1000000) (hk:p.code.length+p.outs.length+10≤k) :
  run (k+1) 14 [aP p a1 c1 a2 c2,aP q b1 d1 b2 d2]=some (bb (decide (p=q))):=by
 obtain⟨i1,r1,C,O⟩:=p
 obtain⟨i2,r2,D,P⟩:=q
 simp only at hl hl2 hk
 by_cases n1:i1=i2
 ·by_cases n2:r1=r2
  ·by_cases n3:C.length=D.length
   ·by_cases n4:O.length=P.length
    ·have n3':(C.length:Int)=D.length:=by omega
     have n4':(O.length:Int)=P.length:=by omega
     rw[run,ev14,Qaq]
     simp only[Tryd.f14,aP,ii,bb,n1,n2,n3',n4',FT,seval]
     rw[Qai Q3H QGO];rotate_left;rfl;rfl;rfl
     generalize hz:Qar _ _ _ _ _ _ _ _ _ _ _ _=z
     obtain⟨l',H,⟨rfl,hCD,e2,e3⟩ | ⟨rfl,hne,e4⟩⟩:=Q8U k i2 r2 i2 r2 C D (.slice (Qal O) O.length a2 c2) (.slice (Qal P) P.length b2 d2) a1 b1 c1 d1 n3 hl _ _ z (by exact hz) (by omega) (by rfl) (by rfl) (by rfl)
     ·clear hz
      simp only[e2,e3,FT,seval]
      rw[Qai Q1Z QFj];rotate_left;rfl;rfl;rfl
      generalize hz:Qar _ _ _ _ _ _ _ _ _ _ _ _=z
      obtain⟨l',H,⟨rfl,hOP⟩ | ⟨rfl,hne,e4⟩⟩:=Q7P k i2 r2 i2 r2 O P (.slice (Qak C) C.length a1 c1) (.slice (Qak D) D.length b1 d1) a2 b2 c2 d2 n4 hl2 _ _ z (by exact hz) (by omega) (by exact e2) (by exact e3) (by rfl)
      ·subst hCD hOP
       simp only[decide_true,FT,seval]
      ·rw[decide_eq_false (fun e=>hne (by injection e))]
       simp only[e4,FT,seval]
     ·clear hz
      rw[decide_eq_false (fun e=>hne (by injection e))]
      simp only[e4,FT,seval]
    ·have n3':(C.length:Int)=D.length:=by omega
     have n4':¬ (O.length:Int)=P.length:=by omega
     rw[decide_eq_false (fun e=>n4 (by injection e with _ _ _ e;rw [e]))]
     rw[run,ev14,Qaq]
     simp only[Tryd.f14,aP,ii,bb,n1,n2,n3',n4',FT,seval]
   ·have n3':¬ (C.length:Int)=D.length:=by omega
    rw[decide_eq_false (fun e=>n3 (by injection e with _ _ e _;rw [e]))]
    rw[run,ev14,Qaq]
    simp only[Tryd.f14,aP,ii,bb,n1,n2,n3',FT,seval]
  ·rw[decide_eq_false (fun e=>n2 (by injection e))]
   rw[run,ev14,Qaq]
   simp only[Tryd.f14,aP,ii,bb,n1,n2,FT,seval]
 ·rw[decide_eq_false (fun e=>n1 (by injection e))]
  rw[run,ev14,Qaq]
  simp only[Tryd.f14,aP,ii,bb,n1,FT,seval]
end Go.Proofs.Sw
namespace Go.Proofs.Sw
open Go.Ab Go.Proofs.YtiiannaficbjeaaDoor.tab
theorem QcJ (k:Nat) (q:Pg) (a1 a2:Bool) (c1 c2:Option Nat) (hl:q.code.length * 40≤roomBytes) (hl2:q.outs.length * 8≤roomBytes) (hO:1≤q.outs.length) :
  run (k+1) 13 [aP q a1 c1 a2 c2]=some (aP q (nlE q.code) (cpE q.code) false none):=by
 have h:=QB0 k q a1 a2 c1 c2 hl hl2
 have e1:nlE q.outs=false:=decide_eq_false (by omega)
 have e2:cpE q.outs=none:=if_neg (by omega)
 rw[h,e1,e2]
theorem Q76 (k:Nat) (q:Pg) (nl:Bool) (cap cap2:Option Nat) (hr:Qax q=true) (hk:q.outs.length+q.code.length+3000≤k) :
  ∃ (nl3:Bool) (cap3:Option Nat),run (k+3) 15 [aP q nl cap false cap2]=some (.tup [aP (Qbo q) nl3 cap3 false none,ii 0]):=by
 obtain⟨ins,regs,code,outs⟩:=q
 obtain⟨n,e,en,g1,g2,g3,g4,g5,g6,go,gc⟩:=QaQ hr
 simp only at e hk
 subst e
 exact QAC k ins n code outs nl cap false cap2 hk hr
abbrev cE (q:Pg):AObj:=cPg q (nlE q.code) (cpE q.code) false none
def wasP (p:Pg) (j:Nat):Pg:=if j=0 then p else nowP p (3 * ((j-1) / 3))
def nowL (p:Pg) (j:Nat):Pg:=if j≤3 * rT p then nowP p j else Qbo (nowP p (3 * rT p))
noncomputable abbrev lawL (p:Pg) (nl0:Bool) (cap0 cap20:Option Nat) (st:Int) (gv:IV) (o6:AObj) (jd:Bool) (l0:Ass) (now was:Pg) (n:Int) (pk:Bool):Heap :=
 [cE now,cE was,cPg p nl0 cap0 false cap20,.cells 3 [ii st],.cells 4 [bb false],.cells 28 [.c gv],o6,cPg p nl0 cap0 false cap20,.cells 4 [bb jd],.cells 3 [ii n],.cells 4 [bb pk],Qdm #[77,78] Q2h Q1n 3 .ready none (fr 186 l0)]
def LawJ (p:Pg) (nl0:Bool) (cap0 cap20:Option Nat) (st:Int) (gv:IV) (o6:AObj) (jd:Bool) (l0:Ass) (j:Nat) (L:Heap):Prop :=
 ∃ was:Pg,L=lawL p nl0 cap0 cap20 st gv o6 jd l0 (nowL p j) was j (decide (3 * rT p<j))∧(j≤3 * rT p→was=wasP p j)
theorem Q0r {s:ByteArray} {H:Heap} (h:s=sFold∨s=sShare∨s=sDead∨s=sPack):binA Tryd.prog H .neq 9 (.c (.str s)) (.c (.str s))=some (.c (.bool false)):=by
 rcases h with rfl | rfl | rfl | rfl<;>kernel_rfl
theorem Qaz {p:Pg} {nl0:Bool} {cap0 cap20:Option Nat} {st:Int} {gv:IV} {o6:AObj} {jd:Bool} {l0:Ass} {j:Nat} {q was:Pg} {pk:Bool} (h1:nowL p (j+1)=q) (h2:decide (3 * rT p<j+1)=pk) (h3:j+1≤3 * rT p→was=wasP p (j+1)) :
  LawJ p nl0 cap0 cap20 st gv o6 jd l0 (j+1) (lawL p nl0 cap0 cap20 st gv o6 jd l0 q was ((j+1:Nat):Int) pk):=⟨was,by rw [h1,h2],h3⟩
structure LawT (l0:Ass):Prop where
 t3:asc l0 3=.ptr 2 0
 t6:asc l0 6=.ptr 4 0
 t7:asc l0 7=.ptr 5 0
 t13:asc l0 13=.ptr 8 0
 t14:asc l0 14=.ptr 0 0
 t15:asc l0 15=.ptr 1 0
 t16:asc l0 16=.ptr 9 0
 t17:asc l0 17=.ptr 10 0
 und:∀ n,12≤n→(l0.all fun e=>AV.under n e.2)=true
end Go.Proofs.Sw
namespace Go.Proofs.Sw
open Go.Ab Go.Proofs.YtiiannaficbjeaaDoor.tab
set_option maxHeartbeats 20000000 in
theorem Q85 {p:Pg} {nl0:Bool} {cap0 cap20:Option Nat} {st:Int} {gv:IV} {o6:AObj} {jd:Bool} {l0:Ass} (K:Nat) (hl:LawT l0) (hr:Qax p=true) (hk:p.outs.length+p.code.length+3500≤K)
  (hans:jd=true→∀ (j:Nat) (nl:Bool) (cap cap2:Option Nat),j≤3 * rT p→run (K+68) 19 [aP p nl0 cap0 false cap20,aP (ylP p j) nl cap false cap2,.c gv]=some (bb true)) (j:Nat) (hj3:j % 3=0) (hj:j<3 * rT p) (was:Pg) (hw:was=wasP p j) (q:Pg) (hq:q=ylP p j) (M:Heap) (V:AV) (rows:Heap) (hM:M.length=2∨M.length=3∨M.length=4) (hV:Qy1 q (12+M.length) V rows) :
  ∃ L' G,Qav Tryd.prog (Qac tab) (K+69) (.round 11) [.c (.str sFold),V] (lawL p nl0 cap0 cap20 st gv o6 jd l0 (nowP p j) was j false++(M++rows))=some (bb true,L'++(M++G))∧LawJ p nl0 cap0 cap20 st gv o6 jd l0 (j+1) L':=by
 have hcn:=QaV hr j
 have hcw:Comes p was:=by rw [hw];unfold wasP;split;exact Comes.refl hr;exact QaV hr _
 have hcq:=Qfi hr j
 rw[← hq] at hcq
 obtain⟨n1,e1,en1,w1,w2,w3,w4,w5,w6,_,_⟩:=QaQ hr
 have c1:=hcn.code
 have c2:=hcn.outs
 have c3:=hcw.code
 have c4:=hcw.outs
 have c5:=hcq.code
 have c6:=hcq.outs
 have hsmall:∀ c:Nat,c≤p.code.length→c * 40≤roomBytes:=fun c h=>Nat.le_trans (show c * 40≤16384 * 40 by omega) (by decide)
 have hsmall2:∀ c:Nat,c=p.outs.length→c * 8≤roomBytes:=fun c h=>Nat.le_trans (show c * 8≤16384 * 8 by omega) (by decide)
 have hT16:=(QcX p).2.1
 have hT1:=(QcX p).1
 have hqs:q=Qg4 0 (nowP p j):=by rw [hq];unfold ylP;rw [if_pos hj,nowP,hj3]
 obtain⟨nl3,cap3,hn3,hps⟩:=QfQ (K+59) 0 (nowP p j) (nlE (nowP p j).code) (cpE (nowP p j).code) none hcn.right (by omega)
 rw[← hqs,show pfn 0=16 from rfl] at hps
 have hrc1:=QcJ (K+67) (nowP p j) (nlE (nowP p j).code) false (cpE (nowP p j).code) none (hsmall _ c1) (hsmall2 _ c2) (by omega)
 have hrc2:=QcJ (K+67) q nl3 false cap3 none (hsmall _ c5) (hsmall2 _ c6) (by omega)
 have hsw:=QbR (K+67) was (nowP p j) (nlE was.code) false (nlE (nowP p j).code) false (cpE was.code) none (cpE (nowP p j).code) none (by omega) (by omega) (by omega)
 have hsq:=QbR (K+67) q q false false nl3 false none none cap3 none (by omega) (by omega) (by omega)
 have hsq2:=QbR (K+67) q q true false nl3 false (some 0) none cap3 none (by omega) (by omega) (by omega)
 have hsp:=Qh0 (K+66) q.ins q.regs (N:=q.code.length) (m:=q.outs.length) (E:=Qak q.code) (O:=Qal q.outs) (Qau _) (Qaj _)
 have hsp2:=QgM (K+66) q.ins q.regs (m:=q.outs.length) (O:=Qal q.outs) (Qaj _)
 have hel:=Qau q.code
 have hOe:=Qaj q.outs
 have htc:(Qak q.code).take (q.code.length * 5)=Qak q.code:=List.take_of_length_le (by omega)
 have hto:(Qal q.outs).take q.outs.length=Qal q.outs:=List.take_of_length_le (by omega)
 simp only[run,aP,ii,bb,decide_true] at hps hrc1 hrc2 hsw hsq hsq2 hsp hsp2
 have t3:=hl.t3
 have t6:=hl.t6
 have t7:=hl.t7
 have t13:=hl.t13
 have t14:=hl.t14
 have t15:=hl.t15
 have t16:=hl.t16
 have t17:=hl.t17
 have hwn:IntKind.wrap .i64 ((j:Int)+1)=((j+1:Nat):Int):=by rw [wrap64 (by omega) (by omega)];omega
 have hne:=fun H=>Q0r (s:=sFold) (H:=H) (.inl rfl)
 have htm:((j:Nat):Int).tmod 3=0:=by show ((j % 3:Nat):Int)=0;omega
 have h48:¬ (j:Int)=48:=by omega
 have hnow:nowL p (j+1)=q:=by unfold nowL;rw [if_pos (by omega),nowP,hj3,hqs]
 have hpk:decide (3 * rT p<j+1)=false:=decide_eq_false (by omega)
 have hwas:j+1≤3 * rT p→nowP p j=wasP p (j+1):=fun _=>by unfold wasP;rw [if_neg (by omega),Nat.add_sub_cancel,show 3 * (j / 3)=j by omega]
 have hdiff:¬ j=0→¬ was=nowP p j:=fun h0=>by
  have h:=(QcX p).2.2.1 (j / 3) (by omega) (by omega)
  rw[hw]
  unfold wasP
  rw[if_neg h0,show 3 * ((j-1) / 3)=3 * (j / 3-1) by omega]
  rw[show 3 * (j / 3)=j by omega] at h
  exact fun e=>h e.symm
 cases jd with
 | true =>
  have han:=hans rfl j false none none (by omega)
  have han2:=hans rfl j true (some 0) none (by omega)
  rw[← hq] at han han2
  simp only[run,aP,ii,bb] at han han2
  rcases hV with ⟨rfl,rfl⟩ | ⟨hC,rfl,rfl⟩
  ·match M,hM with
   | [m0,m1],_ =>
    by_cases h0:j=0
    ·have hj0:¬ (0:Int)<(j:Int):=by omega
     simp only[Qah,Qam,t3,t6,t7,t13,t14,t15,t16,t17,hps,hrc1,hrc2,hsq,hsq2,hsp,hsp2,han,hel,hOe,htc,hto,hne,htm,hj0,hwn,Nat.le_refl,rfAs,rfBd,rfOf,Qay,Qae,Qag,Qaa,Qab,LP,Tryd.f3,FT,seval]
     exact⟨lawL p nl0 cap0 cap20 st gv o6 true l0 q (nowP p j) ((j+1:Nat):Int) false,_,(by rfl),Qaz hnow hpk hwas⟩
    ·have hj0:(0:Int)<(j:Int):=by omega
     have hsw':=hsw
     rw[decide_eq_false (hdiff h0)] at hsw'
     simp only[Qah,Qam,t3,t6,t7,t13,t14,t15,t16,t17,hps,hrc1,hrc2,hsq,hsq2,hsp,hsp2,han,hel,hOe,htc,hto,hne,htm,hj0,hsw',h48,hwn,Nat.le_refl,rfAs,rfBd,rfOf,Qay,Qae,Qag,Qaa,Qab,LP,Tryd.f3,FT,seval]
     exact⟨lawL p nl0 cap0 cap20 st gv o6 true l0 q (nowP p j) ((j+1:Nat):Int) false,_,(by rfl),Qaz hnow hpk hwas⟩
   | [m0,m1,m2],_ =>
    by_cases h0:j=0
    ·have hj0:¬ (0:Int)<(j:Int):=by omega
     simp only[Qah,Qam,t3,t6,t7,t13,t14,t15,t16,t17,hps,hrc1,hrc2,hsq,hsq2,hsp,hsp2,han,hel,hOe,htc,hto,hne,htm,hj0,hwn,Nat.le_refl,rfAs,rfBd,rfOf,Qay,Qae,Qag,Qaa,Qab,LP,Tryd.f3,FT,seval]
     exact⟨lawL p nl0 cap0 cap20 st gv o6 true l0 q (nowP p j) ((j+1:Nat):Int) false,_,(by rfl),Qaz hnow hpk hwas⟩
    ·have hj0:(0:Int)<(j:Int):=by omega
     have hsw':=hsw
     rw[decide_eq_false (hdiff h0)] at hsw'
     simp only[Qah,Qam,t3,t6,t7,t13,t14,t15,t16,t17,hps,hrc1,hrc2,hsq,hsq2,hsp,hsp2,han,hel,hOe,htc,hto,hne,htm,hj0,hsw',h48,hwn,Nat.le_refl,rfAs,rfBd,rfOf,Qay,Qae,Qag,Qaa,Qab,LP,Tryd.f3,FT,seval]
     exact⟨lawL p nl0 cap0 cap20 st gv o6 true l0 q (nowP p j) ((j+1:Nat):Int) false,_,(by rfl),Qaz hnow hpk hwas⟩
   | [m0,m1,m2,m3],_ =>
    by_cases h0:j=0
    ·have hj0:¬ (0:Int)<(j:Int):=by omega
     simp only[Qah,Qam,t3,t6,t7,t13,t14,t15,t16,t17,hps,hrc1,hrc2,hsq,hsq2,hsp,hsp2,han,hel,hOe,htc,hto,hne,htm,hj0,hwn,Nat.le_refl,rfAs,rfBd,rfOf,Qay,Qae,Qag,Qaa,Qab,LP,Tryd.f3,FT,seval]
     exact⟨lawL p nl0 cap0 cap20 st gv o6 true l0 q (nowP p j) ((j+1:Nat):Int) false,_,(by rfl),Qaz hnow hpk hwas⟩
    ·have hj0:(0:Int)<(j:Int):=by omega
     have hsw':=hsw
     rw[decide_eq_false (hdiff h0)] at hsw'
     simp only[Qah,Qam,t3,t6,t7,t13,t14,t15,t16,t17,hps,hrc1,hrc2,hsq,hsq2,hsp,hsp2,han,hel,hOe,htc,hto,hne,htm,hj0,hsw',h48,hwn,Nat.le_refl,rfAs,rfBd,rfOf,Qay,Qae,Qag,Qaa,Qab,LP,Tryd.f3,FT,seval]
     exact⟨lawL p nl0 cap0 cap20 st gv o6 true l0 q (nowP p j) ((j+1:Nat):Int) false,_,(by rfl),Qaz hnow hpk hwas⟩
  ·have hnil:sC q.code true (some 0)=.c (.slice [] 0 true (some 0)):=by rw [sC,hC];rfl
   rw[hnil] at hsq2 han2
   match M,hM with
   | [m0,m1],_ =>
    by_cases h0:j=0
    ·have hj0:¬ (0:Int)<(j:Int):=by omega
     simp only[Qah,Qam,t3,t6,t7,t13,t14,t15,t16,t17,hps,hrc1,hrc2,hsq,hsq2,hsp,hsp2,han2,hel,hOe,htc,hto,hne,htm,hj0,hwn,Nat.le_refl,rfAs,rfBd,rfOf,Qay,Qae,Qag,Qaa,Qab,LP,Tryd.f3,FT,seval]
     exact⟨lawL p nl0 cap0 cap20 st gv o6 true l0 q (nowP p j) ((j+1:Nat):Int) false,_,(by rfl),Qaz hnow hpk hwas⟩
    ·have hj0:(0:Int)<(j:Int):=by omega
     have hsw':=hsw
     rw[decide_eq_false (hdiff h0)] at hsw'
     simp only[Qah,Qam,t3,t6,t7,t13,t14,t15,t16,t17,hps,hrc1,hrc2,hsq,hsq2,hsp,hsp2,han2,hel,hOe,htc,hto,hne,htm,hj0,hsw',h48,hwn,Nat.le_refl,rfAs,rfBd,rfOf,Qay,Qae,Qag,Qaa,Qab,LP,Tryd.f3,FT,seval]
     exact⟨lawL p nl0 cap0 cap20 st gv o6 true l0 q (nowP p j) ((j+1:Nat):Int) false,_,(by rfl),Qaz hnow hpk hwas⟩
   | [m0,m1,m2],_ =>
    by_cases h0:j=0
    ·have hj0:¬ (0:Int)<(j:Int):=by omega
     simp only[Qah,Qam,t3,t6,t7,t13,t14,t15,t16,t17,hps,hrc1,hrc2,hsq,hsq2,hsp,hsp2,han2,hel,hOe,htc,hto,hne,htm,hj0,hwn,Nat.le_refl,rfAs,rfBd,rfOf,Qay,Qae,Qag,Qaa,Qab,LP,Tryd.f3,FT,seval]
     exact⟨lawL p nl0 cap0 cap20 st gv o6 true l0 q (nowP p j) ((j+1:Nat):Int) false,_,(by rfl),Qaz hnow hpk hwas⟩
    ·have hj0:(0:Int)<(j:Int):=by omega
     have hsw':=hsw
     rw[decide_eq_false (hdiff h0)] at hsw'
     simp only[Qah,Qam,t3,t6,t7,t13,t14,t15,t16,t17,hps,hrc1,hrc2,hsq,hsq2,hsp,hsp2,han2,hel,hOe,htc,hto,hne,htm,hj0,hsw',h48,hwn,Nat.le_refl,rfAs,rfBd,rfOf,Qay,Qae,Qag,Qaa,Qab,LP,Tryd.f3,FT,seval]
     exact⟨lawL p nl0 cap0 cap20 st gv o6 true l0 q (nowP p j) ((j+1:Nat):Int) false,_,(by rfl),Qaz hnow hpk hwas⟩
   | [m0,m1,m2,m3],_ =>
    by_cases h0:j=0
    ·have hj0:¬ (0:Int)<(j:Int):=by omega
     simp only[Qah,Qam,t3,t6,t7,t13,t14,t15,t16,t17,hps,hrc1,hrc2,hsq,hsq2,hsp,hsp2,han2,hel,hOe,htc,hto,hne,htm,hj0,hwn,Nat.le_refl,rfAs,rfBd,rfOf,Qay,Qae,Qag,Qaa,Qab,LP,Tryd.f3,FT,seval]
     exact⟨lawL p nl0 cap0 cap20 st gv o6 true l0 q (nowP p j) ((j+1:Nat):Int) false,_,(by rfl),Qaz hnow hpk hwas⟩
    ·have hj0:(0:Int)<(j:Int):=by omega
     have hsw':=hsw
     rw[decide_eq_false (hdiff h0)] at hsw'
     simp only[Qah,Qam,t3,t6,t7,t13,t14,t15,t16,t17,hps,hrc1,hrc2,hsq,hsq2,hsp,hsp2,han2,hel,hOe,htc,hto,hne,htm,hj0,hsw',h48,hwn,Nat.le_refl,rfAs,rfBd,rfOf,Qay,Qae,Qag,Qaa,Qab,LP,Tryd.f3,FT,seval]
     exact⟨lawL p nl0 cap0 cap20 st gv o6 true l0 q (nowP p j) ((j+1:Nat):Int) false,_,(by rfl),Qaz hnow hpk hwas⟩
 | false =>
  clear hans
  rcases hV with ⟨rfl,rfl⟩ | ⟨hC,rfl,rfl⟩
  ·match M,hM with
   | [m0,m1],_ =>
    by_cases h0:j=0
    ·have hj0:¬ (0:Int)<(j:Int):=by omega
     simp only[Qah,Qam,t3,t6,t7,t13,t14,t15,t16,t17,hps,hrc1,hrc2,hsq,hsq2,hsp,hsp2,hne,hel,hOe,htc,hto,hne,htm,hj0,hwn,Nat.le_refl,rfAs,rfBd,rfOf,Qay,Qae,Qag,Qaa,Qab,LP,Tryd.f3,FT,seval]
     exact⟨lawL p nl0 cap0 cap20 st gv o6 false l0 q (nowP p j) ((j+1:Nat):Int) false,_,(by rfl),Qaz hnow hpk hwas⟩
    ·have hj0:(0:Int)<(j:Int):=by omega
     have hsw':=hsw
     rw[decide_eq_false (hdiff h0)] at hsw'
     simp only[Qah,Qam,t3,t6,t7,t13,t14,t15,t16,t17,hps,hrc1,hrc2,hsq,hsq2,hsp,hsp2,hne,hel,hOe,htc,hto,hne,htm,hj0,hsw',h48,hwn,Nat.le_refl,rfAs,rfBd,rfOf,Qay,Qae,Qag,Qaa,Qab,LP,Tryd.f3,FT,seval]
     exact⟨lawL p nl0 cap0 cap20 st gv o6 false l0 q (nowP p j) ((j+1:Nat):Int) false,_,(by rfl),Qaz hnow hpk hwas⟩
   | [m0,m1,m2],_ =>
    by_cases h0:j=0
    ·have hj0:¬ (0:Int)<(j:Int):=by omega
     simp only[Qah,Qam,t3,t6,t7,t13,t14,t15,t16,t17,hps,hrc1,hrc2,hsq,hsq2,hsp,hsp2,hne,hel,hOe,htc,hto,hne,htm,hj0,hwn,Nat.le_refl,rfAs,rfBd,rfOf,Qay,Qae,Qag,Qaa,Qab,LP,Tryd.f3,FT,seval]
     exact⟨lawL p nl0 cap0 cap20 st gv o6 false l0 q (nowP p j) ((j+1:Nat):Int) false,_,(by rfl),Qaz hnow hpk hwas⟩
    ·have hj0:(0:Int)<(j:Int):=by omega
     have hsw':=hsw
     rw[decide_eq_false (hdiff h0)] at hsw'
     simp only[Qah,Qam,t3,t6,t7,t13,t14,t15,t16,t17,hps,hrc1,hrc2,hsq,hsq2,hsp,hsp2,hne,hel,hOe,htc,hto,hne,htm,hj0,hsw',h48,hwn,Nat.le_refl,rfAs,rfBd,rfOf,Qay,Qae,Qag,Qaa,Qab,LP,Tryd.f3,FT,seval]
     exact⟨lawL p nl0 cap0 cap20 st gv o6 false l0 q (nowP p j) ((j+1:Nat):Int) false,_,(by rfl),Qaz hnow hpk hwas⟩
   | [m0,m1,m2,m3],_ =>
    by_cases h0:j=0
    ·have hj0:¬ (0:Int)<(j:Int):=by omega
     simp only[Qah,Qam,t3,t6,t7,t13,t14,t15,t16,t17,hps,hrc1,hrc2,hsq,hsq2,hsp,hsp2,hne,hel,hOe,htc,hto,hne,htm,hj0,hwn,Nat.le_refl,rfAs,rfBd,rfOf,Qay,Qae,Qag,Qaa,Qab,LP,Tryd.f3,FT,seval]
     exact⟨lawL p nl0 cap0 cap20 st gv o6 false l0 q (nowP p j) ((j+1:Nat):Int) false,_,(by rfl),Qaz hnow hpk hwas⟩
    ·have hj0:(0:Int)<(j:Int):=by omega
     have hsw':=hsw
     rw[decide_eq_false (hdiff h0)] at hsw'
     simp only[Qah,Qam,t3,t6,t7,t13,t14,t15,t16,t17,hps,hrc1,hrc2,hsq,hsq2,hsp,hsp2,hne,hel,hOe,htc,hto,hne,htm,hj0,hsw',h48,hwn,Nat.le_refl,rfAs,rfBd,rfOf,Qay,Qae,Qag,Qaa,Qab,LP,Tryd.f3,FT,seval]
     exact⟨lawL p nl0 cap0 cap20 st gv o6 false l0 q (nowP p j) ((j+1:Nat):Int) false,_,(by rfl),Qaz hnow hpk hwas⟩
  ·have hnil:sC q.code true (some 0)=.c (.slice [] 0 true (some 0)):=by rw [sC,hC];rfl
   rw[hnil] at hsq2
   match M,hM with
   | [m0,m1],_ =>
    by_cases h0:j=0
    ·have hj0:¬ (0:Int)<(j:Int):=by omega
     simp only[Qah,Qam,t3,t6,t7,t13,t14,t15,t16,t17,hps,hrc1,hrc2,hsq,hsq2,hsp,hsp2,hne,hel,hOe,htc,hto,hne,htm,hj0,hwn,Nat.le_refl,rfAs,rfBd,rfOf,Qay,Qae,Qag,Qaa,Qab,LP,Tryd.f3,FT,seval]
     exact⟨lawL p nl0 cap0 cap20 st gv o6 false l0 q (nowP p j) ((j+1:Nat):Int) false,_,(by rfl),Qaz hnow hpk hwas⟩
    ·have hj0:(0:Int)<(j:Int):=by omega
     have hsw':=hsw
     rw[decide_eq_false (hdiff h0)] at hsw'
     simp only[Qah,Qam,t3,t6,t7,t13,t14,t15,t16,t17,hps,hrc1,hrc2,hsq,hsq2,hsp,hsp2,hne,hel,hOe,htc,hto,hne,htm,hj0,hsw',h48,hwn,Nat.le_refl,rfAs,rfBd,rfOf,Qay,Qae,Qag,Qaa,Qab,LP,Tryd.f3,FT,seval]
     exact⟨lawL p nl0 cap0 cap20 st gv o6 false l0 q (nowP p j) ((j+1:Nat):Int) false,_,(by rfl),Qaz hnow hpk hwas⟩
   | [m0,m1,m2],_ =>
    by_cases h0:j=0
    ·have hj0:¬ (0:Int)<(j:Int):=by omega
     simp only[Qah,Qam,t3,t6,t7,t13,t14,t15,t16,t17,hps,hrc1,hrc2,hsq,hsq2,hsp,hsp2,hne,hel,hOe,htc,hto,hne,htm,hj0,hwn,Nat.le_refl,rfAs,rfBd,rfOf,Qay,Qae,Qag,Qaa,Qab,LP,Tryd.f3,FT,seval]
     exact⟨lawL p nl0 cap0 cap20 st gv o6 false l0 q (nowP p j) ((j+1:Nat):Int) false,_,(by rfl),Qaz hnow hpk hwas⟩
    ·have hj0:(0:Int)<(j:Int):=by omega
     have hsw':=hsw
     rw[decide_eq_false (hdiff h0)] at hsw'
     simp only[Qah,Qam,t3,t6,t7,t13,t14,t15,t16,t17,hps,hrc1,hrc2,hsq,hsq2,hsp,hsp2,hne,hel,hOe,htc,hto,hne,htm,hj0,hsw',h48,hwn,Nat.le_refl,rfAs,rfBd,rfOf,Qay,Qae,Qag,Qaa,Qab,LP,Tryd.f3,FT,seval]
     exact⟨lawL p nl0 cap0 cap20 st gv o6 false l0 q (nowP p j) ((j+1:Nat):Int) false,_,(by rfl),Qaz hnow hpk hwas⟩
   | [m0,m1,m2,m3],_ =>
    by_cases h0:j=0
    ·have hj0:¬ (0:Int)<(j:Int):=by omega
     simp only[Qah,Qam,t3,t6,t7,t13,t14,t15,t16,t17,hps,hrc1,hrc2,hsq,hsq2,hsp,hsp2,hne,hel,hOe,htc,hto,hne,htm,hj0,hwn,Nat.le_refl,rfAs,rfBd,rfOf,Qay,Qae,Qag,Qaa,Qab,LP,Tryd.f3,FT,seval]
     exact⟨lawL p nl0 cap0 cap20 st gv o6 false l0 q (nowP p j) ((j+1:Nat):Int) false,_,(by rfl),Qaz hnow hpk hwas⟩
    ·have hj0:(0:Int)<(j:Int):=by omega
     have hsw':=hsw
     rw[decide_eq_false (hdiff h0)] at hsw'
     simp only[Qah,Qam,t3,t6,t7,t13,t14,t15,t16,t17,hps,hrc1,hrc2,hsq,hsq2,hsp,hsp2,hne,hel,hOe,htc,hto,hne,htm,hj0,hsw',h48,hwn,Nat.le_refl,rfAs,rfBd,rfOf,Qay,Qae,Qag,Qaa,Qab,LP,Tryd.f3,FT,seval]
     exact⟨lawL p nl0 cap0 cap20 st gv o6 false l0 q (nowP p j) ((j+1:Nat):Int) false,_,(by rfl),Qaz hnow hpk hwas⟩
end Go.Proofs.Sw
namespace Go.Proofs.Sw
open Go.Ab Go.Proofs.YtiiannaficbjeaaDoor.tab
set_option maxHeartbeats 20000000 in
theorem Q7b {p:Pg} {nl0:Bool} {cap0 cap20:Option Nat} {st:Int} {gv:IV} {o6:AObj} {jd:Bool} {l0:Ass} (K:Nat) (hl:LawT l0) (hr:Qax p=true) (hk:p.outs.length+p.code.length+3500≤K)
  (hans:jd=true→∀ (j:Nat) (nl:Bool) (cap cap2:Option Nat),j≤3 * rT p→run (K+68) 19 [aP p nl0 cap0 false cap20,aP (ylP p j) nl cap false cap2,.c gv]=some (bb true)) (j:Nat) (hj3:j % 3=1) (hj:j<3 * rT p) (was:Pg) (hw:was=wasP p j) (q:Pg) (hq:q=ylP p j) (M:Heap) (V:AV) (rows:Heap) (hM:M.length=2∨M.length=3∨M.length=4) (hV:Qy1 q (12+M.length) V rows) :
  ∃ L' G,Qav Tryd.prog (Qac tab) (K+69) (.round 11) [.c (.str sShare),V] (lawL p nl0 cap0 cap20 st gv o6 jd l0 (nowP p j) was j false++(M++rows))=some (bb true,L'++(M++G))∧LawJ p nl0 cap0 cap20 st gv o6 jd l0 (j+1) L':=by
 have hcn:=QaV hr j
 have hcw:Comes p was:=by rw [hw];unfold wasP;split;exact Comes.refl hr;exact QaV hr _
 have hcq:=Qfi hr j
 rw[← hq] at hcq
 obtain⟨n1,e1,en1,w1,w2,w3,w4,w5,w6,_,_⟩:=QaQ hr
 have c1:=hcn.code
 have c2:=hcn.outs
 have c3:=hcw.code
 have c4:=hcw.outs
 have c5:=hcq.code
 have c6:=hcq.outs
 have hsmall:∀ c:Nat,c≤p.code.length→c * 40≤roomBytes:=fun c h=>Nat.le_trans (show c * 40≤16384 * 40 by omega) (by decide)
 have hsmall2:∀ c:Nat,c=p.outs.length→c * 8≤roomBytes:=fun c h=>Nat.le_trans (show c * 8≤16384 * 8 by omega) (by decide)
 have hT16:=(QcX p).2.1
 have hT1:=(QcX p).1
 have hqs:q=Qg4 1 (nowP p j):=by rw [hq];unfold ylP;rw [if_pos hj,nowP,hj3]
 obtain⟨nl3,cap3,hn3,hps⟩:=QfQ (K+59) 1 (nowP p j) (nlE (nowP p j).code) (cpE (nowP p j).code) none hcn.right (by omega)
 rw[← hqs,show pfn 1=17 from rfl] at hps
 have hrc1:=QcJ (K+67) (nowP p j) (nlE (nowP p j).code) false (cpE (nowP p j).code) none (hsmall _ c1) (hsmall2 _ c2) (by omega)
 have hrc2:=QcJ (K+67) q nl3 false cap3 none (hsmall _ c5) (hsmall2 _ c6) (by omega)
 have hsw:=QbR (K+67) was (nowP p j) (nlE was.code) false (nlE (nowP p j).code) false (cpE was.code) none (cpE (nowP p j).code) none (by omega) (by omega) (by omega)
 have hsq:=QbR (K+67) q q false false nl3 false none none cap3 none (by omega) (by omega) (by omega)
 have hsq2:=QbR (K+67) q q true false nl3 false (some 0) none cap3 none (by omega) (by omega) (by omega)
 have hsp:=Qh0 (K+66) q.ins q.regs (N:=q.code.length) (m:=q.outs.length) (E:=Qak q.code) (O:=Qal q.outs) (Qau _) (Qaj _)
 have hsp2:=QgM (K+66) q.ins q.regs (m:=q.outs.length) (O:=Qal q.outs) (Qaj _)
 have hel:=Qau q.code
 have hOe:=Qaj q.outs
 have htc:(Qak q.code).take (q.code.length * 5)=Qak q.code:=List.take_of_length_le (by omega)
 have hto:(Qal q.outs).take q.outs.length=Qal q.outs:=List.take_of_length_le (by omega)
 simp only[run,aP,ii,bb,decide_true] at hps hrc1 hrc2 hsw hsq hsq2 hsp hsp2
 have t3:=hl.t3
 have t6:=hl.t6
 have t7:=hl.t7
 have t13:=hl.t13
 have t14:=hl.t14
 have t15:=hl.t15
 have t16:=hl.t16
 have t17:=hl.t17
 have hwn:IntKind.wrap .i64 ((j:Int)+1)=((j+1:Nat):Int):=by rw [wrap64 (by omega) (by omega)];omega
 have hne:=fun H=>Q0r (s:=sShare) (H:=H) (.inr (.inl rfl))
 have htm:((j:Nat):Int).tmod 3=1:=by show ((j % 3:Nat):Int)=1;omega
 have hnow:nowL p (j+1)=q:=by unfold nowL;rw [if_pos (by omega),nowP,hj3,hqs]
 have hpk:decide (3 * rT p<j+1)=false:=decide_eq_false (by omega)
 have hwas:j+1≤3 * rT p→was=wasP p (j+1):=fun _=>by
  rw[hw]
  unfold wasP
  rw[if_neg (by omega),if_neg (by omega),Nat.add_sub_cancel,show (j-1) / 3=j / 3 by omega]
 cases jd with
 | true =>
  have han:=hans rfl j false none none (by omega)
  have han2:=hans rfl j true (some 0) none (by omega)
  rw[← hq] at han han2
  simp only[run,aP,ii,bb] at han han2
  rcases hV with ⟨rfl,rfl⟩ | ⟨hC,rfl,rfl⟩
  ·match M,hM with
   | [m0,m1],_ =>
    simp only[Qah,Qam,t3,t6,t7,t13,t14,t15,t16,t17,hps,hrc1,hrc2,hsq,hsq2,hsp,hsp2,han,hel,hOe,htc,hto,hne,htm,hwn,Nat.le_refl,rfAs,rfBd,rfOf,Qay,Qae,Qag,Qaa,Qab,LP,Tryd.f3,FT,seval]
    exact⟨lawL p nl0 cap0 cap20 st gv o6 true l0 q was ((j+1:Nat):Int) false,_,(by rfl),Qaz hnow hpk hwas⟩
   | [m0,m1,m2],_ =>
    simp only[Qah,Qam,t3,t6,t7,t13,t14,t15,t16,t17,hps,hrc1,hrc2,hsq,hsq2,hsp,hsp2,han,hel,hOe,htc,hto,hne,htm,hwn,Nat.le_refl,rfAs,rfBd,rfOf,Qay,Qae,Qag,Qaa,Qab,LP,Tryd.f3,FT,seval]
    exact⟨lawL p nl0 cap0 cap20 st gv o6 true l0 q was ((j+1:Nat):Int) false,_,(by rfl),Qaz hnow hpk hwas⟩
   | [m0,m1,m2,m3],_ =>
    simp only[Qah,Qam,t3,t6,t7,t13,t14,t15,t16,t17,hps,hrc1,hrc2,hsq,hsq2,hsp,hsp2,han,hel,hOe,htc,hto,hne,htm,hwn,Nat.le_refl,rfAs,rfBd,rfOf,Qay,Qae,Qag,Qaa,Qab,LP,Tryd.f3,FT,seval]
    exact⟨lawL p nl0 cap0 cap20 st gv o6 true l0 q was ((j+1:Nat):Int) false,_,(by rfl),Qaz hnow hpk hwas⟩
  ·have hnil:sC q.code true (some 0)=.c (.slice [] 0 true (some 0)):=by rw [sC,hC];rfl
   rw[hnil] at hsq2 han2
   match M,hM with
   | [m0,m1],_ =>
    simp only[Qah,Qam,t3,t6,t7,t13,t14,t15,t16,t17,hps,hrc1,hrc2,hsq,hsq2,hsp,hsp2,han2,hel,hOe,htc,hto,hne,htm,hwn,Nat.le_refl,rfAs,rfBd,rfOf,Qay,Qae,Qag,Qaa,Qab,LP,Tryd.f3,FT,seval]
    exact⟨lawL p nl0 cap0 cap20 st gv o6 true l0 q was ((j+1:Nat):Int) false,_,(by rfl),Qaz hnow hpk hwas⟩
   | [m0,m1,m2],_ =>
    simp only[Qah,Qam,t3,t6,t7,t13,t14,t15,t16,t17,hps,hrc1,hrc2,hsq,hsq2,hsp,hsp2,han2,hel,hOe,htc,hto,hne,htm,hwn,Nat.le_refl,rfAs,rfBd,rfOf,Qay,Qae,Qag,Qaa,Qab,LP,Tryd.f3,FT,seval]
    exact⟨lawL p nl0 cap0 cap20 st gv o6 true l0 q was ((j+1:Nat):Int) false,_,(by rfl),Qaz hnow hpk hwas⟩
   | [m0,m1,m2,m3],_ =>
    simp only[Qah,Qam,t3,t6,t7,t13,t14,t15,t16,t17,hps,hrc1,hrc2,hsq,hsq2,hsp,hsp2,han2,hel,hOe,htc,hto,hne,htm,hwn,Nat.le_refl,rfAs,rfBd,rfOf,Qay,Qae,Qag,Qaa,Qab,LP,Tryd.f3,FT,seval]
    exact⟨lawL p nl0 cap0 cap20 st gv o6 true l0 q was ((j+1:Nat):Int) false,_,(by rfl),Qaz hnow hpk hwas⟩
 | false =>
  clear hans
  rcases hV with ⟨rfl,rfl⟩ | ⟨hC,rfl,rfl⟩
  ·match M,hM with
   | [m0,m1],_ =>
    simp only[Qah,Qam,t3,t6,t7,t13,t14,t15,t16,t17,hps,hrc1,hrc2,hsq,hsq2,hsp,hsp2,hne,hel,hOe,htc,hto,hne,htm,hwn,Nat.le_refl,rfAs,rfBd,rfOf,Qay,Qae,Qag,Qaa,Qab,LP,Tryd.f3,FT,seval]
    exact⟨lawL p nl0 cap0 cap20 st gv o6 false l0 q was ((j+1:Nat):Int) false,_,(by rfl),Qaz hnow hpk hwas⟩
   | [m0,m1,m2],_ =>
    simp only[Qah,Qam,t3,t6,t7,t13,t14,t15,t16,t17,hps,hrc1,hrc2,hsq,hsq2,hsp,hsp2,hne,hel,hOe,htc,hto,hne,htm,hwn,Nat.le_refl,rfAs,rfBd,rfOf,Qay,Qae,Qag,Qaa,Qab,LP,Tryd.f3,FT,seval]
    exact⟨lawL p nl0 cap0 cap20 st gv o6 false l0 q was ((j+1:Nat):Int) false,_,(by rfl),Qaz hnow hpk hwas⟩
   | [m0,m1,m2,m3],_ =>
    simp only[Qah,Qam,t3,t6,t7,t13,t14,t15,t16,t17,hps,hrc1,hrc2,hsq,hsq2,hsp,hsp2,hne,hel,hOe,htc,hto,hne,htm,hwn,Nat.le_refl,rfAs,rfBd,rfOf,Qay,Qae,Qag,Qaa,Qab,LP,Tryd.f3,FT,seval]
    exact⟨lawL p nl0 cap0 cap20 st gv o6 false l0 q was ((j+1:Nat):Int) false,_,(by rfl),Qaz hnow hpk hwas⟩
  ·have hnil:sC q.code true (some 0)=.c (.slice [] 0 true (some 0)):=by rw [sC,hC];rfl
   rw[hnil] at hsq2
   match M,hM with
   | [m0,m1],_ =>
    simp only[Qah,Qam,t3,t6,t7,t13,t14,t15,t16,t17,hps,hrc1,hrc2,hsq,hsq2,hsp,hsp2,hne,hel,hOe,htc,hto,hne,htm,hwn,Nat.le_refl,rfAs,rfBd,rfOf,Qay,Qae,Qag,Qaa,Qab,LP,Tryd.f3,FT,seval]
    exact⟨lawL p nl0 cap0 cap20 st gv o6 false l0 q was ((j+1:Nat):Int) false,_,(by rfl),Qaz hnow hpk hwas⟩
   | [m0,m1,m2],_ =>
    simp only[Qah,Qam,t3,t6,t7,t13,t14,t15,t16,t17,hps,hrc1,hrc2,hsq,hsq2,hsp,hsp2,hne,hel,hOe,htc,hto,hne,htm,hwn,Nat.le_refl,rfAs,rfBd,rfOf,Qay,Qae,Qag,Qaa,Qab,LP,Tryd.f3,FT,seval]
    exact⟨lawL p nl0 cap0 cap20 st gv o6 false l0 q was ((j+1:Nat):Int) false,_,(by rfl),Qaz hnow hpk hwas⟩
   | [m0,m1,m2,m3],_ =>
    simp only[Qah,Qam,t3,t6,t7,t13,t14,t15,t16,t17,hps,hrc1,hrc2,hsq,hsq2,hsp,hsp2,hne,hel,hOe,htc,hto,hne,htm,hwn,Nat.le_refl,rfAs,rfBd,rfOf,Qay,Qae,Qag,Qaa,Qab,LP,Tryd.f3,FT,seval]
    exact⟨lawL p nl0 cap0 cap20 st gv o6 false l0 q was ((j+1:Nat):Int) false,_,(by rfl),Qaz hnow hpk hwas⟩
set_option maxHeartbeats 20000000 in
theorem Q6u {p:Pg} {nl0:Bool} {cap0 cap20:Option Nat} {st:Int} {gv:IV} {o6:AObj} {jd:Bool} {l0:Ass} (K:Nat) (hl:LawT l0) (hr:Qax p=true) (hk:p.outs.length+p.code.length+3500≤K)
  (hans:jd=true→∀ (j:Nat) (nl:Bool) (cap cap2:Option Nat),j≤3 * rT p→run (K+68) 19 [aP p nl0 cap0 false cap20,aP (ylP p j) nl cap false cap2,.c gv]=some (bb true)) (j:Nat) (hj3:j % 3=2) (hj:j<3 * rT p) (was:Pg) (hw:was=wasP p j) (q:Pg) (hq:q=ylP p j) (M:Heap) (V:AV) (rows:Heap) (hM:M.length=2∨M.length=3∨M.length=4) (hV:Qy1 q (12+M.length) V rows) :
  ∃ L' G,Qav Tryd.prog (Qac tab) (K+69) (.round 11) [.c (.str sDead),V] (lawL p nl0 cap0 cap20 st gv o6 jd l0 (nowP p j) was j false++(M++rows))=some (bb true,L'++(M++G))∧LawJ p nl0 cap0 cap20 st gv o6 jd l0 (j+1) L':=by
 have hcn:=QaV hr j
 have hcw:Comes p was:=by rw [hw];unfold wasP;split;exact Comes.refl hr;exact QaV hr _
 have hcq:=Qfi hr j
 rw[← hq] at hcq
 obtain⟨n1,e1,en1,w1,w2,w3,w4,w5,w6,_,_⟩:=QaQ hr
 have c1:=hcn.code
 have c2:=hcn.outs
 have c3:=hcw.code
 have c4:=hcw.outs
 have c5:=hcq.code
 have c6:=hcq.outs
 have hsmall:∀ c:Nat,c≤p.code.length→c * 40≤roomBytes:=fun c h=>Nat.le_trans (show c * 40≤16384 * 40 by omega) (by decide)
 have hsmall2:∀ c:Nat,c=p.outs.length→c * 8≤roomBytes:=fun c h=>Nat.le_trans (show c * 8≤16384 * 8 by omega) (by decide)
 have hT16:=(QcX p).2.1
 have hT1:=(QcX p).1
 have hqs:q=Qg4 2 (nowP p j):=by rw [hq];unfold ylP;rw [if_pos hj,nowP,hj3]
 obtain⟨nl3,cap3,hn3,hps⟩:=QfQ (K+59) 2 (nowP p j) (nlE (nowP p j).code) (cpE (nowP p j).code) none hcn.right (by omega)
 rw[← hqs,show pfn 2=18 from rfl] at hps
 have hrc1:=QcJ (K+67) (nowP p j) (nlE (nowP p j).code) false (cpE (nowP p j).code) none (hsmall _ c1) (hsmall2 _ c2) (by omega)
 have hrc2:=QcJ (K+67) q nl3 false cap3 none (hsmall _ c5) (hsmall2 _ c6) (by omega)
 have hsw:=QbR (K+67) was (nowP p j) (nlE was.code) false (nlE (nowP p j).code) false (cpE was.code) none (cpE (nowP p j).code) none (by omega) (by omega) (by omega)
 have hsq:=QbR (K+67) q q false false nl3 false none none cap3 none (by omega) (by omega) (by omega)
 have hsq2:=QbR (K+67) q q true false nl3 false (some 0) none cap3 none (by omega) (by omega) (by omega)
 have hsp:=Qh0 (K+66) q.ins q.regs (N:=q.code.length) (m:=q.outs.length) (E:=Qak q.code) (O:=Qal q.outs) (Qau _) (Qaj _)
 have hsp2:=QgM (K+66) q.ins q.regs (m:=q.outs.length) (O:=Qal q.outs) (Qaj _)
 have hel:=Qau q.code
 have hOe:=Qaj q.outs
 have htc:(Qak q.code).take (q.code.length * 5)=Qak q.code:=List.take_of_length_le (by omega)
 have hto:(Qal q.outs).take q.outs.length=Qal q.outs:=List.take_of_length_le (by omega)
 simp only[run,aP,ii,bb,decide_true] at hps hrc1 hrc2 hsw hsq hsq2 hsp hsp2
 have t3:=hl.t3
 have t6:=hl.t6
 have t7:=hl.t7
 have t13:=hl.t13
 have t14:=hl.t14
 have t15:=hl.t15
 have t16:=hl.t16
 have t17:=hl.t17
 have hwn:IntKind.wrap .i64 ((j:Int)+1)=((j+1:Nat):Int):=by rw [wrap64 (by omega) (by omega)];omega
 have hne:=fun H=>Q0r (s:=sDead) (H:=H) (.inr (.inr (.inl rfl)))
 have htm:((j:Nat):Int).tmod 3=2:=by show ((j % 3:Nat):Int)=2;omega
 have hnow:nowL p (j+1)=q:=by unfold nowL;rw [if_pos (by omega),nowP,hj3,hqs]
 have hpk:decide (3 * rT p<j+1)=false:=decide_eq_false (by omega)
 have hwas:j+1≤3 * rT p→was=wasP p (j+1):=fun _=>by
  rw[hw]
  unfold wasP
  rw[if_neg (by omega),if_neg (by omega),Nat.add_sub_cancel,show (j-1) / 3=j / 3 by omega]
 cases jd with
 | true =>
  have han:=hans rfl j false none none (by omega)
  have han2:=hans rfl j true (some 0) none (by omega)
  rw[← hq] at han han2
  simp only[run,aP,ii,bb] at han han2
  rcases hV with ⟨rfl,rfl⟩ | ⟨hC,rfl,rfl⟩
  ·match M,hM with
   | [m0,m1],_ =>
    simp only[Qah,Qam,t3,t6,t7,t13,t14,t15,t16,t17,hps,hrc1,hrc2,hsq,hsq2,hsp,hsp2,han,hel,hOe,htc,hto,hne,htm,hwn,Nat.le_refl,rfAs,rfBd,rfOf,Qay,Qae,Qag,Qaa,Qab,LP,Tryd.f3,FT,seval]
    exact⟨lawL p nl0 cap0 cap20 st gv o6 true l0 q was ((j+1:Nat):Int) false,_,(by rfl),Qaz hnow hpk hwas⟩
   | [m0,m1,m2],_ =>
    simp only[Qah,Qam,t3,t6,t7,t13,t14,t15,t16,t17,hps,hrc1,hrc2,hsq,hsq2,hsp,hsp2,han,hel,hOe,htc,hto,hne,htm,hwn,Nat.le_refl,rfAs,rfBd,rfOf,Qay,Qae,Qag,Qaa,Qab,LP,Tryd.f3,FT,seval]
    exact⟨lawL p nl0 cap0 cap20 st gv o6 true l0 q was ((j+1:Nat):Int) false,_,(by rfl),Qaz hnow hpk hwas⟩
   | [m0,m1,m2,m3],_ =>
    simp only[Qah,Qam,t3,t6,t7,t13,t14,t15,t16,t17,hps,hrc1,hrc2,hsq,hsq2,hsp,hsp2,han,hel,hOe,htc,hto,hne,htm,hwn,Nat.le_refl,rfAs,rfBd,rfOf,Qay,Qae,Qag,Qaa,Qab,LP,Tryd.f3,FT,seval]
    exact⟨lawL p nl0 cap0 cap20 st gv o6 true l0 q was ((j+1:Nat):Int) false,_,(by rfl),Qaz hnow hpk hwas⟩
  ·have hnil:sC q.code true (some 0)=.c (.slice [] 0 true (some 0)):=by rw [sC,hC];rfl
   rw[hnil] at hsq2 han2
   match M,hM with
   | [m0,m1],_ =>
    simp only[Qah,Qam,t3,t6,t7,t13,t14,t15,t16,t17,hps,hrc1,hrc2,hsq,hsq2,hsp,hsp2,han2,hel,hOe,htc,hto,hne,htm,hwn,Nat.le_refl,rfAs,rfBd,rfOf,Qay,Qae,Qag,Qaa,Qab,LP,Tryd.f3,FT,seval]
    exact⟨lawL p nl0 cap0 cap20 st gv o6 true l0 q was ((j+1:Nat):Int) false,_,(by rfl),Qaz hnow hpk hwas⟩
   | [m0,m1,m2],_ =>
    simp only[Qah,Qam,t3,t6,t7,t13,t14,t15,t16,t17,hps,hrc1,hrc2,hsq,hsq2,hsp,hsp2,han2,hel,hOe,htc,hto,hne,htm,hwn,Nat.le_refl,rfAs,rfBd,rfOf,Qay,Qae,Qag,Qaa,Qab,LP,Tryd.f3,FT,seval]
    exact⟨lawL p nl0 cap0 cap20 st gv o6 true l0 q was ((j+1:Nat):Int) false,_,(by rfl),Qaz hnow hpk hwas⟩
   | [m0,m1,m2,m3],_ =>
    simp only[Qah,Qam,t3,t6,t7,t13,t14,t15,t16,t17,hps,hrc1,hrc2,hsq,hsq2,hsp,hsp2,han2,hel,hOe,htc,hto,hne,htm,hwn,Nat.le_refl,rfAs,rfBd,rfOf,Qay,Qae,Qag,Qaa,Qab,LP,Tryd.f3,FT,seval]
    exact⟨lawL p nl0 cap0 cap20 st gv o6 true l0 q was ((j+1:Nat):Int) false,_,(by rfl),Qaz hnow hpk hwas⟩
 | false =>
  clear hans
  rcases hV with ⟨rfl,rfl⟩ | ⟨hC,rfl,rfl⟩
  ·match M,hM with
   | [m0,m1],_ =>
    simp only[Qah,Qam,t3,t6,t7,t13,t14,t15,t16,t17,hps,hrc1,hrc2,hsq,hsq2,hsp,hsp2,hne,hel,hOe,htc,hto,hne,htm,hwn,Nat.le_refl,rfAs,rfBd,rfOf,Qay,Qae,Qag,Qaa,Qab,LP,Tryd.f3,FT,seval]
    exact⟨lawL p nl0 cap0 cap20 st gv o6 false l0 q was ((j+1:Nat):Int) false,_,(by rfl),Qaz hnow hpk hwas⟩
   | [m0,m1,m2],_ =>
    simp only[Qah,Qam,t3,t6,t7,t13,t14,t15,t16,t17,hps,hrc1,hrc2,hsq,hsq2,hsp,hsp2,hne,hel,hOe,htc,hto,hne,htm,hwn,Nat.le_refl,rfAs,rfBd,rfOf,Qay,Qae,Qag,Qaa,Qab,LP,Tryd.f3,FT,seval]
    exact⟨lawL p nl0 cap0 cap20 st gv o6 false l0 q was ((j+1:Nat):Int) false,_,(by rfl),Qaz hnow hpk hwas⟩
   | [m0,m1,m2,m3],_ =>
    simp only[Qah,Qam,t3,t6,t7,t13,t14,t15,t16,t17,hps,hrc1,hrc2,hsq,hsq2,hsp,hsp2,hne,hel,hOe,htc,hto,hne,htm,hwn,Nat.le_refl,rfAs,rfBd,rfOf,Qay,Qae,Qag,Qaa,Qab,LP,Tryd.f3,FT,seval]
    exact⟨lawL p nl0 cap0 cap20 st gv o6 false l0 q was ((j+1:Nat):Int) false,_,(by rfl),Qaz hnow hpk hwas⟩
  ·have hnil:sC q.code true (some 0)=.c (.slice [] 0 true (some 0)):=by rw [sC,hC];rfl
   rw[hnil] at hsq2
   match M,hM with
   | [m0,m1],_ =>
    simp only[Qah,Qam,t3,t6,t7,t13,t14,t15,t16,t17,hps,hrc1,hrc2,hsq,hsq2,hsp,hsp2,hne,hel,hOe,htc,hto,hne,htm,hwn,Nat.le_refl,rfAs,rfBd,rfOf,Qay,Qae,Qag,Qaa,Qab,LP,Tryd.f3,FT,seval]
    exact⟨lawL p nl0 cap0 cap20 st gv o6 false l0 q was ((j+1:Nat):Int) false,_,(by rfl),Qaz hnow hpk hwas⟩
   | [m0,m1,m2],_ =>
    simp only[Qah,Qam,t3,t6,t7,t13,t14,t15,t16,t17,hps,hrc1,hrc2,hsq,hsq2,hsp,hsp2,hne,hel,hOe,htc,hto,hne,htm,hwn,Nat.le_refl,rfAs,rfBd,rfOf,Qay,Qae,Qag,Qaa,Qab,LP,Tryd.f3,FT,seval]
    exact⟨lawL p nl0 cap0 cap20 st gv o6 false l0 q was ((j+1:Nat):Int) false,_,(by rfl),Qaz hnow hpk hwas⟩
   | [m0,m1,m2,m3],_ =>
    simp only[Qah,Qam,t3,t6,t7,t13,t14,t15,t16,t17,hps,hrc1,hrc2,hsq,hsq2,hsp,hsp2,hne,hel,hOe,htc,hto,hne,htm,hwn,Nat.le_refl,rfAs,rfBd,rfOf,Qay,Qae,Qag,Qaa,Qab,LP,Tryd.f3,FT,seval]
    exact⟨lawL p nl0 cap0 cap20 st gv o6 false l0 q was ((j+1:Nat):Int) false,_,(by rfl),Qaz hnow hpk hwas⟩
end Go.Proofs.Sw
