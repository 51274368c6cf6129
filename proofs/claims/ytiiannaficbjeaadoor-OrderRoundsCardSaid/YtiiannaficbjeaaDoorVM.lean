/- A part of the proof: what functions of the program answer; conditions stand in each theorem. -/
import Derived.Test.YtiiannaficbjeaaDoorVL
import Derived.Test.YtiiannaficbjeaaDoorVA
import Derived.Test.YtiiannaficbjeaaDoorAbArgs
import Derived.SizedLaws
import Derived.Test.YtiiannaficbjeaaDoorVJ
set_option linter.unusedVariables false
set_option linter.unusedSimpArgs false
set_option linter.unusedSectionVars false
namespace Go.Proofs.Sw
open Go.Ab Go.Proofs.YtiiannaficbjeaaDoor.tab
set_option maxHeartbeats 20000000 in
theorem Q9k {p:Pg} {nl0:Bool} {cap0 cap20:Option Nat} {st:Int} {gv:IV} {o6:AObj} {jd:Bool} {l0:Ass} (K:Nat) (hl:LawT l0) (hr:Qax p=true) (hk:p.outs.length+p.code.length+3500≤K)
  (hans:jd=true→∀ (j:Nat) (nl:Bool) (cap cap2:Option Nat),j≤3 * rT p→run (K+68) 19 [aP p nl0 cap0 false cap20,aP (ylP p j) nl cap false cap2,.c gv]=some (bb true)) (j:Nat) (hj:j=3 * rT p) (was:Pg) (hw:was=wasP p j) (q:Pg) (hq:q=ylP p j) (M:Heap) (V:AV) (rows:Heap) (hM:M.length=2∨M.length=3∨M.length=4) (hV:Qy1 q (12+M.length) V rows) :
  ∃ L' G,Qav Tryd.prog (Qac tab) (K+69) (.round 11) [.c (.str sPack),V] (lawL p nl0 cap0 cap20 st gv o6 jd l0 (nowP p j) was j false++(M++rows))=some (bb true,L'++(M++G))∧LawJ p nl0 cap0 cap20 st gv o6 jd l0 (j+1) L':=by
 have hcn:=QaV hr j
 have hcw:Comes p was:=by rw [hw];unfold wasP;split;exact Comes.refl hr;exact QaV hr _
 have hcq:=Qfi hr j
 rw[← hq] at hcq
 obtain⟨n1,e1,en1,w1,w2,w3,w4,w5,w6,_,_⟩:=QaQ hr
 have c1:=hcn.code
 have c2:=hcn.outs
 have c3:=hcw.code
 have c4:=hcw.outs
 have c5:=hcq.code
 have c6:=hcq.outs
 have hsmall:∀ c:Nat,c≤p.code.length→c * 40≤roomBytes:=fun c h=>Nat.le_trans (show c * 40≤16384 * 40 by omega) (by decide)
 have hsmall2:∀ c:Nat,c=p.outs.length→c * 8≤roomBytes:=fun c h=>Nat.le_trans (show c * 8≤16384 * 8 by omega) (by decide)
 have hT16:=(QcX p).2.1
 have hT1:=(QcX p).1
 have hqs:q=Qbo (nowP p j):=by rw [hq];unfold ylP;rw [if_neg (by omega),hj]
 obtain⟨nl3,cap3,hps⟩:=Q76 (K+65) (nowP p j) (nlE (nowP p j).code) (cpE (nowP p j).code) none hcn.right (by omega)
 rw[← hqs] at hps
 have hrc1:=QcJ (K+67) (nowP p j) (nlE (nowP p j).code) false (cpE (nowP p j).code) none (hsmall _ c1) (hsmall2 _ c2) (by omega)
 have hrc2:=QcJ (K+67) q nl3 false cap3 none (hsmall _ c5) (hsmall2 _ c6) (by omega)
 have hsw:=QbR (K+67) was (nowP p j) (nlE was.code) false (nlE (nowP p j).code) false (cpE was.code) none (cpE (nowP p j).code) none (by omega) (by omega) (by omega)
 have hsq:=QbR (K+67) q q false false nl3 false none none cap3 none (by omega) (by omega) (by omega)
 have hsq2:=QbR (K+67) q q true false nl3 false (some 0) none cap3 none (by omega) (by omega) (by omega)
 have hsp:=Qh0 (K+66) q.ins q.regs (N:=q.code.length) (m:=q.outs.length) (E:=Qak q.code) (O:=Qal q.outs) (Qau _) (Qaj _)
 have hsp2:=QgM (K+66) q.ins q.regs (m:=q.outs.length) (O:=Qal q.outs) (Qaj _)
 have hel:=Qau q.code
 have hOe:=Qaj q.outs
 have htc:(Qak q.code).take (q.code.length * 5)=Qak q.code:=List.take_of_length_le (by omega)
 have hto:(Qal q.outs).take q.outs.length=Qal q.outs:=List.take_of_length_le (by omega)
 simp only[run,aP,ii,bb,decide_true] at hps hrc1 hrc2 hsw hsq hsq2 hsp hsp2
 have t3:=hl.t3
 have t6:=hl.t6
 have t7:=hl.t7
 have t13:=hl.t13
 have t14:=hl.t14
 have t15:=hl.t15
 have t16:=hl.t16
 have t17:=hl.t17
 have hwn:IntKind.wrap .i64 ((j:Int)+1)=((j+1:Nat):Int):=by rw [wrap64 (by omega) (by omega)];omega
 have hne:=fun H=>Q0r (s:=sPack) (H:=H) (.inr (.inr (.inr rfl)))
 have htm:((j:Nat):Int).tmod 3=0:=by show ((j % 3:Nat):Int)=0;omega
 have hnow:nowL p (j+1)=q:=by unfold nowL;rw [if_neg (by omega),hqs,hj]
 have hpk:decide (3 * rT p<j+1)=true:=decide_eq_true (by omega)
 have hwas:j+1≤3 * rT p→was=wasP p (j+1):=fun h=>by omega
 have hj0:(0:Int)<(j:Int):=by omega
 have h48:¬ was=nowP p j→(j:Int)=48:=fun hn=>by
  rcases(QcX p).2.2.2 with h | h
  ·omega
  ·exfalso
   apply hn
   rw[hw]
   unfold wasP
   rw[if_neg (by omega),show 3 * ((j-1) / 3)=3 * (rT p-1) by omega,← h,hj]
 cases jd with
 | true =>
  have han:=hans rfl j false none none (by omega)
  have han2:=hans rfl j true (some 0) none (by omega)
  rw[← hq] at han han2
  simp only[run,aP,ii,bb] at han han2
  rcases hV with ⟨rfl,rfl⟩ | ⟨hC,rfl,rfl⟩
  ·match M,hM with
   | [m0,m1],_ =>
    by_cases hwn2:was=nowP p j
    ·have hsw':=hsw
     rw[decide_eq_true hwn2] at hsw'
     simp only[Qah,Qam,t3,t6,t7,t13,t14,t15,t16,t17,hps,hrc1,hrc2,hsq,hsq2,hsp,hsp2,han,hel,hOe,htc,hto,hne,htm,hj0,hsw',hwn,Nat.le_refl,rfAs,rfBd,rfOf,Qay,Qae,Qag,Qaa,Qab,LP,Tryd.f3,FT,seval]
     exact⟨lawL p nl0 cap0 cap20 st gv o6 true l0 q was ((j+1:Nat):Int) true,_,(by rfl),Qaz hnow hpk hwas⟩
    ·have hsw':=hsw
     rw[decide_eq_false hwn2] at hsw'
     have h48':decide ((j:Int)=48)=true:=decide_eq_true (h48 hwn2)
     simp only[Qah,Qam,t3,t6,t7,t13,t14,t15,t16,t17,hps,hrc1,hrc2,hsq,hsq2,hsp,hsp2,han,hel,hOe,htc,hto,hne,htm,hj0,hsw',h48',hwn,Nat.le_refl,rfAs,rfBd,rfOf,Qay,Qae,Qag,Qaa,Qab,LP,Tryd.f3,FT,seval]
     exact⟨lawL p nl0 cap0 cap20 st gv o6 true l0 q was ((j+1:Nat):Int) true,_,(by rfl),Qaz hnow hpk hwas⟩
   | [m0,m1,m2],_ =>
    by_cases hwn2:was=nowP p j
    ·have hsw':=hsw
     rw[decide_eq_true hwn2] at hsw'
     simp only[Qah,Qam,t3,t6,t7,t13,t14,t15,t16,t17,hps,hrc1,hrc2,hsq,hsq2,hsp,hsp2,han,hel,hOe,htc,hto,hne,htm,hj0,hsw',hwn,Nat.le_refl,rfAs,rfBd,rfOf,Qay,Qae,Qag,Qaa,Qab,LP,Tryd.f3,FT,seval]
     exact⟨lawL p nl0 cap0 cap20 st gv o6 true l0 q was ((j+1:Nat):Int) true,_,(by rfl),Qaz hnow hpk hwas⟩
    ·have hsw':=hsw
     rw[decide_eq_false hwn2] at hsw'
     have h48':decide ((j:Int)=48)=true:=decide_eq_true (h48 hwn2)
     simp only[Qah,Qam,t3,t6,t7,t13,t14,t15,t16,t17,hps,hrc1,hrc2,hsq,hsq2,hsp,hsp2,han,hel,hOe,htc,hto,hne,htm,hj0,hsw',h48',hwn,Nat.le_refl,rfAs,rfBd,rfOf,Qay,Qae,Qag,Qaa,Qab,LP,Tryd.f3,FT,seval]
     exact⟨lawL p nl0 cap0 cap20 st gv o6 true l0 q was ((j+1:Nat):Int) true,_,(by rfl),Qaz hnow hpk hwas⟩
   | [m0,m1,m2,m3],_ =>
    by_cases hwn2:was=nowP p j
    ·have hsw':=hsw
     rw[decide_eq_true hwn2] at hsw'
     simp only[Qah,Qam,t3,t6,t7,t13,t14,t15,t16,t17,hps,hrc1,hrc2,hsq,hsq2,hsp,hsp2,han,hel,hOe,htc,hto,hne,htm,hj0,hsw',hwn,Nat.le_refl,rfAs,rfBd,rfOf,Qay,Qae,Qag,Qaa,Qab,LP,Tryd.f3,FT,seval]
     exact⟨lawL p nl0 cap0 cap20 st gv o6 true l0 q was ((j+1:Nat):Int) true,_,(by rfl),Qaz hnow hpk hwas⟩
    ·have hsw':=hsw
     rw[decide_eq_false hwn2] at hsw'
     have h48':decide ((j:Int)=48)=true:=decide_eq_true (h48 hwn2)
     simp only[Qah,Qam,t3,t6,t7,t13,t14,t15,t16,t17,hps,hrc1,hrc2,hsq,hsq2,hsp,hsp2,han,hel,hOe,htc,hto,hne,htm,hj0,hsw',h48',hwn,Nat.le_refl,rfAs,rfBd,rfOf,Qay,Qae,Qag,Qaa,Qab,LP,Tryd.f3,FT,seval]
     exact⟨lawL p nl0 cap0 cap20 st gv o6 true l0 q was ((j+1:Nat):Int) true,_,(by rfl),Qaz hnow hpk hwas⟩
  ·have hnil:sC q.code true (some 0)=.c (.slice [] 0 true (some 0)):=by rw [sC,hC];rfl
   rw[hnil] at hsq2 han2
   match M,hM with
   | [m0,m1],_ =>
    by_cases hwn2:was=nowP p j
    ·have hsw':=hsw
     rw[decide_eq_true hwn2] at hsw'
     simp only[Qah,Qam,t3,t6,t7,t13,t14,t15,t16,t17,hps,hrc1,hrc2,hsq,hsq2,hsp,hsp2,han2,hel,hOe,htc,hto,hne,htm,hj0,hsw',hwn,Nat.le_refl,rfAs,rfBd,rfOf,Qay,Qae,Qag,Qaa,Qab,LP,Tryd.f3,FT,seval]
     exact⟨lawL p nl0 cap0 cap20 st gv o6 true l0 q was ((j+1:Nat):Int) true,_,(by rfl),Qaz hnow hpk hwas⟩
    ·have hsw':=hsw
     rw[decide_eq_false hwn2] at hsw'
     have h48':decide ((j:Int)=48)=true:=decide_eq_true (h48 hwn2)
     simp only[Qah,Qam,t3,t6,t7,t13,t14,t15,t16,t17,hps,hrc1,hrc2,hsq,hsq2,hsp,hsp2,han2,hel,hOe,htc,hto,hne,htm,hj0,hsw',h48',hwn,Nat.le_refl,rfAs,rfBd,rfOf,Qay,Qae,Qag,Qaa,Qab,LP,Tryd.f3,FT,seval]
     exact⟨lawL p nl0 cap0 cap20 st gv o6 true l0 q was ((j+1:Nat):Int) true,_,(by rfl),Qaz hnow hpk hwas⟩
   | [m0,m1,m2],_ =>
    by_cases hwn2:was=nowP p j
    ·have hsw':=hsw
     rw[decide_eq_true hwn2] at hsw'
     simp only[Qah,Qam,t3,t6,t7,t13,t14,t15,t16,t17,hps,hrc1,hrc2,hsq,hsq2,hsp,hsp2,han2,hel,hOe,htc,hto,hne,htm,hj0,hsw',hwn,Nat.le_refl,rfAs,rfBd,rfOf,Qay,Qae,Qag,Qaa,Qab,LP,Tryd.f3,FT,seval]
     exact⟨lawL p nl0 cap0 cap20 st gv o6 true l0 q was ((j+1:Nat):Int) true,_,(by rfl),Qaz hnow hpk hwas⟩
    ·have hsw':=hsw
     rw[decide_eq_false hwn2] at hsw'
     have h48':decide ((j:Int)=48)=true:=decide_eq_true (h48 hwn2)
     simp only[Qah,Qam,t3,t6,t7,t13,t14,t15,t16,t17,hps,hrc1,hrc2,hsq,hsq2,hsp,hsp2,han2,hel,hOe,htc,hto,hne,htm,hj0,hsw',h48',hwn,Nat.le_refl,rfAs,rfBd,rfOf,Qay,Qae,Qag,Qaa,Qab,LP,Tryd.f3,FT,seval]
     exact⟨lawL p nl0 cap0 cap20 st gv o6 true l0 q was ((j+1:Nat):Int) true,_,(by rfl),Qaz hnow hpk hwas⟩
   | [m0,m1,m2,m3],_ =>
    by_cases hwn2:was=nowP p j
    ·have hsw':=hsw
     rw[decide_eq_true hwn2] at hsw'
     simp only[Qah,Qam,t3,t6,t7,t13,t14,t15,t16,t17,hps,hrc1,hrc2,hsq,hsq2,hsp,hsp2,han2,hel,hOe,htc,hto,hne,htm,hj0,hsw',hwn,Nat.le_refl,rfAs,rfBd,rfOf,Qay,Qae,Qag,Qaa,Qab,LP,Tryd.f3,FT,seval]
     exact⟨lawL p nl0 cap0 cap20 st gv o6 true l0 q was ((j+1:Nat):Int) true,_,(by rfl),Qaz hnow hpk hwas⟩
    ·have hsw':=hsw
     rw[decide_eq_false hwn2] at hsw'
     have h48':decide ((j:Int)=48)=true:=decide_eq_true (h48 hwn2)
     simp only[Qah,Qam,t3,t6,t7,t13,t14,t15,t16,t17,hps,hrc1,hrc2,hsq,hsq2,hsp,hsp2,han2,hel,hOe,htc,hto,hne,htm,hj0,hsw',h48',hwn,Nat.le_refl,rfAs,rfBd,rfOf,Qay,Qae,Qag,Qaa,Qab,LP,Tryd.f3,FT,seval]
     exact⟨lawL p nl0 cap0 cap20 st gv o6 true l0 q was ((j+1:Nat):Int) true,_,(by rfl),Qaz hnow hpk hwas⟩
 | false =>
  clear hans
  rcases hV with ⟨rfl,rfl⟩ | ⟨hC,rfl,rfl⟩
  ·match M,hM with
   | [m0,m1],_ =>
    by_cases hwn2:was=nowP p j
    ·have hsw':=hsw
     rw[decide_eq_true hwn2] at hsw'
     simp only[Qah,Qam,t3,t6,t7,t13,t14,t15,t16,t17,hps,hrc1,hrc2,hsq,hsq2,hsp,hsp2,hne,hel,hOe,htc,hto,hne,htm,hj0,hsw',hwn,Nat.le_refl,rfAs,rfBd,rfOf,Qay,Qae,Qag,Qaa,Qab,LP,Tryd.f3,FT,seval]
     exact⟨lawL p nl0 cap0 cap20 st gv o6 false l0 q was ((j+1:Nat):Int) true,_,(by rfl),Qaz hnow hpk hwas⟩
    ·have hsw':=hsw
     rw[decide_eq_false hwn2] at hsw'
     have h48':decide ((j:Int)=48)=true:=decide_eq_true (h48 hwn2)
     simp only[Qah,Qam,t3,t6,t7,t13,t14,t15,t16,t17,hps,hrc1,hrc2,hsq,hsq2,hsp,hsp2,hne,hel,hOe,htc,hto,hne,htm,hj0,hsw',h48',hwn,Nat.le_refl,rfAs,rfBd,rfOf,Qay,Qae,Qag,Qaa,Qab,LP,Tryd.f3,FT,seval]
     exact⟨lawL p nl0 cap0 cap20 st gv o6 false l0 q was ((j+1:Nat):Int) true,_,(by rfl),Qaz hnow hpk hwas⟩
   | [m0,m1,m2],_ =>
    by_cases hwn2:was=nowP p j
    ·have hsw':=hsw
     rw[decide_eq_true hwn2] at hsw'
     simp only[Qah,Qam,t3,t6,t7,t13,t14,t15,t16,t17,hps,hrc1,hrc2,hsq,hsq2,hsp,hsp2,hne,hel,hOe,htc,hto,hne,htm,hj0,hsw',hwn,Nat.le_refl,rfAs,rfBd,rfOf,Qay,Qae,Qag,Qaa,Qab,LP,Tryd.f3,FT,seval]
     exact⟨lawL p nl0 cap0 cap20 st gv o6 false l0 q was ((j+1:Nat):Int) true,_,(by rfl),Qaz hnow hpk hwas⟩
    ·have hsw':=hsw
     rw[decide_eq_false hwn2] at hsw'
     have h48':decide ((j:Int)=48)=true:=decide_eq_true (h48 hwn2)
     simp only[Qah,Qam,t3,t6,t7,t13,t14,t15,t16,t17,hps,hrc1,hrc2,hsq,hsq2,hsp,hsp2,hne,hel,hOe,htc,hto,hne,htm,hj0,hsw',h48',hwn,Nat.le_refl,rfAs,rfBd,rfOf,Qay,Qae,Qag,Qaa,Qab,LP,Tryd.f3,FT,seval]
     exact⟨lawL p nl0 cap0 cap20 st gv o6 false l0 q was ((j+1:Nat):Int) true,_,(by rfl),Qaz hnow hpk hwas⟩
   | [m0,m1,m2,m3],_ =>
    by_cases hwn2:was=nowP p j
    ·have hsw':=hsw
     rw[decide_eq_true hwn2] at hsw'
     simp only[Qah,Qam,t3,t6,t7,t13,t14,t15,t16,t17,hps,hrc1,hrc2,hsq,hsq2,hsp,hsp2,hne,hel,hOe,htc,hto,hne,htm,hj0,hsw',hwn,Nat.le_refl,rfAs,rfBd,rfOf,Qay,Qae,Qag,Qaa,Qab,LP,Tryd.f3,FT,seval]
     exact⟨lawL p nl0 cap0 cap20 st gv o6 false l0 q was ((j+1:Nat):Int) true,_,(by rfl),Qaz hnow hpk hwas⟩
    ·have hsw':=hsw
     rw[decide_eq_false hwn2] at hsw'
     have h48':decide ((j:Int)=48)=true:=decide_eq_true (h48 hwn2)
     simp only[Qah,Qam,t3,t6,t7,t13,t14,t15,t16,t17,hps,hrc1,hrc2,hsq,hsq2,hsp,hsp2,hne,hel,hOe,htc,hto,hne,htm,hj0,hsw',h48',hwn,Nat.le_refl,rfAs,rfBd,rfOf,Qay,Qae,Qag,Qaa,Qab,LP,Tryd.f3,FT,seval]
     exact⟨lawL p nl0 cap0 cap20 st gv o6 false l0 q was ((j+1:Nat):Int) true,_,(by rfl),Qaz hnow hpk hwas⟩
  ·have hnil:sC q.code true (some 0)=.c (.slice [] 0 true (some 0)):=by rw [sC,hC];rfl
   rw[hnil] at hsq2
   match M,hM with
   | [m0,m1],_ =>
    by_cases hwn2:was=nowP p j
    ·have hsw':=hsw
     rw[decide_eq_true hwn2] at hsw'
     simp only[Qah,Qam,t3,t6,t7,t13,t14,t15,t16,t17,hps,hrc1,hrc2,hsq,hsq2,hsp,hsp2,hne,hel,hOe,htc,hto,hne,htm,hj0,hsw',hwn,Nat.le_refl,rfAs,rfBd,rfOf,Qay,Qae,Qag,Qaa,Qab,LP,Tryd.f3,FT,seval]
     exact⟨lawL p nl0 cap0 cap20 st gv o6 false l0 q was ((j+1:Nat):Int) true,_,(by rfl),Qaz hnow hpk hwas⟩
    ·have hsw':=hsw
     rw[decide_eq_false hwn2] at hsw'
     have h48':decide ((j:Int)=48)=true:=decide_eq_true (h48 hwn2)
     simp only[Qah,Qam,t3,t6,t7,t13,t14,t15,t16,t17,hps,hrc1,hrc2,hsq,hsq2,hsp,hsp2,hne,hel,hOe,htc,hto,hne,htm,hj0,hsw',h48',hwn,Nat.le_refl,rfAs,rfBd,rfOf,Qay,Qae,Qag,Qaa,Qab,LP,Tryd.f3,FT,seval]
     exact⟨lawL p nl0 cap0 cap20 st gv o6 false l0 q was ((j+1:Nat):Int) true,_,(by rfl),Qaz hnow hpk hwas⟩
   | [m0,m1,m2],_ =>
    by_cases hwn2:was=nowP p j
    ·have hsw':=hsw
     rw[decide_eq_true hwn2] at hsw'
     simp only[Qah,Qam,t3,t6,t7,t13,t14,t15,t16,t17,hps,hrc1,hrc2,hsq,hsq2,hsp,hsp2,hne,hel,hOe,htc,hto,hne,htm,hj0,hsw',hwn,Nat.le_refl,rfAs,rfBd,rfOf,Qay,Qae,Qag,Qaa,Qab,LP,Tryd.f3,FT,seval]
     exact⟨lawL p nl0 cap0 cap20 st gv o6 false l0 q was ((j+1:Nat):Int) true,_,(by rfl),Qaz hnow hpk hwas⟩
    ·have hsw':=hsw
     rw[decide_eq_false hwn2] at hsw'
     have h48':decide ((j:Int)=48)=true:=decide_eq_true (h48 hwn2)
     simp only[Qah,Qam,t3,t6,t7,t13,t14,t15,t16,t17,hps,hrc1,hrc2,hsq,hsq2,hsp,hsp2,hne,hel,hOe,htc,hto,hne,htm,hj0,hsw',h48',hwn,Nat.le_refl,rfAs,rfBd,rfOf,Qay,Qae,Qag,Qaa,Qab,LP,Tryd.f3,FT,seval]
     exact⟨lawL p nl0 cap0 cap20 st gv o6 false l0 q was ((j+1:Nat):Int) true,_,(by rfl),Qaz hnow hpk hwas⟩
   | [m0,m1,m2,m3],_ =>
    by_cases hwn2:was=nowP p j
    ·have hsw':=hsw
     rw[decide_eq_true hwn2] at hsw'
     simp only[Qah,Qam,t3,t6,t7,t13,t14,t15,t16,t17,hps,hrc1,hrc2,hsq,hsq2,hsp,hsp2,hne,hel,hOe,htc,hto,hne,htm,hj0,hsw',hwn,Nat.le_refl,rfAs,rfBd,rfOf,Qay,Qae,Qag,Qaa,Qab,LP,Tryd.f3,FT,seval]
     exact⟨lawL p nl0 cap0 cap20 st gv o6 false l0 q was ((j+1:Nat):Int) true,_,(by rfl),Qaz hnow hpk hwas⟩
    ·have hsw':=hsw
     rw[decide_eq_false hwn2] at hsw'
     have h48':decide ((j:Int)=48)=true:=decide_eq_true (h48 hwn2)
     simp only[Qah,Qam,t3,t6,t7,t13,t14,t15,t16,t17,hps,hrc1,hrc2,hsq,hsq2,hsp,hsp2,hne,hel,hOe,htc,hto,hne,htm,hj0,hsw',h48',hwn,Nat.le_refl,rfAs,rfBd,rfOf,Qay,Qae,Qag,Qaa,Qab,LP,Tryd.f3,FT,seval]
     exact⟨lawL p nl0 cap0 cap20 st gv o6 false l0 q was ((j+1:Nat):Int) true,_,(by rfl),Qaz hnow hpk hwas⟩
end Go.Proofs.Sw
namespace Go.Proofs.Sw
open Go.Ab Go.Proofs.YtiiannaficbjeaaDoor.tab
theorem QAk {p:Pg} {nl0:Bool} {cap0 cap20:Option Nat} {st:Int} {gv:IV} {o6:AObj} {jd:Bool} {l0:Ass} (K:Nat) (hl:LawT l0) (hr:Qax p=true) (hk:p.outs.length+p.code.length+3500≤K) (ho6:∀ n,o6.under n=true)
  (hans:jd=true→∀ (j:Nat) (nl:Bool) (cap cap2:Option Nat),j≤3 * rT p→run (K+68) 19 [aP p nl0 cap0 false cap20,aP (ylP p j) nl cap false cap2,.c gv]=some (bb true)) :
  RBody p nl0 cap0 cap20 (K+60+9) 11 12 7 (LawJ p nl0 cap0 cap20 st gv o6 jd l0) (fun _=>true):=by
 refine⟨?_, ?_, ?_,by omega,by omega, ?_⟩
 ·rintro j L ⟨was,rfl,_⟩;rfl
 ·rintro j L n ⟨was,rfl,_⟩ hn
  simp only[ho6,QcA (hl.und n hn),EVb,EVc,seval]
 ·rintro j L ⟨was,rfl,_⟩;rfl
 ·rintro j L M V rows hj ⟨was,rfl,hw⟩ _ hM hV
  have hw:=hw hj
  have hnw:nowL p j=nowP p j:=if_pos hj
  have hpk:decide (3 * rT p<j)=false:=decide_eq_false (by omega)
  rw[hnw,hpk]
  by_cases hlt:j<3 * rT p
  ·have hnm:nmP p j=if j % 3=0 then sFold else if j % 3=1 then sShare else sDead:=if_pos hlt
   rw[hnm]
   by_cases h0:j % 3=0
   ·rw[if_pos h0]
    exact Q85 K hl hr hk hans j h0 hlt was hw _ rfl M V rows hM hV
   ·rw[if_neg h0]
    by_cases h1:j % 3=1
    ·rw[if_pos h1]
     exact Q7b K hl hr hk hans j h1 hlt was hw _ rfl M V rows hM hV
    ·rw[if_neg h1]
     exact Q6u K hl hr hk hans j (by omega) hlt was hw _ rfl M V rows hM hV
  ·have hnm:nmP p j=sPack:=if_neg hlt
   rw[hnm]
   exact Q9k K hl hr hk hans j (by omega) was hw _ rfl M V rows hM hV
theorem Qqi {p:Pg} {nl0:Bool} {cap0 cap20:Option Nat} {st:Int} {gv:IV} {o6:AObj} {jd:Bool} (K:Nat) (hr:Qax p=true) (hk:p.outs.length+p.code.length+3500≤K) (hn0:nl0=true→p.code=[]) (ho6:∀ n,o6.under n=true)
  (hans:jd=true→∀ (j:Nat) (nl:Bool) (cap cap2:Option Nat),j≤3 * rT p→run (K+68) 19 [aP p nl0 cap0 false cap20,aP (ylP p j) nl cap false cap2,.c gv]=some (bb true))
  (l0:Ass) (E:Option (AV × Heap)) (hE:Qav Tryd.prog (Qac tab) (K+70) (.fn 29) [.yld 11,.ptr 7 0] (lawL p nl0 cap0 cap20 st gv o6 jd l0 p p 0 false)=E) (hl:LawT l0) :
  ∃ was,E=some (.tup [],lawL p nl0 cap0 cap20 st gv o6 jd l0 (Qbo (nowP p (3 * rT p))) was ((3 * rT p+1:Nat):Int) true):=by
 have hJ0:LawJ p nl0 cap0 cap20 st gv o6 jd l0 0 (lawL p nl0 cap0 cap20 st gv o6 jd l0 p p 0 false):=⟨p,by
  have h1:nowL p 0=p:=if_pos (by omega)
  have h2:decide (3 * rT p<0)=false:=decide_eq_false (by omega)
  rw[h1,h2]
  rfl,fun _=>rfl⟩
 obtain⟨L',j,h1,⟨was,rfl,_⟩,hj,_,hjj⟩:=Qid (QAk K hl hr hk ho6 hans) hr (by omega) hn0 _ hJ0
 have hj2:j=3 * rT p:=by
  rcases hjj with h | h
  ·exact h
  ·cases h
 subst hj2
 have h3:nowL p (3 * rT p+1)=Qbo (nowP p (3 * rT p)):=if_neg (by omega)
 have h4:decide (3 * rT p<3 * rT p+1)=true:=decide_eq_true (by omega)
 rw[h3,h4] at h1
 exact⟨was,by rw [← hE];exact h1⟩
noncomputable abbrev cntL (p:Pg) (nl0:Bool) (cap0 cap20:Option Nat) (st:Int) (o0 o1 o2 o4 o5 o6 o8 o9 o10 o11:AObj) (l0:Ass) (n:Int) (sx:LoopState) (pd:Option Code):Heap :=
 [o0,o1,o2,.cells 3 [ii st],o4,o5,o6,cPg p nl0 cap0 false cap20,o8,o9,o10,o11,.cells 3 [ii n],Qdm #[159,160] QzM Q07 3 sx pd (fr 186 l0)]
def cntC (st:Int) (j:Nat):Bool:=decide (¬ ((j+1:Nat):Int)=st)
def CntJ (p:Pg) (nl0:Bool) (cap0 cap20:Option Nat) (st:Int) (o0 o1 o2 o4 o5 o6 o8 o9 o10 o11:AObj) (l0:Ass) (j:Nat) (L:Heap):Prop :=
 ∃ sx pd,L=cntL p nl0 cap0 cap20 st o0 o1 o2 o4 o5 o6 o8 o9 o10 o11 l0 j sx pd∧((∀ i,i<j→cntC st i=true)→sx=.ready∧pd=none)∧(0<j→cntC st (j-1)=false→sx=.done∧pd=some (.exit 5))
theorem Q7N {p:Pg} {nl0:Bool} {cap0 cap20:Option Nat} {st:Int} {o0 o1 o2 o4 o5 o6 o8 o9 o10 o11:AObj} {l0:Ass} (K:Nat) (h23:asc l0 23=.ptr 12 0) (h5:asc l0 5=.ptr 3 0) (hl0:∀ n,14≤n→(l0.all fun e=>AV.under n e.2)=true)
  (ho:∀ n,12≤n→[o0,o1,o2,o4,o5,o6,o8,o9,o10,o11].all (AObj.under n)=true) :
  RBody p nl0 cap0 cap20 (K+60+9) 13 14 7 (CntJ p nl0 cap0 cap20 st o0 o1 o2 o4 o5 o6 o8 o9 o10 o11 l0) (cntC st):=by
 refine⟨?_, ?_, ?_,by omega,by omega, ?_⟩
 ·rintro j L ⟨sx,pd,rfl,_⟩;rfl
 ·rintro j L n ⟨sx,pd,rfl,_⟩ hn
  have h:=ho n (by omega)
  simp only[List.all_cons,List.all_nil,Bool.and_true,Bool.and_eq_true] at h
  obtain⟨a0,a1,a2,a4,a5,a6,a8,a9,a10,a11⟩:=h
  simp only[a0,a1,a2,a4,a5,a6,a8,a9,a10,a11,QcA (hl0 n hn),EVb,EVc,seval]
 ·rintro j L ⟨sx,pd,rfl,_⟩;rfl
 ·rintro j L M V rows hj ⟨sx,pd,rfl,hs,_⟩ hci hM hV
  obtain⟨rfl,rfl⟩:=hs hci
  have hT16:=(QcX p).2.1
  have hwn:IntKind.wrap .i64 ((j:Int)+1)=((j+1:Nat):Int):=by rw [wrap64 (by omega) (by omega)];omega
  match M,hM with
  | [m0,m1],_ =>
   by_cases he:((j+1:Nat):Int)=st
   ·have hcj:cntC st j=false:=by unfold cntC;rw [decide_eq_false];exact fun h=>h he
    rw[hcj]
    simp only[Qah,Qam,h23,h5,hwn,he,rfAs,rfBd,rfOf,Qay,Qae,Qag,Qaa,Qab,LP,Tryd.f3,FT,seval]
    exact⟨cntL p nl0 cap0 cap20 st o0 o1 o2 o4 o5 o6 o8 o9 o10 o11 l0 st .done (some (.exit 5)),_,(by rfl),_,_,(by rw [he]),(fun h=>by have h2:=h j (by omega);rw [hcj] at h2;cases h2),(fun _ _=>⟨rfl,rfl⟩)⟩
   ·have hcj:cntC st j=true:=decide_eq_true he
    rw[hcj]
    simp only[Qah,Qam,h23,h5,hwn,he,rfAs,rfBd,rfOf,Qay,Qae,Qag,Qaa,Qab,LP,Tryd.f3,FT,seval]
    exact⟨cntL p nl0 cap0 cap20 st o0 o1 o2 o4 o5 o6 o8 o9 o10 o11 l0 ((j+1:Nat):Int) .ready none,_,(by rfl),_,_,rfl,(fun _=>⟨rfl,rfl⟩),(fun _ h=>by rw [Nat.add_sub_cancel,hcj] at h;cases h)⟩
  | [m0,m1,m2],_ =>
   by_cases he:((j+1:Nat):Int)=st
   ·have hcj:cntC st j=false:=by unfold cntC;rw [decide_eq_false];exact fun h=>h he
    rw[hcj]
    simp only[Qah,Qam,h23,h5,hwn,he,rfAs,rfBd,rfOf,Qay,Qae,Qag,Qaa,Qab,LP,Tryd.f3,FT,seval]
    exact⟨cntL p nl0 cap0 cap20 st o0 o1 o2 o4 o5 o6 o8 o9 o10 o11 l0 st .done (some (.exit 5)),_,(by rfl),_,_,(by rw [he]),(fun h=>by have h2:=h j (by omega);rw [hcj] at h2;cases h2),(fun _ _=>⟨rfl,rfl⟩)⟩
   ·have hcj:cntC st j=true:=decide_eq_true he
    rw[hcj]
    simp only[Qah,Qam,h23,h5,hwn,he,rfAs,rfBd,rfOf,Qay,Qae,Qag,Qaa,Qab,LP,Tryd.f3,FT,seval]
    exact⟨cntL p nl0 cap0 cap20 st o0 o1 o2 o4 o5 o6 o8 o9 o10 o11 l0 ((j+1:Nat):Int) .ready none,_,(by rfl),_,_,rfl,(fun _=>⟨rfl,rfl⟩),(fun _ h=>by rw [Nat.add_sub_cancel,hcj] at h;cases h)⟩
  | [m0,m1,m2,m3],_ =>
   by_cases he:((j+1:Nat):Int)=st
   ·have hcj:cntC st j=false:=by unfold cntC;rw [decide_eq_false];exact fun h=>h he
    rw[hcj]
    simp only[Qah,Qam,h23,h5,hwn,he,rfAs,rfBd,rfOf,Qay,Qae,Qag,Qaa,Qab,LP,Tryd.f3,FT,seval]
    exact⟨cntL p nl0 cap0 cap20 st o0 o1 o2 o4 o5 o6 o8 o9 o10 o11 l0 st .done (some (.exit 5)),_,(by rfl),_,_,(by rw [he]),(fun h=>by have h2:=h j (by omega);rw [hcj] at h2;cases h2),(fun _ _=>⟨rfl,rfl⟩)⟩
   ·have hcj:cntC st j=true:=decide_eq_true he
    rw[hcj]
    simp only[Qah,Qam,h23,h5,hwn,he,rfAs,rfBd,rfOf,Qay,Qae,Qag,Qaa,Qab,LP,Tryd.f3,FT,seval]
    exact⟨cntL p nl0 cap0 cap20 st o0 o1 o2 o4 o5 o6 o8 o9 o10 o11 l0 ((j+1:Nat):Int) .ready none,_,(by rfl),_,_,rfl,(fun _=>⟨rfl,rfl⟩),(fun _ h=>by rw [Nat.add_sub_cancel,hcj] at h;cases h)⟩
end Go.Proofs.Sw
namespace Go.Proofs.Sw
open Go.Ab Go.Proofs.YtiiannaficbjeaaDoor.tab
theorem QCw {D:List Gr} {Q:List Rw} {n:Nat} (hQ:GQ D Q D.length) (h0:0<D.length) (hn:D.length≤n):(iniR Q (D.getD 0 dG).l.length n n).map Rw.vals=iniV (QbX (D.getD 0 dG).l.length) (Q.map Rw.vals) n:=by
 obtain⟨_,h2⟩:=Q0M (n:=n) hQ h0
 have hl:=hQ.len
 obtain⟨L,hL⟩:∃ L,L=(D.getD 0 dG).l.length:=⟨_,rfl⟩
 rw[← hL] at h2 ⊢
 have hlen:((iniR Q L n n).map Rw.vals).length=n:=by rw [List.length_map,Qe1]
 have hlen2:(iniV (QbX L) (Q.map Rw.vals) n).length=n:=QcB _ (by rw [List.length_map];omega)
 have key:∀ r,r<n→((iniR Q L n n).map Rw.vals).getD r (QbX L).d=(iniV (QbX L) (Q.map Rw.vals) n).getD r (QbX L).d:=by
  intro r hr
  by_cases hq:r<Q.length
  ·rw[QDV hr hq,Qyv _ (by rw [List.length_map];exact hq),List.getD_eq_getElem?_getD,List.getD_eq_getElem?_getD,List.getElem?_map,List.getElem?_eq_getElem hq]
   rfl
  ·rw[h2 r (by omega) hr,Qkv _ (by rw [List.length_map];omega)]
   rfl
 apply List.ext_getElem?
 intro r
 by_cases hr:r<n
 ·have:=key r hr
  rw[List.getD_eq_getElem?_getD,List.getD_eq_getElem?_getD,List.getElem?_eq_getElem (by omega),List.getElem?_eq_getElem (by omega)] at this
  rw[List.getElem?_eq_getElem (by omega),List.getElem?_eq_getElem (by omega)]
  exact congrArg some this
 ·rw[List.getElem?_eq_none (by omega),List.getElem?_eq_none (by omega)]
theorem Qrj (k:Nat) {p q:Pg} (hr:Qax p=true) (hc:Comes p q) (hcl:p.code.length≤40) (hol:p.outs.length≤40) (hk:60000≤k) {D:List Gr} {Q:List Rw} (hQ:GQ D Q D.length) (hD:(D.length:Int)=p.ins) (nl:Bool) (cap cap2:Option Nat) (nlq:Bool) (capq capq2:Option Nat) (nl3:Bool) (cap3:Option Nat) :
  run (k+61) 19 [aP p nl cap false cap2,aP q nlq capq false capq2,sW Q nl3 cap3]=some (bb true):=by
 obtain⟨n,e,en,g1,g2,_⟩:=QaQ hr
 obtain⟨m,f,fm,k1,k2,_⟩:=QaQ hc.right
 have h0:0<D.length:=by omega
 have hsame:=hc.same (D.getD 0 dG).l.length
 have hi:=hc.ins
 have hcc:=hc.code
 have hco:=hc.outs
 have hsz:=hQ.sz
 have hfit:=hQ.fit
 have hQl:=hQ.len
 have e1:=QCw (n:=n) hQ h0 (by omega)
 have e2:=QCw (n:=m) hQ h0 (by omega)
 have hG:=(Q0M (n:=n) hQ h0).1
 obtain⟨L,hL⟩:∃ L,L=(D.getD 0 dG).l.length:=⟨_,rfl⟩
 rw[← hL] at hsame hsz hfit e1 e2 hG
 have hr2:=hr
 have hrq:=hc.right
 obtain⟨ins,regs,code,outs⟩:=p
 obtain⟨ins2,regs2,C,O⟩:=q
 simp only at e en f fm g1 g2 k1 k2 hi hcc hco hD hcl hol
 subst e f hi
 refine Q5m k ins2 n m code C outs O nl cap false cap2 nlq capq false capq2 Q nl3 cap3 L hk (by omega) (by omega) hsz hr2 hrq (by omega) (by omega) (by omega) hco ?_
 intro R hR
 rw[e1] at hR
 rw[e2]
 obtain⟨R',h1,h2⟩:=hsame (Q.map Rw.vals) (by rw [List.length_map,hQl];exact hD) (fun a ha=>hG a (by rw [e1];exact List.mem_append_left _ ha)) R (by rw [show ((⟨ins2,(n:Int),code,outs⟩:Pg).regs).toNat=n from en];exact hR)
 exact⟨R',by rw [show ((⟨ins2,(m:Int),C,O⟩:Pg).regs).toNat=m from fm] at h1;exact h1,h2⟩
theorem QpG {p:Pg} {nl0:Bool} {cap0 cap20:Option Nat} {st:Int} {o0 o1 o2 o4 o5 o6 o8 o9 o10 o11:AObj} (K:Nat) (hr:Qax p=true) (hk:p.outs.length+p.code.length+3500≤K) (hn0:nl0=true→p.code=[])
  (ho:∀ n,12≤n→[o0,o1,o2,o4,o5,o6,o8,o9,o10,o11].all (AObj.under n)=true) (l0:Ass) (E:Option (AV × Heap))
  (hE:Qav Tryd.prog (Qac tab) (K+70) (.fn 29) [.yld 13,.ptr 7 0] (cntL p nl0 cap0 cap20 st o0 o1 o2 o4 o5 o6 o8 o9 o10 o11 l0 0 .ready none)=E)
  (h23:asc l0 23=.ptr 12 0) (h5:asc l0 5=.ptr 3 0) (hl0:∀ n,14≤n→(l0.all fun e=>AV.under n e.2)=true) :
  E=some (.tup [],cntL p nl0 cap0 cap20 st o0 o1 o2 o4 o5 o6 o8 o9 o10 o11 l0 ((3 * rT p+1:Nat):Int) .ready none)∨E=some (.tup [],cntL p nl0 cap0 cap20 st o0 o1 o2 o4 o5 o6 o8 o9 o10 o11 l0 st .done (some (.exit 5))):=by
 have hJ0:CntJ p nl0 cap0 cap20 st o0 o1 o2 o4 o5 o6 o8 o9 o10 o11 l0 0 (cntL p nl0 cap0 cap20 st o0 o1 o2 o4 o5 o6 o8 o9 o10 o11 l0 0 .ready none):=⟨_,_,rfl,fun _=>⟨rfl,rfl⟩,fun h=>by omega⟩
 obtain⟨L',j,h1,⟨sx,pd,rfl,hs1,hs2⟩,hj,hci,hjj⟩:=Qid (Q7N K h23 h5 hl0 ho) hr (by omega) hn0 _ hJ0
 cases hcj:cntC st j with
 | true =>
  have hj2:j=3 * rT p:=by
   rcases hjj with h | h
   ·exact h
   ·rw[hcj] at h;cases h
  obtain⟨rfl,rfl⟩:=hs1 (fun i hi=>by
   by_cases e:i=j
   ·rw[e];exact hcj
   ·exact hci i (by omega))
  subst hj2
  exact .inl (hE.symm.trans h1)
 | false =>
  obtain⟨rfl,rfl⟩:=hs2 (by omega) (by rw [Nat.add_sub_cancel];exact hcj)
  have he:((j+1:Nat):Int)=st:=by
   unfold cntC at hcj
   have:=of_decide_eq_false hcj
   exact Classical.not_not.1 this
  rw[he] at h1
  exact .inr (hE.symm.trans h1)
end Go.Proofs.Sw
namespace Go.Proofs.Sw
open Go.Ab Go.Proofs.YtiiannaficbjeaaDoor.tab
theorem Qj8 (K:Nat) (p:Pg) (nl:Bool) (cap cap2:Option Nat) (D:List Gr) (nl3:Bool) (cap3:Option Nat) (st:Int) (hk:p.outs.length+p.code.length+D.length+60000≤K) (hn0:nl=true→p.code=[]) (hr:Qax p=true) (hlg:lg16 p=false) (hsh:¬ (12:Int)<shN p.code p.code.length)
  (gv:IV) (fits jd:Bool) (hg:run (K+70) 6 [sG D nl3 cap3]=some (.tup [.c gv,bb fits])) (hjd:jd=(fits&&decide ((D.length:Int)=p.ins)))
  (hans:jd=true→∀ (j:Nat) (nl':Bool) (cap' cap2':Option Nat),j≤3 * rT p→run (K+68) 19 [aP p nl cap false cap2,aP (ylP p j) nl' cap' false cap2',.c gv]=some (bb true)) :
  run (K+71) 3 [aP p nl cap false cap2,sG D nl3 cap3,ii st]=some (bb true):=by
 obtain⟨n1,e1,en1,w1,w2,w3,w4,w5,w6,_,_⟩:=QaQ hr
 have hwk:=Q6V (K+10)
 have hlg':=Qzo (K+69) p nl cap false cap2
 have hsf:=Qfc (K+69) p nl false cap cap2 (by omega) (by omega)
 obtain⟨nlA,capA,capA2,hal⟩:=QHL (K+59) p nl cap cap2 hr (by omega) hn0
 have hba:=QhZ (K+69) (ii p.ins) (ii p.regs) (sC p.code nl cap) (sI p.outs false cap2) rfl
 have hbk:=Qf9 (K+69) (ii p.ins) (ii p.regs) (sC p.code nl cap) (sI p.outs false cap2) rfl
 have hrt:=Ql7 (K+69) p nl cap false cap2 (by omega)
 have hcp:=QcJ (K+69) p nl false cap cap2 (Nat.le_trans (show p.code.length * 40≤16384 * 40 by omega) (by decide)) (Nat.le_trans (show p.outs.length * 8≤16384 * 8 by omega) (by decide)) w5
 have hcm:=(QaV hr (3 * rT p)).pack
 obtain⟨qT,hqT⟩:∃ qT,qT=Qbo (nowP p (3 * rT p)):=⟨_,rfl⟩
 rw[← hqT] at hal hcm
 have cq1:=hcm.code
 have cq2:=hcm.outs
 have hsm:=QbR (K+69) qT qT nlA false (nlE qT.code) false capA capA2 (cpE qT.code) none (by omega) (by omega) (by omega)
 simp only[run,aP,ii,bb,sC,sI,sG,hlg,hr,decide_true] at hwk hlg' hsf hal hba hbk hrt hcp hsm hg
 rw[run,ev3,Qaq]
 cases fits with
 | true =>
  simp only[Tryd.f3,aP,ii,bb,sG,hwk,hg,hlg',hsf,hsh,hal,hba,hbk,hrt,FT,seval]
  rw[Qaf Tryd.f3 16 QC5];rotate_left;rfl
  simp(config:={ maxSteps:=4000000 }) only [hcp,EVd,List.getElem?_nil,Nat.reducePow,Nat.reduceDiv,Nat.reduceMod,FT,seval]
  obtain rfl:jd=decide ((D.length:Int)=p.ins):=by rw [hjd,Bool.true_and]
  rw[QbI Q2h Q1n];rotate_left;rfl;rfl
  simp only[FT,seval]
  generalize hE:Qav Tryd.prog (Qac tab) (K+70) (.fn 29) _ _=E
  obtain⟨was,hE2⟩:=Qqi K hr (by omega) hn0 (o6:=cPg qT nlA capA false capA2) (fun _=>rfl) hans _ E (by exact hE) ⟨by rfl,by rfl,by rfl,by rfl,by rfl,by rfl,by rfl,by rfl,fun n hn=>by
   have d0:decide (0<n)=true:=decide_eq_true (by omega)
   have d1:decide (1<n)=true:=decide_eq_true (by omega)
   have d2:decide (2<n)=true:=decide_eq_true (by omega)
   have d3:decide (3<n)=true:=decide_eq_true (by omega)
   have d4:decide (4<n)=true:=decide_eq_true (by omega)
   have d5:decide (5<n)=true:=decide_eq_true (by omega)
   have d6:decide (6<n)=true:=decide_eq_true (by omega)
   have d7:decide (7<n)=true:=decide_eq_true (by omega)
   have d8:decide (8<n)=true:=decide_eq_true (by omega)
   have d9:decide (9<n)=true:=decide_eq_true (by omega)
   have d10:decide (10<n)=true:=decide_eq_true (by omega)
   have d11:decide (11<n)=true:=decide_eq_true (by omega)
   simp only[d0,d1,d2,d3,d4,d5,d6,d7,d8,d9,d10,d11,EVb,EVc,seval]⟩
  clear hE
  rw[← hqT] at hE2
  subst hE2
  simp only[FT,seval]
  rw[QbI QzM Q07];rotate_left;rfl;rfl
  simp only[FT,seval]
  generalize hE:Qav Tryd.prog (Qac tab) (K+70) (.fn 29) _ _=E
  rcases QpG K hr (by omega) hn0 (fun n hn=>by
   have d0:decide (0<n)=true:=decide_eq_true (by omega)
   have d1:decide (1<n)=true:=decide_eq_true (by omega)
   have d2:decide (2<n)=true:=decide_eq_true (by omega)
   have d3:decide (3<n)=true:=decide_eq_true (by omega)
   have d4:decide (4<n)=true:=decide_eq_true (by omega)
   have d5:decide (5<n)=true:=decide_eq_true (by omega)
   have d6:decide (6<n)=true:=decide_eq_true (by omega)
   have d7:decide (7<n)=true:=decide_eq_true (by omega)
   have d8:decide (8<n)=true:=decide_eq_true (by omega)
   have d9:decide (9<n)=true:=decide_eq_true (by omega)
   have d10:decide (10<n)=true:=decide_eq_true (by omega)
   have d11:decide (11<n)=true:=decide_eq_true (by omega)
   simp only[QcA,d0,d1,d2,d3,d4,d5,d6,d7,d8,d9,d10,d11,EVb,EVc,seval]) _ E hE (by rfl) (by rfl) (fun n hn=>by
   have d0:decide (0<n)=true:=decide_eq_true (by omega)
   have d1:decide (1<n)=true:=decide_eq_true (by omega)
   have d2:decide (2<n)=true:=decide_eq_true (by omega)
   have d3:decide (3<n)=true:=decide_eq_true (by omega)
   have d4:decide (4<n)=true:=decide_eq_true (by omega)
   have d5:decide (5<n)=true:=decide_eq_true (by omega)
   have d6:decide (6<n)=true:=decide_eq_true (by omega)
   have d7:decide (7<n)=true:=decide_eq_true (by omega)
   have d8:decide (8<n)=true:=decide_eq_true (by omega)
   have d9:decide (9<n)=true:=decide_eq_true (by omega)
   have d10:decide (10<n)=true:=decide_eq_true (by omega)
   have d11:decide (11<n)=true:=decide_eq_true (by omega)
   have d12:decide (12<n)=true:=decide_eq_true (by omega)
   simp only[d0,d1,d2,d3,d4,d5,d6,d7,d8,d9,d10,d11,d12,EVb,EVc,seval]) with rfl | rfl
  ·by_cases hst:((3 * rT p+1:Nat):Int)=st
   ·simp only[hsm,hst,eq_self,decide_true,FT,seval]
   ·simp only[hsm,hst,eq_self,decide_true,FT,seval]
  ·simp only[hsm,eq_self,decide_true,FT,seval]
 | false =>
  simp only[Tryd.f3,aP,ii,bb,sG,hwk,hg,hlg',hsf,hsh,hal,hba,hbk,hrt,FT,seval]
  rw[Qaf Tryd.f3 16 QC5];rotate_left;rfl
  simp(config:={ maxSteps:=4000000 }) only [hcp,EVd,List.getElem?_nil,Nat.reducePow,Nat.reduceDiv,Nat.reduceMod,FT,seval]
  obtain rfl:jd=false:=by rw [hjd,Bool.false_and]
  rw[QbI Q2h Q1n];rotate_left;rfl;rfl
  simp only[FT,seval]
  generalize hE:Qav Tryd.prog (Qac tab) (K+70) (.fn 29) _ _=E
  obtain⟨was,hE2⟩:=Qqi K hr (by omega) hn0 (o6:=cPg qT nlA capA false capA2) (fun _=>rfl) hans _ E (by exact hE) ⟨by rfl,by rfl,by rfl,by rfl,by rfl,by rfl,by rfl,by rfl,fun n hn=>by
   have d0:decide (0<n)=true:=decide_eq_true (by omega)
   have d1:decide (1<n)=true:=decide_eq_true (by omega)
   have d2:decide (2<n)=true:=decide_eq_true (by omega)
   have d3:decide (3<n)=true:=decide_eq_true (by omega)
   have d4:decide (4<n)=true:=decide_eq_true (by omega)
   have d5:decide (5<n)=true:=decide_eq_true (by omega)
   have d6:decide (6<n)=true:=decide_eq_true (by omega)
   have d7:decide (7<n)=true:=decide_eq_true (by omega)
   have d8:decide (8<n)=true:=decide_eq_true (by omega)
   have d9:decide (9<n)=true:=decide_eq_true (by omega)
   have d10:decide (10<n)=true:=decide_eq_true (by omega)
   have d11:decide (11<n)=true:=decide_eq_true (by omega)
   simp only[d0,d1,d2,d3,d4,d5,d6,d7,d8,d9,d10,d11,EVb,EVc,seval]⟩
  clear hE
  rw[← hqT] at hE2
  subst hE2
  simp only[FT,seval]
  rw[QbI QzM Q07];rotate_left;rfl;rfl
  simp only[FT,seval]
  generalize hE:Qav Tryd.prog (Qac tab) (K+70) (.fn 29) _ _=E
  rcases QpG K hr (by omega) hn0 (fun n hn=>by
   have d0:decide (0<n)=true:=decide_eq_true (by omega)
   have d1:decide (1<n)=true:=decide_eq_true (by omega)
   have d2:decide (2<n)=true:=decide_eq_true (by omega)
   have d3:decide (3<n)=true:=decide_eq_true (by omega)
   have d4:decide (4<n)=true:=decide_eq_true (by omega)
   have d5:decide (5<n)=true:=decide_eq_true (by omega)
   have d6:decide (6<n)=true:=decide_eq_true (by omega)
   have d7:decide (7<n)=true:=decide_eq_true (by omega)
   have d8:decide (8<n)=true:=decide_eq_true (by omega)
   have d9:decide (9<n)=true:=decide_eq_true (by omega)
   have d10:decide (10<n)=true:=decide_eq_true (by omega)
   have d11:decide (11<n)=true:=decide_eq_true (by omega)
   simp only[QcA,d0,d1,d2,d3,d4,d5,d6,d7,d8,d9,d10,d11,EVb,EVc,seval]) _ E hE (by rfl) (by rfl) (fun n hn=>by
   have d0:decide (0<n)=true:=decide_eq_true (by omega)
   have d1:decide (1<n)=true:=decide_eq_true (by omega)
   have d2:decide (2<n)=true:=decide_eq_true (by omega)
   have d3:decide (3<n)=true:=decide_eq_true (by omega)
   have d4:decide (4<n)=true:=decide_eq_true (by omega)
   have d5:decide (5<n)=true:=decide_eq_true (by omega)
   have d6:decide (6<n)=true:=decide_eq_true (by omega)
   have d7:decide (7<n)=true:=decide_eq_true (by omega)
   have d8:decide (8<n)=true:=decide_eq_true (by omega)
   have d9:decide (9<n)=true:=decide_eq_true (by omega)
   have d10:decide (10<n)=true:=decide_eq_true (by omega)
   have d11:decide (11<n)=true:=decide_eq_true (by omega)
   have d12:decide (12<n)=true:=decide_eq_true (by omega)
   simp only[d0,d1,d2,d3,d4,d5,d6,d7,d8,d9,d10,d11,d12,EVb,EVc,seval]) with rfl | rfl
  ·by_cases hst:((3 * rT p+1:Nat):Int)=st
   ·simp only[hsm,hst,eq_self,decide_true,FT,seval]
   ·simp only[hsm,hst,eq_self,decide_true,FT,seval]
  ·simp only[hsm,eq_self,decide_true,FT,seval]
theorem Qlx (K:Nat) (p:Pg) (nl:Bool) (cap:Option Nat) (nl2:Bool) (cap2:Option Nat) (D:List Gr) (nl3:Bool) (cap3:Option Nat) (st:Int) (hk:p.outs.length+p.code.length+D.length+60000≤K) (hr:Qax p=false) (hlg:lg16 p=false) (hl6:p.code.length≤4611686018427387904) (hsh:¬ (12:Int)<shN p.code p.code.length)
  (gv:IV) (fits:Bool) (hg:run (K+70) 6 [sG D nl3 cap3]=some (.tup [.c gv,bb fits])) :
  run (K+71) 3 [aP p nl cap nl2 cap2,sG D nl3 cap3,ii st]=some (bb true):=by
 have hwk:=Q6V (K+10)
 have hlg':=Qzo (K+69) p nl cap nl2 cap2
 have hsf:=Qfc (K+69) p nl nl2 cap cap2 hl6 (by omega)
 have hal:=QDG (K+68) p nl cap nl2 cap2 hr (by omega)
 have hba:=QhZ (K+69) (ii p.ins) (ii p.regs) (sC p.code nl cap) (sI p.outs nl2 cap2) rfl
 have hbk:=Qf9 (K+69) (ii p.ins) (ii p.regs) (sC p.code nl cap) (sI p.outs nl2 cap2) rfl
 have hrt:=Ql7 (K+69) p nl cap nl2 cap2 (by omega)
 obtain⟨cn,hck⟩:=QdR (K+68) p nl cap nl2 cap2 (by omega)
 have hem:=QyC (K+69)
 simp only[QdS,hr] at hck
 simp only[run,aP,ii,bb,sC,sI,sG,hlg,hr] at hwk hlg' hsf hal hba hbk hrt hck hg hem
 rw[run,ev3,Qaq]
 simp only[Tryd.f3,aP,ii,bb,sG,hwk,hg,hlg',hsf,hsh,hal,hba,hbk,hrt,FT,seval]
 rw[QbI QDe QC1];rotate_left;rfl;rfl
 simp only[ev29,Tryd.f29,hck,hem,FT,seval]
theorem OrderRounds_ev (k:Nat) (p:Pg) (nl:Bool) (cap:Option Nat) (nl2:Bool) (cap2:Option Nat) (D:List Gr) (nl3:Bool) (cap3:Option Nat) (st:Int) (hk:p.outs.length+p.code.length+D.length+70100≤k) (hn:nl=true→p.code=[]) (hn2:nl2=true→p.outs=[]) (hs:p.code.length * 40≤roomBytes) (_:p.outs.length * 8≤roomBytes) (hD:GrOk D) (hq6:D.length≤4611686018427387904) (hs24:D.length * 24≤roomBytes) :
  run (k+1) 3 [aP p nl cap nl2 cap2,sG D nl3 cap3,ii st]=some (bb true):=by
 have hl6:p.code.length≤4611686018427387904:=Nat.le_trans (show p.code.length≤p.code.length * 40 by omega) (Nat.le_trans hs (by decide))
 obtain⟨K,rfl⟩:∃ j,k=j+70:=⟨k-70,by omega⟩
 have hwk:=Q6V (K+10)
 have hlg':=Qzo (K+69) p nl cap nl2 cap2
 have hgr:=QAw (K+67) D nl3 cap3 hD hs24 hq6 (by omega)
 have hsf:=Qfc (K+69) p nl nl2 cap cap2 hl6 (by omega)
 obtain⟨gv,fits,hg,hfit⟩:∃ (gv:IV) (fits:Bool),run (K+70) 6 [sG D nl3 cap3]=some (.tup [.c gv,bb fits])∧(fits=true→∃ (Q:List Rw) (nlg:Bool) (capg:Option Nat),GQ D Q D.length∧AV.c gv=sW Q nlg capg):=by
  rcases hgr with hg | ⟨Q,nlg,capg,hQ,hg⟩
  ·exact⟨_,false,hg,fun h=>by cases h⟩
  ·exact⟨_,true,hg,fun _=>⟨Q,nlg,capg,hQ,rfl⟩⟩
 cases hlg:lg16 p with
 | true =>
  simp only[run,aP,ii,sC,sI,bb,sG,hlg] at hwk hlg' hg
  rw[run,ev3,Qaq]
  simp only[Tryd.f3,aP,ii,bb,sG,hwk,hlg',hg,FT,seval]
 | false =>
  by_cases hsh:(12:Int)<shN p.code p.code.length
  ·simp only[run,aP,ii,sC,sI,bb,sG,hlg] at hwk hlg' hg hsf
   rw[run,ev3,Qaq]
   simp only[Tryd.f3,aP,ii,bb,sG,hwk,hlg',hg,hsf,hsh,FT,seval]
  ·cases hr:Qax p with
   | false=>exact Qlx K p nl cap nl2 cap2 D nl3 cap3 st (by omega) hr hlg hl6 hsh gv fits hg
   | true =>
    obtain⟨n1,e1,en1,w1,w2,w3,w4,w5,w6,_,_⟩:=QaQ hr
    obtain rfl:nl2=false:=by
     cases nl2 with
     | false=>rfl
     | true=>have:=hn2 rfl;rw [this] at w5;simp at w5
    have hl:=hlg
    simp only[lg16,Bool.or_eq_false_iff,decide_eq_false_iff_not] at hl
    refine Qj8 K p nl cap cap2 D nl3 cap3 st (by omega) hn hr hlg hsh gv fits _ hg rfl ?_
    intro hjd j nl' cap' cap2' hj
    rw[Bool.and_eq_true,decide_eq_true_eq] at hjd
    obtain⟨Q,nlg,capg,hQ,hgv⟩:=hfit hjd.1
    rw[hgv]
    exact Qrj (K+7) hr (Qfi hr j) (by omega) (by omega) (by omega) hQ hjd.2 nl cap cap2 nl' cap' cap2' nlg capg
end Go.Proofs.Sw
namespace Go.Proofs.Sw
open Go.Ab
section
variable [Globals]
variable {H:Type} {enc:TypeId × Value→H} {W:World} {spare:Nat→Bool} {held:Bool} {fuel:Nat} {cs:List Value} {x:DataW H × List MemPlace}
theorem QAh:Tryd.prog.cellsOf 61=5:=by kernel_rfl
theorem Q8j:Tryd.prog.cellsOf 3=1:=by kernel_rfl
set_option maxRecDepth 10000 in
theorem QBz (h:DataW.trod enc Tryd.prog W 0 spare held fuel 61 cs=some x):∃ o t a b c:Int,cs=[.int .i64 o,.int .i64 t,.int .i64 a,.int .i64 b,.int .i64 c]:=by
 obtain⟨xs,n,rfl,_,hl,hx,hf⟩:=DataW.trod_struct Tryd.underlying61 h
 rw[QAh] at hl
 have hx':xs.length=5:=hx.trans (by kernel_rfl)
 match cs,hl with
 | [c0,c1,c2,c3,c4],_ =>
  have g0:DataW.trod enc Tryd.prog W 0 spare held n 3 (([c0,c1,c2,c3,c4].drop 0).take (Tryd.prog.cellsOf 3))=xs[0]?:=hf 0 _ rfl
  have g1:DataW.trod enc Tryd.prog W 0 spare held n 3 (([c0,c1,c2,c3,c4].drop 1).take (Tryd.prog.cellsOf 3))=xs[1]?:=hf 1 _ rfl
  have g2:DataW.trod enc Tryd.prog W 0 spare held n 3 (([c0,c1,c2,c3,c4].drop 2).take (Tryd.prog.cellsOf 3))=xs[2]?:=hf 2 _ rfl
  have g3:DataW.trod enc Tryd.prog W 0 spare held n 3 (([c0,c1,c2,c3,c4].drop 3).take (Tryd.prog.cellsOf 3))=xs[3]?:=hf 3 _ rfl
  have g4:DataW.trod enc Tryd.prog W 0 spare held n 3 (([c0,c1,c2,c3,c4].drop 4).take (Tryd.prog.cellsOf 3))=xs[4]?:=hf 4 _ rfl
  rw[Q8j,List.getElem?_eq_getElem (by omega)] at g0 g1 g2 g3 g4
  obtain⟨n0,e0,_⟩:=Qdz Tryd.underlying3 g0
  obtain⟨n1,e1,_⟩:=Qdz Tryd.underlying3 g1
  obtain⟨n2,e2,_⟩:=Qdz Tryd.underlying3 g2
  obtain⟨n3,e3,_⟩:=Qdz Tryd.underlying3 g3
  obtain⟨n4,e4,_⟩:=Qdz Tryd.underlying3 g4
  simp at e0 e1 e2 e3 e4
  exact⟨n0,n1,n2,n3,n4,by rw [e0,e1,e2,e3,e4]⟩
theorem agg_of {v:Value} {l:List Value} (h:v.cells.toList=l) (hl:1<l.length):v=.agg l.toArray:=by
 cases v with
 | agg cs =>
  have:cs.toList=l:=h
  rw[← this]
 | _ =>
  have h1:=congrArg List.length h
  have h2:l.length=1:=by rw [← h1];rfl
  omega
theorem Q78:Tryd.prog.cellsOf 25=4:=by kernel_rfl
theorem Q9S:Tryd.prog.cellsOf 22=1:=by kernel_rfl
theorem Q6i:Tryd.prog.cellsOf 23=1:=by kernel_rfl
theorem QAD (n:Nat) (cs':List Value) (y:DataW H × List MemPlace) (h:DataW.trod enc Tryd.prog W 0 spare held n 61 cs'=some y):∃ ivs,(∃ i:Ins,ivs=enc1 i)∧ivs.length=5∧Rel W ivs cs':=by
 obtain⟨o,t,a,b,c,rfl⟩:=QBz h
 exact⟨_,⟨⟨o,t,a,b,c⟩,rfl⟩,rfl,Rel.cons (.int _ _) (Rel.cons (.int _ _) (Rel.cons (.int _ _) (Rel.cons (.int _ _) (Rel.cons (.int _ _) Rel.nil))))⟩
theorem QA9 (n:Nat) (cs':List Value) (y:DataW H × List MemPlace) (h:DataW.trod enc Tryd.prog W 0 spare held n 3 cs'=some y):∃ ivs,(∃ z:Int,ivs=[.int .i64 z])∧ivs.length=1∧Rel W ivs cs':=by
 obtain⟨z,rfl,_⟩:=Qdz Tryd.underlying3 h
 exact⟨_,⟨z,rfl⟩,rfl,Rel.cons (.int _ _) Rel.nil⟩
theorem Q9m:∀ (chunks:List (List IV)),(∀ c ∈ chunks,(∃ i:Ins,c=enc1 i)∧c.length=5)→∃ code:List Ins,chunks.flatten=Qak code∧chunks.length=code.length
 | [],_=>⟨[],rfl,rfl⟩
 | c::cs,h=>by
  obtain⟨code,h1,h2⟩:=Q9m cs fun c hc=>h c (by simp [hc])
  obtain⟨⟨i,rfl⟩,_⟩:=h c (by simp)
  exact⟨i::code,by rw [List.flatten_cons,h1,Qak],by simp [h2]⟩
theorem Q84:∀ (chunks:List (List IV)),(∀ c ∈ chunks,(∃ z:Int,c=[.int .i64 z])∧c.length=1)→∃ l:List Int,chunks.flatten=Qal l∧chunks.length=l.length
 | [],_=>⟨[],rfl,rfl⟩
 | c::cs,h=>by
  obtain⟨l,h1,h2⟩:=Q84 cs fun c hc=>h c (by simp [hc])
  obtain⟨⟨z,rfl⟩,_⟩:=h c (by simp)
  exact⟨z::l,by rw [List.flatten_cons,h1];rfl,by simp [h2]⟩
set_option maxRecDepth 10000 in
theorem open_pgV {v:Value} {d:DataW H} {p:List MemPlace} (h:DataW.Trod enc Tryd.prog W 0 spare held 25 v d p) :
  ∃ (q:Pg) (nl nl2:Bool),VRel (Old W) [] [] W (aP q nl none nl2 none) v∧(nl=true→q.code=[])∧(nl2=true→q.outs=[])∧q.code.length≤maxLen∧q.outs.length≤maxLen:=by
 obtain⟨m,hm⟩:=h
 generalize hcs:v.cells.toList=cs at hm
 obtain⟨xs,n,rfl,_,hl,hx,hf⟩:=DataW.trod_struct Tryd.underlying25 hm
 rw[Q78] at hl
 have hx':xs.length=4:=hx.trans (by kernel_rfl)
 match cs,hl with
 | [c0,c1,c2,c3],_ =>
  have g0:DataW.trod enc Tryd.prog W 0 spare held n 3 (([c0,c1,c2,c3].drop 0).take (Tryd.prog.cellsOf 3))=xs[0]?:=hf 0 _ rfl
  have g1:DataW.trod enc Tryd.prog W 0 spare held n 3 (([c0,c1,c2,c3].drop 1).take (Tryd.prog.cellsOf 3))=xs[1]?:=hf 1 _ rfl
  have g2:DataW.trod enc Tryd.prog W 0 spare held n 22 (([c0,c1,c2,c3].drop 2).take (Tryd.prog.cellsOf 22))=xs[2]?:=hf 2 _ rfl
  have g3:DataW.trod enc Tryd.prog W 0 spare held n 23 (([c0,c1,c2,c3].drop 3).take (Tryd.prog.cellsOf 23))=xs[3]?:=hf 3 _ rfl
  rw[Q8j,List.getElem?_eq_getElem (by omega)] at g0 g1
  rw[Q9S,List.getElem?_eq_getElem (by omega)] at g2
  rw[Q6i,List.getElem?_eq_getElem (by omega)] at g3
  obtain⟨n0,e0,_⟩:=Qdz Tryd.underlying3 g0
  obtain⟨n1,e1,_⟩:=Qdz Tryd.underlying3 g1
  obtain⟨v2,ch2,nl,e2,o2,hg2,hl2,hn2,r2⟩:=open_slice (fun ivs=>∃ i:Ins,ivs=enc1 i) Tryd.underlying22 QAh (by omega) QAD g2
  obtain⟨v3,ch3,nl2,e3,o3,hg3,hl3,hn3,r3⟩:=open_slice (fun ivs=>∃ z:Int,ivs=[.int .i64 z]) Tryd.underlying23 Q8j (by omega) QA9 g3
  simp at e0 e1 e2 e3
  subst e0;subst e1;subst e2;subst e3
  obtain⟨code,k1,k2⟩:=Q9m ch2 hg2
  obtain⟨outs,k3,k4⟩:=Q84 ch3 hg3
  rw[k1,k2] at r2
  rw[k3,k4] at r3
  refine⟨⟨n0,n1,code,outs⟩,nl,nl2, ?_,fun h=>?_,fun h=>?_,by rw [← k2];exact hl2,by rw [← k4];exact hl3⟩
  ·rw[agg_of hcs (by simp)]
   exact VRel.of_rel (xs:=[.int .i64 n0,.int .i64 n1,.slice (Qak code) code.length nl none,.slice (Qal outs) outs.length nl2 none]) (Rel.cons (.int _ _) (Rel.cons (.int _ _) (Rel.cons r2 (Rel.cons r3 Rel.nil))))
  ·have:=hn2 h
   subst this
   exact List.eq_nil_of_length_eq_zero k2.symm
  ·have:=hn3 h
   subst this
   exact List.eq_nil_of_length_eq_zero k4.symm
end
end Go.Proofs.Sw
namespace Go.Proofs.Sw
open Go.Ab
section
variable [Globals]
variable {H:Type} {enc:TypeId × Value→H} {W:World} {spare:Nat→Bool} {held:Bool} {fuel:Nat}
theorem Q9w {ivs:List IV} {n:Nat} {nl:Bool} {cap:Option Nat} {a:Option Addr} {len c:Nat} (h:IRel (Old W) W (.slice ivs n nl cap) (.slice a len c)):n=len:=by
 cases h;rfl
theorem QlD {t e:TypeId} {cs:List Value} {x:DataW H × List MemPlace} {v:Value} {ivs:List IV} {n:Nat} {nl:Bool} {cap:Option Nat} (ht:Tryd.prog.underlying t=some (.slice e)) (h:DataW.trod enc Tryd.prog W 0 spare held fuel t cs=some x) (hv:cs=[v]) (hr:IRel (Old W) W (.slice ivs n nl cap) v) :
  (∃ el sp,x.1=.slice el sp∧el.length=n)∨n=0:=by
 rcases DataW.trod_slice ht h with ⟨rfl,_⟩ | ⟨a,len,cp,elems,rest,m,_,rfl,rfl,_,_,_,hel,_,_,_⟩
 ·obtain rfl:v=.slice none 0 0:=by simpa using hv.symm
  exact .inr (Q9w hr)
 ·obtain rfl:v=.slice (some a) len cp:=by simpa using hv.symm
  exact .inl ⟨_,_,rfl,by rw [List.length_map,hel];exact (Q9w hr).symm⟩
theorem QGv {q:Pg} {nl nl2:Bool} {v:Value} (h:VRel (Old W) [] [] W (aP q nl none nl2 none) v) {c0 c1 c2 c3:Value} (hc:v.cells.toList=[c0,c1,c2,c3]) :
  IRel (Old W) W (.slice (Qak q.code) q.code.length nl none) c2∧IRel (Old W) W (.slice (Qal q.outs) q.outs.length nl2 none) c3:=by
 cases h with
 | agg h1 h2 r =>
  rename_i cs
  have e:cs.toList=[c0,c1,c2,c3]:=hc
  have g:∀ i c,[c0,c1,c2,c3][i]?=some c→cs.getD i undef=c:=fun i c hi=>by
   have:cs[i]?=some c:=by rw [← Array.getElem?_toList,e];exact hi
   rw[Array.getD_eq_getD_getElem?,this];rfl
  constructor
  ·have:=r 2 _ rfl
   rw[g 2 c2 rfl] at this
   cases this with
   | c h=>exact h
  ·have:=r 3 _ rfl
   rw[g 3 c3 rfl] at this
   cases this with
   | c h=>exact h
set_option maxRecDepth 10000 in
theorem open_pgZ {q:Pg} {nl nl2:Bool} {v:Value} {d:DataW H} {p:List MemPlace} (h:DataW.Trod enc Tryd.prog W 0 spare held 25 v d p) (hr:VRel (Old W) [] [] W (aP q nl none nl2 none) v) (hz:(d.weights Tryd.prog 25).all (·≤reachBytes)=true) :
  q.code.length * 40≤reachBytes∧q.outs.length * 8≤reachBytes:=by
 obtain⟨m,hm⟩:=h
 generalize hcs:v.cells.toList=cs at hm
 obtain⟨xs,n,rfl,hx0,hl,hx,hf⟩:=DataW.trod_struct Tryd.underlying25 hm
 rw[Q78] at hl
 have hx':xs.length=4:=hx.trans (by kernel_rfl)
 simp only[Prod.mk.injEq] at hx0
 obtain⟨rfl,_⟩:=hx0
 simp only[DataW.weights,Tryd.underlying25] at hz
 match cs,hl with
 | [c0,c1,c2,c3],_ =>
  have g2:DataW.trod enc Tryd.prog W 0 spare held n 22 (([c0,c1,c2,c3].drop 2).take (Tryd.prog.cellsOf 22))=xs[2]?:=hf 2 _ rfl
  have g3:DataW.trod enc Tryd.prog W 0 spare held n 23 (([c0,c1,c2,c3].drop 3).take (Tryd.prog.cellsOf 23))=xs[3]?:=hf 3 _ rfl
  rw[Q9S,List.getElem?_eq_getElem (by omega)] at g2
  rw[Q6i,List.getElem?_eq_getElem (by omega)] at g3
  obtain⟨r2,r3⟩:=QGv hr hcs
  have b34:Tryd.prog.bytesOf 61=40:=by kernel_rfl
  have b3:Tryd.prog.bytesOf 3=8:=by kernel_rfl
  constructor
  ·rcases QlD Tryd.underlying22 g2 rfl r2 with ⟨el,sp,e,he⟩ | h0
   ·have:=sized_slice hz (j:=2) (t:=22) (e:=61) (elems:=el) (spare:=sp) rfl (by rw [List.getElem?_map,List.getElem?_eq_getElem (by omega),Option.map_some,e]) Tryd.underlying22
    rw[b34,he] at this
    exact Nat.le_trans (Nat.mul_le_mul_right 40 (Nat.le_add_right _ _)) this
   ·rw[h0];decide
  ·rcases QlD Tryd.underlying23 g3 rfl r3 with ⟨el,sp,e,he⟩ | h0
   ·have:=sized_slice hz (j:=3) (t:=23) (e:=3) (elems:=el) (spare:=sp) rfl (by rw [List.getElem?_map,List.getElem?_eq_getElem (by omega),Option.map_some,e]) Tryd.underlying23
    rw[b3,he] at this
    exact Nat.le_trans (Nat.mul_le_mul_right 8 (Nat.le_add_right _ _)) this
   ·rw[h0];decide
theorem reach_room {n:Nat} (h:n≤reachBytes):n≤Go.Ab.roomBytes:=Nat.le_trans h (by decide)
end
end Go.Proofs.Sw
namespace Go.Proofs.Sw
open Go.Ab
section
variable [Globals]
variable {H:Type} {enc:TypeId × Value→H} {W:World} {spare:Nat→Bool} {held:Bool} {fuel:Nat} {cs:List Value} {x:DataW H × List MemPlace}
theorem QHl:Tryd.prog.cellsOf 2=1:=by kernel_rfl
theorem QEA:Tryd.prog.cellsOf 44=1:=by kernel_rfl
theorem QA0 (n:Nat) (cs':List Value) (y:DataW H × List MemPlace) (h:DataW.trod enc Tryd.prog W 0 spare held n 2 cs'=some y):∃ ivs,(∃ z:Int,in64 z∧ivs=[.int .i64 z])∧ivs.length=1∧Rel W ivs cs':=by
 obtain⟨z,rfl,hz⟩:=Qdz Tryd.underlying2 h
 refine⟨_,⟨z, ?_,rfl⟩,rfl,Rel.cons (.int _ _) Rel.nil⟩
 have hz':=hz
 simp[Lit.wf,IntKind.min,IntKind.max,IntKind.bits,IntKind.signed] at hz'
 unfold in64
 omega
theorem Q6r:∀ (chunks:List (List IV)),(∀ c ∈ chunks,(∃ z:Int,in64 z∧c=[.int .i64 z])∧c.length=1)→∃ l:List Int,chunks.flatten=Qal l∧chunks.length=l.length∧∀ z ∈ l,in64 z
 | [],_=>⟨[],rfl,rfl,fun z hz=>by cases hz⟩
 | c::cs,h=>by
  obtain⟨l,h1,h2,h3⟩:=Q6r cs fun c hc=>h c (by simp [hc])
  obtain⟨⟨z,hz,rfl⟩,_⟩:=h c (by simp)
  refine⟨z::l,by rw [List.flatten_cons,h1];rfl,by simp [h2],fun y hy=>?_⟩
  rcases List.mem_cons.1 hy with rfl | hy
  ·exact hz
  ·exact h3 y hy
theorem QA6 (n:Nat) (cs':List Value) (y:DataW H × List MemPlace) (h:DataW.trod enc Tryd.prog W 0 spare held n 44 cs'=some y):∃ ivs,(∃ g:Gr,(∀ z ∈ g.l,in64 z)∧ivs=[iGr g])∧ivs.length=1∧Rel W ivs cs':=by
 obtain⟨v,ch,nl,rfl,_,hg,_,_,r⟩:=open_slice (fun ivs=>∃ z:Int,in64 z∧ivs=[.int .i64 z]) Tryd.underlying44 QHl (by omega) QA0 h
 obtain⟨l,h1,h2,h3⟩:=Q6r ch hg
 rw[h1,h2] at r
 exact⟨_,⟨⟨l,nl,none⟩,h3,rfl⟩,rfl,Rel.cons r Rel.nil⟩
theorem Q83:∀ (chunks:List (List IV)),(∀ c ∈ chunks,(∃ g:Gr,(∀ z ∈ g.l,in64 z)∧c=[iGr g])∧c.length=1)→∃ D:List Gr,chunks.flatten=encG D∧chunks.length=D.length∧GrOk D
 | [],_=>⟨[],rfl,rfl,fun g hg=>by cases hg⟩
 | c::cs,h=>by
  obtain⟨l,h1,h2,h3⟩:=Q83 cs fun c hc=>h c (by simp [hc])
  obtain⟨⟨g,hg,rfl⟩,_⟩:=h c (by simp)
  refine⟨g::l,by rw [List.flatten_cons,h1];rfl,by simp [h2],fun y hy=>?_⟩
  rcases List.mem_cons.1 hy with rfl | hy
  ·exact hg
  ·exact h3 y hy
theorem open_gridV {v:Value} {d:DataW H} {p:List MemPlace} (hv:∃ a len cap,v=.slice a len cap) (h:DataW.Trod enc Tryd.prog W 0 spare held 26 v d p) :
  ∃ (D:List Gr) (nl:Bool),VRel (Old W) [] [] W (sG D nl none) v∧GrOk D∧D.length≤maxLen:=by
 obtain⟨m,hm⟩:=h
 generalize hcs:v.cells.toList=cs at hm
 obtain⟨v',ch,nl,rfl,oc,hg,hl,_,r⟩:=open_slice (fun ivs=>∃ g:Gr,(∀ z ∈ g.l,in64 z)∧ivs=[iGr g]) Tryd.underlying26 QEA (by omega) QA6 hm
 obtain⟨D,h1,h2,h3⟩:=Q83 ch hg
 rw[h1,h2] at r
 refine⟨D,nl, ?_,h3,by rw [← h2];exact hl⟩
 obtain⟨a,len,cap,rfl⟩:=hv
 obtain rfl:Value.slice a len cap=v':=by simpa [Value.cells] using hcs
 exact .c r
theorem open_gridZ {D:List Gr} {nl:Bool} {v:Value} {d:DataW H} {p:List MemPlace} (hv:∃ a len cap,v=.slice a len cap) (h:DataW.Trod enc Tryd.prog W 0 spare held 26 v d p) (hr:VRel (Old W) [] [] W (sG D nl none) v) (hz:(d.weights Tryd.prog 26).all (·≤reachBytes)=true):D.length * 24≤reachBytes:=by
 obtain⟨m,hm⟩:=h
 obtain⟨a,len,cap,rfl⟩:=hv
 have hi:IRel (Old W) W (.slice (encG D) D.length nl none) (.slice a len cap):=by cases hr with | c h=>exact h
 have b38:Tryd.prog.bytesOf 44=24:=by kernel_rfl
 rcases QlD Tryd.underlying26 hm rfl hi with ⟨el,sp,e,he⟩ | h0
 ·have h1:d=.slice el sp:=e
  subst h1
  simp only[DataW.weights,Tryd.underlying26] at hz
  simp only[List.all_cons,Bool.and_eq_true,decide_eq_true_eq,b38,he] at hz
  exact Nat.le_trans (Nat.mul_le_mul_right 24 (Nat.le_add_right _ _)) hz.1
 ·rw[h0];decide
end
end Go.Proofs.Sw
