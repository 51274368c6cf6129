/- A part of the proof: what functions of the program answer; conditions stand in each theorem. -/
import Derived.Test.YtiiannaficbjeaaDoorVFacts
set_option linter.unusedVariables false
set_option linter.unusedSimpArgs false
set_option linter.unusedSectionVars false
namespace Go.Proofs.Sw
open Go.Ab
variable [Globals]
structure Ins where
 op:Int
 to:Int
 a:Int
 b:Int
 c:Int
 deriving DecidableEq
abbrev ii (n:Int):AV:=.c (.int .i64 n)
abbrev bb (n:Bool):AV:=.c (.bool n)
abbrev aI (o t a b c:Int):AV:=.agg [ii o,ii t,ii a,ii b,ii c]
abbrev encI (i:Ins):AV:=.agg [ii i.op,ii i.to,ii i.a,ii i.b,ii i.c]
noncomputable abbrev run (k f:Nat) (args:List AV):Option AV:=ans (Qav Tryd.prog (Qac tab) k (.fn f) args [])
abbrev nlE {α:Type} (l:List α):Bool:=decide (l.length=0)
abbrev cpE {α:Type} (l:List α):Option Nat:=if l.length=0 then some 0 else none
def two (op:Int):Bool:=decide (op=3) || decide (op=4)
theorem QB8 (k:Nat) (op:Int):run (k+1) 74 [ii op]=some (bb (two op)):=by
 rw[run,ev74,Qaq]
 simp only[Tryd.f74,EVb,QaN,seval,FACTS,TYPES]
 unfold two
 split<;>simp_all only [EVb,QaN,seval]<;>simp
def constant (i:Ins):Bool :=
 if i.op=5∨i.op=6 then decide (i.c≠0∧-512≤i.c∧i.c≤512)
 else if i.op=7∨i.op=8 then decide (1≤i.c∧i.c≤64)
 else decide (i.c=0)
theorem QmA (k:Nat) (o t a b c:Int):run (k+1) 75 [aI o t a b c]=some (bb (constant ⟨o,t,a,b,c⟩)):=by
 rw[run,ev75,Qaq]
 simp only[Tryd.f75,aI,ii,EVb,QaN,seval,FACTS,TYPES]
 repeat' (split<;>simp only [*,EVb,QaN,seval,FACTS])
 all_goals simp [constant, *]
def asks (i:Ins):List Int:=if i.op=3∨i.op=4 then [i.a,i.b] else if 1≤i.op∧i.op≤8 then [i.a] else []
def Qal (l:List Int):List IV:=l.map (.int .i64)
abbrev sI (l:List Int) (nl:Bool) (cap:Option Nat):AV:=.c (.slice (Qal l) l.length nl cap)
abbrev sE (l:List Int):AV:=sI l (nlE l) (cpE l)
theorem QeJ (k:Nat) (o t a b c:Int):run (k+1) 35 [aI o t a b c]=some (sE (asks ⟨o,t,a,b,c⟩)):=by
 rw[run,ev35,Qaq]
 simp only[Tryd.f35,aI,ii,EVb,QaN,seval,FACTS,TYPES]
 repeat' (split<;>simp only [*,EVb,QaN,seval,FACTS])
 all_goals simp [asks,Qal, *]
 all_goals (have hn:¬ (1≤o∧o≤8):=by omega);(simp only [hn,if_false];exact ⟨fun _=>by omega,rfl,fun _=>by omega⟩)
def mayM (i:Ins) (regs:Int):Bool :=
 decide (1≤i.op∧i.op≤8∧0≤i.to∧i.to<regs∧(i.op=3∨i.op=4∨i.b=0))&&constant i&&decide (0≤i.a∧i.a<regs)&&decide ((i.op=3∨i.op=4)→0≤i.b∧i.b<regs)
theorem Qdc {i:Ins} (h:i.op=3∨i.op=4):asks i=[i.a,i.b]:=if_pos h
theorem QgZ {i:Ins} (h:¬ (i.op=3∨i.op=4)) (h2:1≤i.op∧i.op≤8):asks i=[i.a]:=by unfold asks;rw [if_neg h,if_pos h2]
theorem QG4 (k:Nat) (o t a b c regs:Int):run (k+4) 50 [aI o t a b c,ii regs]=some (bb (mayM ⟨o,t,a,b,c⟩ regs)):=by
 rw[run,ev50,Qaq]
 simp only[Tryd.f50,aI,ii,bb,EVb,QaN,seval,FACTS,TYPES,QB8,QmA,QeJ]
 repeat' (split<;>simp only [*,EVb,QaN,seval,FACTS,QB8,QmA,QeJ])
 all_goals first
  | (simp [mayM,two, *] at *;omega)
  | (simp [mayM,two, *] at *;done)
  | skip
 ·rw[Qdc (i:=⟨o,t,a,b,c⟩) (by simp [two] at *;simp [*])]
  simp only[sI,Qal,List.map_cons,List.map_nil,EVb,QaN,seval,FACTS]
  rw[Qai Q8c QCU];rotate_left;rfl;rfl;rfl
  simp only[sI,Qal,List.map_cons,List.map_nil,Qaa,Qag,Qae,Qab,LP,Tryd.f50,EVb,QaN,seval,FACTS]
  repeat' (split<;>simp only [*,sI,Qal,List.map_cons,List.map_nil,Qaa,Qag,Qae,Qab,Option.some_or,Option.none_or,Tryd.f50,EVb,QaN,seval,FACTS])
  all_goals (simp [mayM,two, *] at *;try omega)
 ·rw[QgZ (i:=⟨o,t,a,0,c⟩) (by simp [two] at *;simp [*]) (by simp;omega)]
  simp only[sI,Qal,List.map_cons,List.map_nil,EVb,QaN,seval,FACTS]
  rw[Qai Q8c QCU];rotate_left;rfl;rfl;rfl
  simp only[sI,Qal,List.map_cons,List.map_nil,Qaa,Qag,Qae,Qab,LP,Tryd.f50,EVb,QaN,seval,FACTS]
  repeat' (split<;>simp only [*,sI,Qal,List.map_cons,List.map_nil,Qaa,Qag,Qae,Qab,Option.some_or,Option.none_or,Tryd.f50,EVb,QaN,seval,FACTS])
  all_goals (simp [mayM,two, *] at *;try omega)
abbrev enc1 (i:Ins):List IV:=[.int .i64 i.op,.int .i64 i.to,.int .i64 i.a,.int .i64 i.b,.int .i64 i.c]
def Qak:List Ins→List IV
 | []=>[]
 | i::l=>enc1 i++Qak l
theorem Qaj (l:List Int):(Qal l).length=l.length:=by simp [Qal]
theorem QbL (l m:List Int):Qal (l++m)=Qal l++Qal m:=by simp [Qal]
theorem Qau:∀ (l:List Ins),(Qak l).length=l.length * 5
 | []=>rfl
 | i::l=>by rw [Qak,List.length_append,Qau l];simp;omega
theorem Qbv:∀ (l m:List Ins),Qak (l++m)=Qak l++Qak m
 | [],m=>rfl
 | i::l,m=>by rw [List.cons_append,Qak,Qak,Qbv l m,List.append_assoc]
theorem QaT {l:List Int} {i:Nat} (h:i<l.length):(Qal l)[i]?=some (.int .i64 l[i]):=by
 simp[Qal,h]
theorem Qfk:∀ (l:List Ins) (i:Nat),(Qak l).drop (i * 5)=Qak (l.drop i)
 | [],i=>by simp [Qak]
 | x::l,0=>by simp
 | x::l,i+1=>by
  rw[Qak,List.drop_succ_cons,← Qfk l i,show (i+1) * 5=(enc1 x).length+i * 5 by simp;omega,List.drop_append]
  simp
theorem Qbg {l:List Ins} {i:Nat} (h:i<l.length):(if i * 5+5≤(Qak l).length then some (((Qak l).drop (i * 5)).take 5) else none)=some (enc1 l[i]):=by
 rw[Qau,if_pos (by omega),Qfk]
 have:l.drop i=l[i]::l.drop (i+1):=(List.drop_eq_getElem_cons h)
 rw[this,Qak]
 simp
theorem QcK {i n:Nat} (h:i<n) (hn:n≤4611686018427387904):IntKind.wrap .i64 ((i:Int)+1)=((i+1:Nat):Int):=by
 rw[wrap64 (by omega) (by omega)];simp
structure Pg where
 ins:Int
 regs:Int
 code:List Ins
 outs:List Int
 deriving DecidableEq
abbrev sC (code:List Ins) (nl:Bool) (cap:Option Nat):AV:=.c (.slice (Qak code) code.length nl cap)
abbrev aP (p:Pg) (nl:Bool) (cap:Option Nat) (nl2:Bool) (cap2:Option Nat):AV:=.agg [ii p.ins,ii p.regs,sC p.code nl cap,sI p.outs nl2 cap2]
abbrev cP (ins regs:Int) (v ov:AV):AObj:=.cells 25 [ii ins,ii regs,v,ov]
def Qdh (p:Pg):Bool:=decide (1≤p.ins∧p.ins≤p.regs∧p.regs≤128∧p.code.length≤16384∧1≤p.outs.length∧p.outs.length≤128)
def QfV (p:Pg):Bool:=p.outs.all (fun r=>decide (0≤r∧r<p.regs))
def QfT (p:Pg):Bool:=p.code.all (fun i=>mayM i p.regs)
def Qax (p:Pg):Bool:=Qdh p&&QfV p&&QfT p
def QdS (p:Pg):Int:=if Qax p then 0 else 80
section
variable (kf:Nat) (ins regs:Int) (cv ov:AV)
theorem Qs1 (outs:List Int) (nl:Bool) (cap:Option Nat) (hlen:outs.length≤4611686018427387904) (k:Nat) (l:Ass) (H:Heap) (z:Option Out)
  (hz:Qar Tryd.prog tab kf none Q2X 23 72 [1,42,43,44] 1 k l H=z) (hk:outs.length<k)
  (h1:asc l 1=.ptr 0 0) (h42:asc l 42=sI outs nl cap) (h43:asc l 43=ii outs.length) (h44:asc l 44=ii (0:Nat)) (hH:H=[cP ins regs cv ov]) :
  ∃ l',(z=some (.exit 0 (fr 72 l') H)∧asc l' 1=.ptr 0 0∧outs.all (fun r=>decide (0≤r∧r<regs))=true) ∨
   (z=some (.ret (fr 72 l') H)∧asc l' 2=ii (-1)∧asc l' 3=ii 80∧outs.all (fun r=>decide (0≤r∧r<regs))=false):=by
 subst hH
 subst hz
 refine Qa1 outs.length (fun k l H=>Qar Tryd.prog tab kf none Q2X 23 72 [1,42,43,44] 1 k l H)
  (fun i l H=>asc l 1=.ptr 0 0∧asc l 42=sI outs nl cap∧asc l 43=ii outs.length∧asc l 44=ii i∧(∀ j,(h:j<i)→∀ h2:j<outs.length,0≤outs[j]∧outs[j]<regs)∧H=[cP ins regs cv ov])
  (fun z=>∃ l',(z=some (.exit 0 (fr 72 l') [cP ins regs cv ov])∧asc l' 1=.ptr 0 0∧outs.all (fun r=>decide (0≤r∧r<regs))=true) ∨
   (z=some (.ret (fr 72 l') [cP ins regs cv ov])∧asc l' 2=ii (-1)∧asc l' 3=ii 80∧outs.all (fun r=>decide (0≤r∧r<regs))=false)) ?_ outs.length 0 k l _ (by omega) hk ⟨h1,h42,h43,h44,fun j h=>absurd h (by omega),rfl⟩
 clear h1 h42 h43 h44 hk
 rintro i k l H hi ⟨h1,h42,h43,h44,hp,rfl⟩
 by_cases hc:i<outs.length
 ·have hc':((i:Int)<outs.length):=by omega
  have hc0:(0:Int)≤i:=by omega
  have hx:=QaT hc
  have hw:=QcK hc hlen
  have hall:¬ (0≤outs[i]∧outs[i]<regs)→outs.all (fun r=>decide (0≤r∧r<regs))=false:=fun h=>by
   rw[List.all_eq_false];exact ⟨outs[i],List.getElem_mem hc,by simpa using h⟩
  by_cases hr:outs[i]<0
  ·refine .inl ?_
   simp only[h1,h42,h43,h44,hc',hc0,hx,hr,Qaa,Qag,Qae,Qab,LP,Tryd.f23,EVb,EVc,seval,FACTS]
   exact⟨_,.inr ⟨rfl,(by rfl),(by rfl),hall (by omega)⟩⟩
  ·by_cases hr2:regs≤outs[i]
   ·refine .inl ?_
    simp only[h1,h42,h43,h44,hc',hc0,hx,hr,hr2,Qaa,Qag,Qae,Qab,LP,Tryd.f23,EVb,EVc,seval,FACTS]
    exact⟨_,.inr ⟨rfl,(by rfl),(by rfl),hall (by omega)⟩⟩
   ·refine .inr ?_
    simp only[h1,h42,h43,h44,hc',hc0,hx,hr,hr2,hw,Qaa,Qag,Qae,Qab,LP,Tryd.f23,EVb,EVc,seval,FACTS]
    refine⟨_,_,hc,rfl,(by rfl),(by rfl),(by rfl),(by rfl),fun j hj h2=>?_,rfl⟩
    by_cases e:j=i
    ·subst e;omega
    ·exact hp j (by omega) h2
 ·have hc':¬ ((i:Int)<outs.length):=by omega
  refine .inl ?_
  simp only[h1,h42,h43,h44,hc',Qaa,Qag,Qae,Qab,LP,Tryd.f23,EVb,EVc,seval,FACTS]
  refine⟨_,.inl ⟨rfl,(by rfl), ?_⟩⟩
  rw[List.all_eq_true]
  intro x hx
  obtain⟨j,hj,rfl⟩:=List.getElem_of_mem hx
  simpa using hp j (by omega) hj
end
theorem all_of {α:Type} {l:List α} {p:α→Bool} (h:∀ j,(h:j<l.length)→p l[j]=true):l.all p=true:=by
 rw[List.all_eq_true]
 intro x hx
 obtain⟨j,hj,rfl⟩:=List.getElem_of_mem hx
 exact h j hj
theorem Q9L {α:Type} {l:List α} {p:α→Bool} {i:Nat} (h:i<l.length) (hp:p l[i]=false):l.all p=false:=by
 rw[List.all_eq_false];exact ⟨l[i],List.getElem_mem h,by simp [hp]⟩
theorem QrG (kf:Nat) (hkf:4≤kf) (ins regs:Int) (ov:IV) (code:List Ins) (nl:Bool) (cap:Option Nat) (hlen:code.length≤4611686018427387904) (k:Nat) (l:Ass) (H:Heap) (z:Option Out)
  (hz:Qar Tryd.prog tab kf none Qrz 23 72 [1,58,59,60] 1 k l H=z) (hk:code.length<k)
  (h1:asc l 1=.ptr 0 0) (h58:asc l 58=sC code nl cap) (h59:asc l 59=ii code.length) (h60:asc l 60=ii (0:Nat)) (hH:H=[cP ins regs (sC code nl cap) (.c ov)]) :
  ∃ l' H',(z=some (.exit 2 (fr 72 l') H')∧code.all (fun i=>mayM i regs)=true) ∨
   (z=some (.ret (fr 72 l') H')∧(∃ n,asc l' 2=ii n)∧asc l' 3=ii 80∧code.all (fun i=>mayM i regs)=false):=by
 subst hz
 obtain⟨kf,rfl⟩:∃ j,kf=j+4:=⟨kf-4,by omega⟩
 refine Qa1 code.length (fun k l H=>Qar Tryd.prog tab (kf+4) none Qrz 23 72 [1,58,59,60] 1 k l H)
  (fun i l H=>asc l 1=.ptr 0 0∧asc l 58=sC code nl cap∧asc l 59=ii code.length∧asc l 60=ii i∧(∀ j,(h:j<i)→∀ h2:j<code.length,mayM code[j] regs=true)∧H.take 1=[cP ins regs (sC code nl cap) (.c ov)])
  (fun z=>∃ l' H',(z=some (.exit 2 (fr 72 l') H')∧code.all (fun i=>mayM i regs)=true) ∨
   (z=some (.ret (fr 72 l') H')∧(∃ n,asc l' 2=ii n)∧asc l' 3=ii 80∧code.all (fun i=>mayM i regs)=false)) ?_ code.length 0 k l H (by omega) hk ⟨h1,h58,h59,h60,fun j h=>absurd h (by omega),by rw [hH];rfl⟩
 clear h1 h58 h59 h60 hk hH
 rintro i k l H hi ⟨h1,h58,h59,h60,hp,hH⟩
 have ht:trim 1 (fr 72 (keep l [1,58,59,60])) H=[cP ins regs (sC code nl cap) (.c ov)]:=by
  rw[QgE (by simp only [h1,h58,h59,h60,EVb,EVc,seval]) (by rw [hH];simp only [EVb,EVc,seval]),hH]
 by_cases hc:i<code.length
 ·have hc':((i:Int)<code.length):=by omega
  have hc0:(0:Int)≤i:=by omega
  have hx:=Qbg hc
  have hw:=QcK hc hlen
  obtain⟨x,hX⟩:∃ x,x=code[i]:=⟨_,rfl⟩
  rw[← hX] at hx
  have hm:=QG4 kf x.op x.to x.a x.b x.c regs
  simp only[run,aI,ii,bb] at hm
  cases hd:mayM x regs with
  | false =>
   rw[show mayM ⟨x.op,x.to,x.a,x.b,x.c⟩ regs=false from hd] at hm
   refine .inl ?_
   simp only[Qaa,ht]
   simp only[h1,h58,h59,h60,hc',hc0,hx,hm,Qaa,Qag,Qae,Qab,LP,Tryd.f23,FT,seval]
   exact⟨_,_,.inr ⟨rfl,⟨_,rfl⟩,(by rfl),Q9L hc (by rw [← hX];exact hd)⟩⟩
  | true =>
   rw[show mayM ⟨x.op,x.to,x.a,x.b,x.c⟩ regs=true from hd] at hm
   refine .inr ?_
   simp only[Qaa,ht]
   simp only[h1,h58,h59,h60,hc',hc0,hx,hm,hw,Qaa,Qag,Qae,Qab,LP,Tryd.f23,FT,seval]
   refine⟨_,_,hc,rfl,(by rfl),(by rfl),(by rfl),(by rfl),fun j hj h2=>?_,(by rfl)⟩
   by_cases e:j=i
   ·subst e;rw [← hX];exact hd
   ·exact hp j (by omega) h2
 ·have hc':¬ ((i:Int)<code.length):=by omega
  refine .inl ?_
  simp only[Qaa,ht]
  simp only[h1,h58,h59,h60,hc',Qaa,Qag,Qae,Qab,LP,Tryd.f23,FT,seval]
  exact⟨_,_,.inl ⟨rfl,all_of fun j hj=>hp j (by omega) hj⟩⟩
theorem QdR (k:Nat) (p:Pg) (nl:Bool) (cap:Option Nat) (nl2:Bool) (cap2:Option Nat) (hk:p.outs.length+p.code.length+10≤k) :
  ∃ n,run (k+1) 23 [aP p nl cap nl2 cap2]=some (.tup [ii n,ii (QdS p)]):=by
 obtain⟨ins,regs,code,outs⟩:=p
 simp only at hk
 rw[run,ev23,Qaq]
 simp only[Tryd.f23,aP,ii,bb,EVb,QaN,seval,FACTS,TYPES]
 by_cases hm:Qdh ⟨ins,regs,code,outs⟩=true
 ·have hm':=hm
  simp only[Qdh,decide_eq_true_eq] at hm'
  have q1:¬ ins<1:=by omega
  have q2:¬ regs<ins:=by omega
  have q3:¬ 128<regs:=by omega
  have q4:¬ (16384:Int)<code.length:=by omega
  have q5:¬ (outs.length:Int)<1:=by omega
  have q6:¬ (128:Int)<outs.length:=by omega
  simp only[q1,q2,q3,q4,q5,q6,FT,seval]
  rw[Qai Q2X QHK];rotate_left;rfl;rfl;rfl
  generalize hz:Qar _ _ _ _ _ _ _ _ _ _ _ _=z
  obtain⟨l1,⟨rfl,g1,ho⟩ | ⟨rfl,g1,g2,ho⟩⟩:=Qs1 k ins regs (sC code nl cap) (sI outs nl2 cap2) outs nl2 cap2 (by omega) _ _ _ z hz (by omega) (by rfl) (by rfl) (by rfl) (by rfl) (by rfl)
  ·simp only[g1,FT,seval]
   clear hz
   rw[Qai Qrz QEj];rotate_left;rfl;rfl;rfl
   generalize hz:Qar _ _ _ _ _ _ _ _ _ _ _ _=z
   obtain⟨l2,H2,⟨rfl,hc⟩ | ⟨rfl,⟨n,g2⟩,g3,hc⟩⟩:=QrG k (by omega) ins regs (.slice (Qal outs) outs.length nl2 cap2) code nl cap (by omega) _ _ _ z hz (by omega) (by exact g1) (by rfl) (by rfl) (by rfl) (by rfl)
   ·refine⟨0, ?_⟩
    simp only[FT,seval]
    simp[QdS,Qax,hm,show QfV ⟨ins,regs,code,outs⟩=_ from ho,show QfT ⟨ins,regs,code,outs⟩=_ from hc]
   ·refine⟨n, ?_⟩
    simp only[g2,g3,FT,seval]
    simp[QdS,Qax,hm,show QfV ⟨ins,regs,code,outs⟩=_ from ho,show QfT ⟨ins,regs,code,outs⟩=_ from hc]
  ·refine⟨-1, ?_⟩
   simp only[g1,g2,FT,seval]
   simp[QdS,Qax,hm,show QfV ⟨ins,regs,code,outs⟩=_ from ho]
 ·refine⟨-1, ?_⟩
  have hr:QdS ⟨ins,regs,code,outs⟩=80:=by simp [QdS,Qax,hm]
  rw[hr]
  simp only[Qdh,decide_eq_true_eq] at hm
  repeat' (first
  | (rw [QcO];split<;>simp only [*,FT,seval])
  | (rw [QaN];split<;>simp only [*,FT,seval])
  | (split<;>simp only [*,FT,seval]))
  all_goals first
   | rfl
   | (exfalso;omega)
theorem QrB (k:Nat) (p:Pg) (nl:Bool) (cap:Option Nat) (nl2:Bool) (cap2:Option Nat) (hk:p.outs.length+p.code.length+11≤k) :
  run (k+1) 86 [aP p nl cap nl2 cap2]=some (bb (Qax p)):=by
 obtain⟨k,rfl⟩:∃ j,k=j+1:=⟨k-1,by omega⟩
 obtain⟨n,hc⟩:=QdR k p nl cap nl2 cap2 (by omega)
 simp only[run,aP,ii,bb] at hc
 rw[run,ev86,Qaq]
 simp only[Tryd.f86,aP,ii,bb,hc,FT,seval]
 cases hr:Qax p<;>simp [QdS,hr]
def encB (l:List Bool):List IV:=l.map .bool
theorem QaM (l:List Bool):(encB l).length=l.length:=by simp [encB]
theorem Q1e {l:List Bool} {r:Int} (h0:0≤r) (h:r<l.length):(encB l)[r.toNat]?=some (.bool (l.getD r.toNat false)):=by
 have h2:r.toNat<l.length:=by omega
 simp[encB,h2]
theorem Qd0 {l:List Bool} {r:Nat} {b:Bool}:(encB l).set r (.bool b)=encB (l.set r b):=by
 simp[encB,List.map_set]
theorem QjO (n:Nat):(List.replicate n [IV.bool false]).flatten=encB (List.replicate n false):=by
 induction n with
 | zero=>rfl
 | succ n ih=>rw [List.replicate_succ,List.flatten_cons,ih];rfl
def mark (l:List Bool) (b:Bool):List Int→List Bool
 | []=>l
 | r::rs=>mark (l.set r.toNat b) b rs
theorem Qbr (b:Bool):∀ (rs:List Int) (l:List Bool),(mark l b rs).length=l.length
 | [],l=>rfl
 | r::rs,l=>by rw [mark,Qbr b rs];simp
theorem QeI (b:Bool) (r:Int):∀ (rs:List Int) (l:List Bool),mark l b (rs++[r])=(mark l b rs).set r.toNat b
 | [],l=>rfl
 | x::rs,l=>by rw [List.cons_append,mark,QeI b r rs];rfl
def QaP (asked:List Bool):List Ins→List Bool × List Bool
 | []=>(asked,[])
 | i::rest =>
  let r:=QaP asked rest
  if r.1.getD i.to.toNat false=true then (mark (r.1.set i.to.toNat false) true (asks i),true::r.2) else (r.1,false::r.2)
def QbB (regs:Nat) (outs:List Int):List Bool:=mark (List.replicate regs false) true outs
def QaB (p:Pg):List Bool:=(QaP (QbB p.regs.toNat p.outs) p.code).2
abbrev sB (l:List Bool) (nl:Bool) (cap:Option Nat):AV:=.c (.slice (encB l) l.length nl cap)
abbrev rB (l:List Bool):AObj:=.row false 4 (encB l)
theorem Qre (kf:Nat) (pc c64:AObj) (n:Nat) (outs:List Int) (nl:Bool) (cap:Option Nat) (hlen:outs.length≤4611686018427387904) (hr:∀ r ∈ outs,0≤r∧r<n) (as0:List Bool) (ha0:as0.length=n)
  (k:Nat) (l:Ass) (H:Heap) (z:Option Out) (hz:Qar Tryd.prog tab kf none Q2O 44 58 [1,3,15,16,17] 3 k l H=z) (hk:outs.length<k)
  (h1:asc l 1=.ptr 0 0) (h3:asc l 3=.ptr 2 0) (h15:asc l 15=sI outs nl cap) (h16:asc l 16=ii outs.length) (h17:asc l 17=ii (0:Nat)) (hH:H=[pc,rB as0,.cells 73 [.hsl 1 0 n n 1]]) :
  z=some (.exit 0 (fr 58 [(18,bb false),(1,.ptr 0 0),(3,.ptr 2 0),(15,sI outs nl cap),(16,ii outs.length),(17,ii outs.length)]) [pc,rB (mark as0 true outs),.cells 73 [.hsl 1 0 n n 1]]):=by
 subst hH
 subst hz
 refine Qa1 outs.length (fun k l H=>Qar Tryd.prog tab kf none Q2O 44 58 [1,3,15,16,17] 3 k l H)
  (fun i l H=>asc l 1=.ptr 0 0∧asc l 3=.ptr 2 0∧asc l 15=sI outs nl cap∧asc l 16=ii outs.length∧asc l 17=ii i∧H=[pc,rB (mark as0 true (outs.take i)),.cells 73 [.hsl 1 0 n n 1]])
  (fun z=>z=some (.exit 0 (fr 58 [(18,bb false),(1,.ptr 0 0),(3,.ptr 2 0),(15,sI outs nl cap),(16,ii outs.length),(17,ii outs.length)]) [pc,rB (mark as0 true outs),.cells 73 [.hsl 1 0 n n 1]])) ?_ outs.length 0 k l _ (by omega) hk ⟨h1,h3,h15,h16,h17,rfl⟩
 clear h1 h3 h15 h16 h17 hk
 rintro i k l H hi ⟨h1,h3,h15,h16,h17,rfl⟩
 have ht:∀ q:List Bool,trim 3 (fr 58 (keep l [1,3,15,16,17])) [pc,rB q,.cells 73 [.hsl 1 0 n n 1]]=[pc,rB q,.cells 73 [.hsl 1 0 n n 1]]:=fun q=>Qc8 rfl
 by_cases hc:i<outs.length
 ·refine .inr ?_
  have hc':((i:Int)<outs.length):=by omega
  have hc0:(0:Int)≤i:=by omega
  have hx:=QaT hc
  have hw:=QcK hc hlen
  obtain⟨x,hX⟩:∃ x,x=outs[i]:=⟨_,rfl⟩
  rw[← hX] at hx
  obtain⟨x0,x1⟩:=hr x (by rw [hX];exact List.getElem_mem hc)
  have hm:(mark as0 true (outs.take i)).length=n:=by rw [Qbr];exact ha0
  have hnx:mark as0 true (outs.take (i+1))=(mark as0 true (outs.take i)).set x.toNat true:=by rw [List.take_succ_eq_append_getElem hc,QeI,← hX]
  have hxl:x.toNat<n:=by omega
  have hel:(encB (mark as0 true (outs.take i))).length=n:=by rw [QaM,hm]
  simp only[Qaa,ht]
  simp only[h1,h3,h15,h16,h17,hc',hc0,hx,hw,x0,x1,hel,hxl,Qd0,Qaa,Qag,Qae,Qab,LP,Tryd.f44,FT,seval]
  exact⟨_,_,hc,rfl,(by rfl),(by rfl),(by rfl),(by rfl),(by rfl),by rw [hnx]⟩
 ·refine .inl ?_
  have hc':¬ ((i:Int)<outs.length):=by omega
  have he:outs.take i=outs:=List.take_of_length_le (by omega)
  obtain rfl:i=outs.length:=by omega
  simp only[Qaa,ht]
  simp only[h1,h3,h15,h16,h17,hc',he,Qaa,Qag,Qae,Qab,LP,Tryd.f44,FT,seval]
theorem QmG (kf:Nat) (ar:Option Nat) (pc:AObj) (X:Heap) (n:Nat) (rs:List Int) (nl:Bool) (cap:Option Nat) (hlen:rs.length≤4611686018427387904) (hr:∀ r ∈ rs,0≤r∧r<n) (as0:List Bool) (ha0:as0.length=n)
  (k:Nat) (l:Ass) (m:Nat) (z:Option Out) (hz:Qar Tryd.prog tab kf ar Qrl 44 58 [3,47,48,49] m k l (pc::rB as0 :: .cells 73 [.hsl 1 0 n n 1]::X)=z) (hm:X.length+3=m) (hk:rs.length<k)
  (h3:asc l 3=.ptr 2 0) (h47:asc l 47=sI rs nl cap) (h48:asc l 48=ii rs.length) (h49:asc l 49=ii (0:Nat)) :
  z=some (.exit 4 (fr 58 [(50,bb false),(3,.ptr 2 0),(47,sI rs nl cap),(48,ii rs.length),(49,ii rs.length)]) (pc::rB (mark as0 true rs) :: .cells 73 [.hsl 1 0 n n 1]::X)):=by
 subst hz
 refine Qa1 rs.length (fun k l H=>Qar Tryd.prog tab kf ar Qrl 44 58 [3,47,48,49] m k l H)
  (fun i l H=>asc l 3=.ptr 2 0∧asc l 47=sI rs nl cap∧asc l 48=ii rs.length∧asc l 49=ii i∧H=pc::rB (mark as0 true (rs.take i)) :: .cells 73 [.hsl 1 0 n n 1]::X)
  (fun z=>z=some (.exit 4 (fr 58 [(50,bb false),(3,.ptr 2 0),(47,sI rs nl cap),(48,ii rs.length),(49,ii rs.length)]) (pc::rB (mark as0 true rs) :: .cells 73 [.hsl 1 0 n n 1]::X))) ?_ rs.length 0 k l _ (by omega) hk ⟨h3,h47,h48,h49,rfl⟩
 clear h3 h47 h48 h49 hk
 rintro i k l H hi ⟨h3,h47,h48,h49,rfl⟩
 have ht:∀ q:List Bool,trim m (fr 58 (keep l [3,47,48,49])) (pc::rB q :: .cells 73 [.hsl 1 0 n n 1]::X)=pc::rB q :: .cells 73 [.hsl 1 0 n n 1]::X:=fun q=>Qc8 (by simp;omega)
 by_cases hc:i<rs.length
 ·refine .inr ?_
  have hc':((i:Int)<rs.length):=by omega
  have hc0:(0:Int)≤i:=by omega
  have hx:=QaT hc
  have hw:=QcK hc hlen
  obtain⟨x,hX⟩:∃ x,x=rs[i]:=⟨_,rfl⟩
  rw[← hX] at hx
  obtain⟨x0,x1⟩:=hr x (by rw [hX];exact List.getElem_mem hc)
  have hm:(mark as0 true (rs.take i)).length=n:=by rw [Qbr];exact ha0
  have hnx:mark as0 true (rs.take (i+1))=(mark as0 true (rs.take i)).set x.toNat true:=by rw [List.take_succ_eq_append_getElem hc,QeI,← hX]
  have hxl:x.toNat<n:=by omega
  have hel:(encB (mark as0 true (rs.take i))).length=n:=by rw [QaM,hm]
  simp only[Qaa,ht]
  simp only[h3,h47,h48,h49,hc',hc0,hx,hw,x0,x1,hel,hxl,Qd0,Qaa,Qag,Qae,Qab,LP,Tryd.f44,FT,seval]
  exact⟨_,_,hc,rfl,(by rfl),(by rfl),(by rfl),(by rfl),by rw [hnx]⟩
 ·refine .inl ?_
  have hc':¬ ((i:Int)<rs.length):=by omega
  have he:rs.take i=rs:=List.take_of_length_le (by omega)
  obtain rfl:i=rs.length:=by omega
  simp only[Qaa,ht]
  simp only[h3,h47,h48,h49,hc',he,Qaa,Qag,Qae,Qab,LP,Tryd.f44,FT,seval]
theorem QrR (k:Nat) (x y z w:AV) (hx:[x,y,z,w].all AV.isCell=true) (H:Heap):Qav Tryd.prog (Qac tab) (k+1) (.fn 69) [.agg [x,y,z,w]] H=some (.clo 89 [] [.ptr H.length 0],H++[.cells 25 [x,y,z,w]]):=by
 simp only[List.all_cons,List.all_nil,Bool.and_true,Bool.and_eq_true] at hx
 rw[ev69]
 simp only[Tryd.f69,hx,FT,seval]
 rfl
theorem Q4M (k:Nat) (x y z w:AV) (hx:[x,y,z,w].all AV.isCell=true):ans (Qav Tryd.prog (Qac tab) (k+1) (.fn 69) [.agg [x,y,z,w]] [])=none:=by
 rw[QrR k x y z w hx];rfl
theorem Qfz (k:Nat) (x:IV) (H:Heap):Qav Tryd.prog (Qac tab) (k+1) (.fn 90) [.c x] H=some (.clo 109 [] [.ptr H.length 0],H++[.cells 22 [.c x]]):=by
 rw[ev90]
 simp only[Tryd.f90,FT,seval]
 rfl
theorem Qi1 (k:Nat) (x:IV):ans (Qav Tryd.prog (Qac tab) (k+1) (.fn 90) [.c x] [])=none:=by
 rw[Qfz];rfl
theorem Qbn (aq:List Bool):∀ code:List Ins,(QaP aq code).1.length=aq.length∧(QaP aq code).2.length=code.length
 | []=>⟨rfl,rfl⟩
 | i::rest=>by
  obtain⟨h1,h2⟩:=Qbn aq rest
  simp only[QaP]
  split
  ·exact⟨by rw [Qbr];simp [h1],by simp [h2]⟩
  ·exact⟨h1,by simp [h2]⟩
theorem QkJ (i:Nat) (fl:List Bool):(List.replicate (i+1) false++fl).set i true=List.replicate i false++(true::fl):=by
 rw[List.replicate_succ',List.append_assoc,List.set_append_right _ _ (by simp)]
 simp
theorem QzE (i:Nat) (fl:List Bool):List.replicate (i+1) false++fl=List.replicate i false++(false::fl):=by
 rw[List.replicate_succ',List.append_assoc];rfl
noncomputable abbrev hN (x0 x1 x2 x3:IV) (n N:Nat) (cs:IV) (l0 l1:Ass) (aq out:List Bool):Heap :=
 [.cells 25 [.c x0,.c x1,.c x2,.c x3],rB aq,.cells 73 [.hsl 1 0 n n 1],rB out,.cells 73 [.hsl 3 0 N N 1],.cells 25 [.c x0,.c x1,.c x2,.c x3],Qdm #[31,32] Q9E Q6t 44 .ready none (fr 58 l0),.cells 148 [.yld 6],.cells 22 [.c cs],Qdm #[11,12] Qvd QsD 89 .ready none (fr 18 l1)]
theorem QrJ (kf:Nat) (x0 x1 x2 x3:IV) (n:Nat) (code:List Ins) (nl:Bool) (cap:Option Nat) (l0 l1:Ass) (c0:(l0.all fun e=>AV.under 10 e.2)=true) (c1:(l1.all fun e=>AV.under 10 e.2)=true)
  (g3:asc l0 3=.ptr 2 0) (g6:asc l0 6=.ptr 4 0) (g2:asc l1 2=.ptr 7 0) (as0:List Bool) (ha0:as0.length=n) (hcode:∀ i ∈ code,mayM i n=true) (hlen:code.length≤1000000)
  (k:Nat) (l:Ass) (z:Option Out) (hz:Qar Tryd.prog tab (kf+10) none QgC 109 19 [0,1,3] 10 k l (hN x0 x1 x2 x3 n code.length (.slice (Qak code) code.length nl cap) l0 l1 as0 (List.replicate code.length false))=z) (hk:code.length<k)
  (a0:asc l 0=.yld 9) (a1:asc l 1=.ptr 8 0) (a3:asc l 3=ii ((code.length:Int)-1)) :
  ∃ l',z=some (.exit 0 (fr 19 l') (hN x0 x1 x2 x3 n code.length (.slice (Qak code) code.length nl cap) l0 l1 (QaP as0 code).1 (QaP as0 code).2)):=by
 subst hz
 refine Qa1 code.length (fun k l H=>Qar Tryd.prog tab (kf+10) none QgC 109 19 [0,1,3] 10 k l H)
  (fun j l H=>asc l 0=.yld 9∧asc l 1=.ptr 8 0∧asc l 3=ii ((code.length:Int)-j-1) ∧
   H.take 10=hN x0 x1 x2 x3 n code.length (.slice (Qak code) code.length nl cap) l0 l1 (QaP as0 (code.drop (code.length-j))).1 (List.replicate (code.length-j) false++(QaP as0 (code.drop (code.length-j))).2))
  (fun z=>∃ l',z=some (.exit 0 (fr 19 l') (hN x0 x1 x2 x3 n code.length (.slice (Qak code) code.length nl cap) l0 l1 (QaP as0 code).1 (QaP as0 code).2))) ?_ code.length 0 k l _ (by omega) hk
  ⟨a0,a1,by rw [a3];simp,by simp [QaP]⟩
 clear a0 a1 a3 hk
 rintro j k l H hj ⟨a0,a1,a3,hH⟩
 have ht:trim 10 (fr 19 (keep l [0,1,3])) H=hN x0 x1 x2 x3 n code.length (.slice (Qak code) code.length nl cap) l0 l1 (QaP as0 (code.drop (code.length-j))).1 (List.replicate (code.length-j) false++(QaP as0 (code.drop (code.length-j))).2):=by
  rw[QgE (by simp only [a0,a1,a3,EVb,EVc,seval]) (by rw [hH];simp only [c0,c1,EVb,EVc,seval]),hH]
 by_cases hc:j<code.length
 ·refine .inr ?_
  obtain⟨i,hi⟩:∃ i,i+1=code.length-j:=⟨code.length-j-1,by omega⟩
  rw[← hi] at ht
  have hil:i<code.length:=by omega
  obtain⟨x,hX⟩:∃ x,x=code[i]:=⟨_,rfl⟩
  have hd:code.drop i=x::code.drop (i+1):=by rw [hX];exact List.drop_eq_getElem_cons hil
  have hx:=Qbg hil
  rw[← hX] at hx
  have a3':asc l 3=ii (i:Int):=by rw [a3];congr 2;omega
  have hi0:(0:Int)≤i:=by omega
  have hi1:(i:Int)<code.length:=by omega
  have hi2:i<code.length:=by omega
  have hw:IntKind.wrap .i64 ((i:Int)-1)=(code.length:Int)-(j+1:Nat)-1:=by rw [wrap64 (by omega) (by omega)];omega
  have hm:=hcode x (by rw [hX];exact List.getElem_mem hil)
  obtain⟨aq,haq⟩:∃ aq,aq=(QaP as0 (code.drop (i+1))).1:=⟨_,rfl⟩
  obtain⟨fl,hfl⟩:∃ fl,fl=(QaP as0 (code.drop (i+1))).2:=⟨_,rfl⟩
  have hdd:code.drop (code.length-j)=code.drop (i+1):=by rw [hi]
  rw[hi] at ht
  rw[hdd,← hi,← haq,← hfl] at ht
  have haql:aq.length=n:=by rw [haq,(Qbn _ _).1];exact ha0
  have hfll:fl.length+(i+1)=code.length:=by rw [hfl,(Qbn _ _).2];simp;omega
  have hel:(encB aq).length=n:=by rw [QaM,haql]
  have hol:(encB (List.replicate (i+1) false++fl)).length=code.length:=by rw [QaM];simp;omega
  have hm':=hm
  simp only[mayM,Bool.and_eq_true,decide_eq_true_eq] at hm'
  obtain⟨⟨⟨⟨m1,m2,m3,m4,m5⟩,_⟩,m6⟩,m7⟩:=hm'
  have ht2:x.to.toNat<n:=by omega
  have hget:=Q1e (l:=aq) m3 (by rw [haql];exact m4)
  have hnx:code.drop (code.length-(j+1))=x::code.drop (i+1):=by rw [← hd];congr 1;omega
  have hii:code.length-(j+1)=i:=by omega
  have hran:∀ r ∈ asks x,0≤r∧r<(n:Int):=by
   intro r hr
   unfold asks at hr
   split at hr
   ·rename_i h34
    simp only[List.mem_cons,List.not_mem_nil,or_false] at hr
    rcases hr with rfl | rfl
    ·exact m6
    ·exact m7 h34
   ·split at hr
    ·simp only[List.mem_cons,List.not_mem_nil,or_false] at hr
     subst hr
     exact m6
    ·cases hr
  cases hq:aq.getD x.to.toNat false with
  | false =>
   rw[hq] at hget
   have hnew:(QaP as0 (x::code.drop (i+1)))=(aq,false::fl):=by
    simp only[QaP,← haq,← hfl,hq]
    rfl
   simp only[Qaa,ht]
   simp only[a0,a1,a3',hi0,hi1,hx,hw,g3,g6,g2,Qah,Qam,hel,m3,m4,hget,rfAs,rfBd,rfOf,Qay,Qae,Qag,Qaa,Qab,LP,Tryd.f109,Tryd.f89,Tryd.f44,FT,seval]
   refine⟨_,_,hc,rfl,(by rfl),(by rfl),(by rfl), ?_⟩
   rw[hnx,hnew,hii,← QzE]
   rfl
  | true =>
   rw[hq] at hget
   have hnew:(QaP as0 (x::code.drop (i+1)))=(mark (aq.set x.to.toNat false) true (asks x),true::fl):=by
    simp only[QaP,← haq,← hfl,hq]
    rfl
   have hA:=QeJ (kf+7) x.op x.to x.a x.b x.c
   simp only[run,aI,ii,sI] at hA
   have hal:(asks x).length≤2:=by unfold asks;split<;>(try split)<;>simp
   simp only[Qaa,ht]
   simp only[a0,a1,a3',hi0,hi1,hi2,hx,hw,g3,g6,g2,Qah,Qam,hel,hol,ht2,m3,m4,hget,hA,Qd0,QkJ,rfAs,rfBd,rfOf,Qay,Qae,Qag,Qaa,Qab,LP,Tryd.f109,Tryd.f89,Tryd.f44,FT,seval]
   rw[Qai Qrl QDJ];rotate_left;rfl;rfl;rfl
   generalize hz:Qar _ _ _ _ _ _ _ _ _ _ _ _=z
   have h15:=QmG (kf+8) (some 6) _ _ n (asks x) (nlE (asks x)) (cpE (asks x)) (by omega) hran (aq.set x.to.toNat false) (by simp [haql]) _ _ _ z hz (by rfl) (by omega) (by simp only [g3,EVb,EVc,seval]) (by simp only [EVb,EVc,seval]) (by simp only [EVb,EVc,seval]) (by simp only [EVb,EVc,seval])
   rw[h15]
   simp only[EVb,EVc,seval]
   refine⟨_,_,hc,rfl,(by rfl),(by rfl),(by rw [← hw];rfl), ?_⟩
   rw[hnx,hnew,hii]
   dsimp only
   rw[← QkJ]
   rfl
 ·refine .inl ?_
  obtain rfl:j=code.length:=by omega
  have hc':¬ ((0:Int)≤(code.length:Int)-code.length-1):=by omega
  simp only[Nat.sub_self,List.drop_zero,List.replicate_zero,List.nil_append] at ht
  simp only[Qaa,ht]
  simp only[a0,a1,a3,hc',Qaa,Qag,Qae,Qab,LP,Tryd.f109,FT,seval]
  exact⟨_,rfl⟩
theorem Q9O (k n:Nat) (ins:Int) (code:List Ins) (outs:List Int) (nl:Bool) (cap:Option Nat) (nl2:Bool) (cap2:Option Nat) (hk:outs.length+code.length+100≤k) (hr:Qax ⟨ins,n,code,outs⟩=true) :
  run (k+1) 44 [aP ⟨ins,n,code,outs⟩ nl cap nl2 cap2]=some (sB (QaB ⟨ins,n,code,outs⟩) false none):=by
 have hr':=hr
 simp only[Qax,Qdh,Bool.and_eq_true,decide_eq_true_eq] at hr'
 obtain⟨⟨hh,ho⟩,hc⟩:=hr'
 have q1:(0:Int)≤n:=by omega
 have q2:n≤roomBytes:=Nat.le_trans (show n≤128 by omega) (by decide)
 have q3:(0:Int)≤code.length:=by omega
 have q4:code.length≤roomBytes:=Nat.le_trans (show code.length≤16384 by omega) (by decide)
 have hout:∀ r ∈ outs,0≤r∧r<(n:Int):=fun r h=>by have:=List.all_eq_true.1 ho r h;simpa using this
 have hcode:∀ i ∈ code,mayM i n=true:=fun i h=>List.all_eq_true.1 hc i h
 obtain⟨k,rfl⟩:∃ j,k=j+60:=⟨k-60,by omega⟩
 have hbk:=QrR (k+59) (ii ins) (ii n) (sC code nl cap) (sI outs nl2 cap2) rfl
 have hba:=Q4M (k+59) (ii ins) (ii n) (sC code nl cap) (sI outs nl2 cap2) rfl
 have hrt:=QrB (k+58) ⟨ins,n,code,outs⟩ nl cap nl2 cap2 (by simp only;omega)
 have hwr:=Qfz (k+58) (.slice (Qak code) code.length nl cap)
 have hwa:=Qi1 (k+58) (.slice (Qak code) code.length nl cap)
 have hw:IntKind.wrap .i64 ((code.length:Int)-1)=(code.length:Int)-1:=by rw [wrap64 (by omega) (by omega)]
 simp only[run,aP,ii,sC,sI,bb,hr] at hbk hba hrt
 rw[run,ev44,Qaq]
 simp only[Tryd.f44,aP,ii,bb,q1,q2,QjO,FT,seval]
 rw[Qai Q2O QFo];rotate_left;rfl;rfl;rfl
 generalize hz:Qar _ _ _ _ _ _ _ _ _ _ _ _=z
 obtain rfl:=Qre (k+60) _ .dead n outs nl2 cap2 (by omega) hout (List.replicate n false) (by simp) _ _ _ z hz (by omega) (by rfl) (by rfl) (by rfl) (by rfl) (by rfl) (by rfl)
 clear hz
 simp only[q3,q4,QjO,hba,hbk,FT,seval]
 rw[QbI Q9E Q6t];rotate_left;rfl;rfl
 simp only[q3,q4,hba,hbk,ev89,Tryd.f89,hrt,hwa,hwr,FT,seval]
 rw[QbI Qvd QsD];rotate_left;rfl;rfl
 simp only[QF6,Tryd.f109,hw,FT,seval]
 rw[Qai QgC Q7r];rotate_left;rfl;rfl;rfl
 generalize hz:Qar _ _ _ _ _ _ _ _ _ _ _ _=z
 obtain⟨l',rfl⟩:=QrJ (k+48) (.int .i64 ins) (.int .i64 n) (.slice (Qak code) code.length nl cap) (.slice (Qal outs) outs.length nl2 cap2) n code nl cap _ _ (by rfl) (by rfl) (by rfl) (by rfl) (by rfl)
  (QbB n outs) (by simp [QbB,Qbr]) hcode (by omega) _ _ z hz (by omega) (by rfl) (by rfl) (by rfl)
 have hfl:(encB (QaP (QbB n outs) code).2).length=code.length:=by rw [QaM,(Qbn _ _).2]
 have htk:(encB (QaP (QbB n outs) code).2).take code.length=encB (QaP (QbB n outs) code).2:=by rw [← hfl,List.take_length]
 have hnm:QaB ⟨ins,n,code,outs⟩=(QaP (QbB n outs) code).2:=rfl
 simp only[FT,seval]
 rw[hnm]
 simp only[hfl,htk,QaM,FT,seval]
 simp only[Nat.le_refl,if_true,sB,(Qbn _ _).2]
theorem QqL (kf:Nat) (pc r1 c1:AObj) (n:Nat) (outs:List Int) (nl:Bool) (cap:Option Nat) (hlen:outs.length≤4611686018427387904) (hr:∀ r ∈ outs,0≤r∧r<n) (as0:List Bool) (ha0:as0.length=n)
  (k:Nat) (l:Ass) (H:Heap) (z:Option Out) (hz:Qar Tryd.prog tab kf none Q0n 63 62 [1,4,5,23,24,25] 5 k l H=z) (hk:outs.length<k)
  (h1:asc l 1=.ptr 0 0) (h4:asc l 4=.ptr 2 0) (h5:asc l 5=.ptr 4 0) (h23:asc l 23=sI outs nl cap) (h24:asc l 24=ii outs.length) (h25:asc l 25=ii (0:Nat)) (hH:H=[pc,r1,c1,rB as0,.cells 73 [.hsl 3 0 n n 1]]) :
  z=some (.exit 0 (fr 62 [(26,bb false),(1,.ptr 0 0),(4,.ptr 2 0),(5,.ptr 4 0),(23,sI outs nl cap),(24,ii outs.length),(25,ii outs.length)]) [pc,r1,c1,rB (mark as0 true outs),.cells 73 [.hsl 3 0 n n 1]]):=by
 subst hH
 subst hz
 refine Qa1 outs.length (fun k l H=>Qar Tryd.prog tab kf none Q0n 63 62 [1,4,5,23,24,25] 5 k l H)
  (fun i l H=>asc l 1=.ptr 0 0∧asc l 4=.ptr 2 0∧asc l 5=.ptr 4 0∧asc l 23=sI outs nl cap∧asc l 24=ii outs.length∧asc l 25=ii i∧H=[pc,r1,c1,rB (mark as0 true (outs.take i)),.cells 73 [.hsl 3 0 n n 1]])
  (fun z=>z=some (.exit 0 (fr 62 [(26,bb false),(1,.ptr 0 0),(4,.ptr 2 0),(5,.ptr 4 0),(23,sI outs nl cap),(24,ii outs.length),(25,ii outs.length)]) [pc,r1,c1,rB (mark as0 true outs),.cells 73 [.hsl 3 0 n n 1]])) ?_ outs.length 0 k l _ (by omega) hk ⟨h1,h4,h5,h23,h24,h25,rfl⟩
 clear h1 h4 h5 h23 h24 h25 hk
 rintro i k l H hi ⟨h1,h4,h5,h23,h24,h25,rfl⟩
 have ht:∀ q:List Bool,trim 5 (fr 62 (keep l [1,4,5,23,24,25])) [pc,r1,c1,rB q,.cells 73 [.hsl 3 0 n n 1]]=[pc,r1,c1,rB q,.cells 73 [.hsl 3 0 n n 1]]:=fun q=>Qc8 rfl
 by_cases hc:i<outs.length
 ·refine .inr ?_
  have hc':((i:Int)<outs.length):=by omega
  have hc0:(0:Int)≤i:=by omega
  have hx:=QaT hc
  have hw:=QcK hc hlen
  obtain⟨x,hX⟩:∃ x,x=outs[i]:=⟨_,rfl⟩
  rw[← hX] at hx
  obtain⟨x0,x1⟩:=hr x (by rw [hX];exact List.getElem_mem hc)
  have hm:(mark as0 true (outs.take i)).length=n:=by rw [Qbr];exact ha0
  have hnx:mark as0 true (outs.take (i+1))=(mark as0 true (outs.take i)).set x.toNat true:=by rw [List.take_succ_eq_append_getElem hc,QeI,← hX]
  have hxl:x.toNat<n:=by omega
  have hel:(encB (mark as0 true (outs.take i))).length=n:=by rw [QaM,hm]
  simp only[Qaa,ht]
  simp only[h1,h4,h5,h23,h24,h25,hc',hc0,hx,hw,x0,x1,hel,hxl,Qd0,Qaa,Qag,Qae,Qab,LP,Tryd.f63,FT,seval]
  exact⟨_,_,hc,rfl,(by rfl),(by rfl),(by rfl),(by rfl),(by rfl),(by rfl),by rw [hnx]⟩
 ·refine .inl ?_
  have hc':¬ ((i:Int)<outs.length):=by omega
  have he:outs.take i=outs:=List.take_of_length_le (by omega)
  obtain rfl:i=outs.length:=by omega
  simp only[Qaa,ht]
  simp only[h1,h4,h5,h23,h24,h25,hc',he,Qaa,Qag,Qae,Qab,LP,Tryd.f63,FT,seval]
theorem QmH (kf:Nat) (ar:Option Nat) (pc r1 c1:AObj) (X:Heap) (n:Nat) (rs:List Int) (nl:Bool) (cap:Option Nat) (hlen:rs.length≤4611686018427387904) (hr:∀ r ∈ rs,0≤r∧r<n) (as0:List Bool) (ha0:as0.length=n)
  (k:Nat) (l:Ass) (m:Nat) (z:Option Out) (hz:Qar Tryd.prog tab kf ar Qrr 63 62 [5,51,52,53] m k l (pc::r1::c1::rB as0 :: .cells 73 [.hsl 3 0 n n 1]::X)=z) (hm:X.length+5=m) (hk:rs.length<k)
  (h5:asc l 5=.ptr 4 0) (h51:asc l 51=sI rs nl cap) (h52:asc l 52=ii rs.length) (h53:asc l 53=ii (0:Nat)) :
  z=some (.exit 4 (fr 62 [(54,bb false),(5,.ptr 4 0),(51,sI rs nl cap),(52,ii rs.length),(53,ii rs.length)]) (pc::r1::c1::rB (mark as0 true rs) :: .cells 73 [.hsl 3 0 n n 1]::X)):=by
 subst hz
 refine Qa1 rs.length (fun k l H=>Qar Tryd.prog tab kf ar Qrr 63 62 [5,51,52,53] m k l H)
  (fun i l H=>asc l 5=.ptr 4 0∧asc l 51=sI rs nl cap∧asc l 52=ii rs.length∧asc l 53=ii i∧H=pc::r1::c1::rB (mark as0 true (rs.take i)) :: .cells 73 [.hsl 3 0 n n 1]::X)
  (fun z=>z=some (.exit 4 (fr 62 [(54,bb false),(5,.ptr 4 0),(51,sI rs nl cap),(52,ii rs.length),(53,ii rs.length)]) (pc::r1::c1::rB (mark as0 true rs) :: .cells 73 [.hsl 3 0 n n 1]::X))) ?_ rs.length 0 k l _ (by omega) hk ⟨h5,h51,h52,h53,rfl⟩
 clear h5 h51 h52 h53 hk
 rintro i k l H hi ⟨h5,h51,h52,h53,rfl⟩
 have ht:∀ q:List Bool,trim m (fr 62 (keep l [5,51,52,53])) (pc::r1::c1::rB q :: .cells 73 [.hsl 3 0 n n 1]::X)=pc::r1::c1::rB q :: .cells 73 [.hsl 3 0 n n 1]::X:=fun q=>Qc8 (by simp;omega)
 by_cases hc:i<rs.length
 ·refine .inr ?_
  have hc':((i:Int)<rs.length):=by omega
  have hc0:(0:Int)≤i:=by omega
  have hx:=QaT hc
  have hw:=QcK hc hlen
  obtain⟨x,hX⟩:∃ x,x=rs[i]:=⟨_,rfl⟩
  rw[← hX] at hx
  obtain⟨x0,x1⟩:=hr x (by rw [hX];exact List.getElem_mem hc)
  have hm:(mark as0 true (rs.take i)).length=n:=by rw [Qbr];exact ha0
  have hnx:mark as0 true (rs.take (i+1))=(mark as0 true (rs.take i)).set x.toNat true:=by rw [List.take_succ_eq_append_getElem hc,QeI,← hX]
  have hxl:x.toNat<n:=by omega
  have hel:(encB (mark as0 true (rs.take i))).length=n:=by rw [QaM,hm]
  simp only[Qaa,ht]
  simp only[h5,h51,h52,h53,hc',hc0,hx,hw,x0,x1,hel,hxl,Qd0,Qaa,Qag,Qae,Qab,LP,Tryd.f63,FT,seval]
  exact⟨_,_,hc,rfl,(by rfl),(by rfl),(by rfl),(by rfl),by rw [hnx]⟩
 ·refine .inl ?_
  have hc':¬ ((i:Int)<rs.length):=by omega
  have he:rs.take i=rs:=List.take_of_length_le (by omega)
  obtain rfl:i=rs.length:=by omega
  simp only[Qaa,ht]
  simp only[h5,h51,h52,h53,hc',he,Qaa,Qag,Qae,Qab,LP,Tryd.f63,FT,seval]
noncomputable abbrev hM (x0 x1 x2 x3:IV) (n N:Nat) (cs:IV) (l0 l1:Ass) (aq out:List Bool):Heap :=
 [.cells 25 [.c x0,.c x1,.c x2,.c x3],rB out,.cells 73 [.hsl 1 0 N N 1],rB aq,.cells 73 [.hsl 3 0 n n 1],.cells 25 [.c x0,.c x1,.c x2,.c x3],Qdm #[35,36] Qzf Qyc 63 .ready none (fr 62 l0),.cells 148 [.yld 6],.cells 22 [.c cs],Qdm #[11,12] Qvd QsD 89 .ready none (fr 18 l1)]
theorem QrA (kf:Nat) (x0 x1 x2 x3:IV) (n:Nat) (code:List Ins) (nl:Bool) (cap:Option Nat) (l0 l1:Ass) (c0:(l0.all fun e=>AV.under 10 e.2)=true) (c1:(l1.all fun e=>AV.under 10 e.2)=true)
  (g3:asc l0 4=.ptr 2 0) (g6:asc l0 5=.ptr 4 0) (g2:asc l1 2=.ptr 7 0) (as0:List Bool) (ha0:as0.length=n) (hcode:∀ i ∈ code,mayM i n=true) (hlen:code.length≤1000000)
  (k:Nat) (l:Ass) (z:Option Out) (hz:Qar Tryd.prog tab (kf+10) none QgC 109 19 [0,1,3] 10 k l (hM x0 x1 x2 x3 n code.length (.slice (Qak code) code.length nl cap) l0 l1 as0 (List.replicate code.length false))=z) (hk:code.length<k)
  (a0:asc l 0=.yld 9) (a1:asc l 1=.ptr 8 0) (a3:asc l 3=ii ((code.length:Int)-1)) :
  ∃ l',z=some (.exit 0 (fr 19 l') (hM x0 x1 x2 x3 n code.length (.slice (Qak code) code.length nl cap) l0 l1 (QaP as0 code).1 (QaP as0 code).2)):=by
 subst hz
 refine Qa1 code.length (fun k l H=>Qar Tryd.prog tab (kf+10) none QgC 109 19 [0,1,3] 10 k l H)
  (fun j l H=>asc l 0=.yld 9∧asc l 1=.ptr 8 0∧asc l 3=ii ((code.length:Int)-j-1) ∧
   H.take 10=hM x0 x1 x2 x3 n code.length (.slice (Qak code) code.length nl cap) l0 l1 (QaP as0 (code.drop (code.length-j))).1 (List.replicate (code.length-j) false++(QaP as0 (code.drop (code.length-j))).2))
  (fun z=>∃ l',z=some (.exit 0 (fr 19 l') (hM x0 x1 x2 x3 n code.length (.slice (Qak code) code.length nl cap) l0 l1 (QaP as0 code).1 (QaP as0 code).2))) ?_ code.length 0 k l _ (by omega) hk
  ⟨a0,a1,by rw [a3];simp,by simp [QaP]⟩
 clear a0 a1 a3 hk
 rintro j k l H hj ⟨a0,a1,a3,hH⟩
 have ht:trim 10 (fr 19 (keep l [0,1,3])) H=hM x0 x1 x2 x3 n code.length (.slice (Qak code) code.length nl cap) l0 l1 (QaP as0 (code.drop (code.length-j))).1 (List.replicate (code.length-j) false++(QaP as0 (code.drop (code.length-j))).2):=by
  rw[QgE (by simp only [a0,a1,a3,EVb,EVc,seval]) (by rw [hH];simp only [c0,c1,EVb,EVc,seval]),hH]
 by_cases hc:j<code.length
 ·refine .inr ?_
  obtain⟨i,hi⟩:∃ i,i+1=code.length-j:=⟨code.length-j-1,by omega⟩
  rw[← hi] at ht
  have hil:i<code.length:=by omega
  obtain⟨x,hX⟩:∃ x,x=code[i]:=⟨_,rfl⟩
  have hd:code.drop i=x::code.drop (i+1):=by rw [hX];exact List.drop_eq_getElem_cons hil
  have hx:=Qbg hil
  rw[← hX] at hx
  have a3':asc l 3=ii (i:Int):=by rw [a3];congr 2;omega
  have hi0:(0:Int)≤i:=by omega
  have hi1:(i:Int)<code.length:=by omega
  have hi2:i<code.length:=by omega
  have hw:IntKind.wrap .i64 ((i:Int)-1)=(code.length:Int)-(j+1:Nat)-1:=by rw [wrap64 (by omega) (by omega)];omega
  have hm:=hcode x (by rw [hX];exact List.getElem_mem hil)
  obtain⟨aq,haq⟩:∃ aq,aq=(QaP as0 (code.drop (i+1))).1:=⟨_,rfl⟩
  obtain⟨fl,hfl⟩:∃ fl,fl=(QaP as0 (code.drop (i+1))).2:=⟨_,rfl⟩
  have hdd:code.drop (code.length-j)=code.drop (i+1):=by rw [hi]
  rw[hi] at ht
  rw[hdd,← hi,← haq,← hfl] at ht
  have haql:aq.length=n:=by rw [haq,(Qbn _ _).1];exact ha0
  have hfll:fl.length+(i+1)=code.length:=by rw [hfl,(Qbn _ _).2];simp;omega
  have hel:(encB aq).length=n:=by rw [QaM,haql]
  have hol:(encB (List.replicate (i+1) false++fl)).length=code.length:=by rw [QaM];simp;omega
  have hm':=hm
  simp only[mayM,Bool.and_eq_true,decide_eq_true_eq] at hm'
  obtain⟨⟨⟨⟨m1,m2,m3,m4,m5⟩,_⟩,m6⟩,m7⟩:=hm'
  have ht2:x.to.toNat<n:=by omega
  have hget:=Q1e (l:=aq) m3 (by rw [haql];exact m4)
  have hnx:code.drop (code.length-(j+1))=x::code.drop (i+1):=by rw [← hd];congr 1;omega
  have hii:code.length-(j+1)=i:=by omega
  have hran:∀ r ∈ asks x,0≤r∧r<(n:Int):=by
   intro r hr
   unfold asks at hr
   split at hr
   ·rename_i h34
    simp only[List.mem_cons,List.not_mem_nil,or_false] at hr
    rcases hr with rfl | rfl
    ·exact m6
    ·exact m7 h34
   ·split at hr
    ·simp only[List.mem_cons,List.not_mem_nil,or_false] at hr
     subst hr
     exact m6
    ·cases hr
  cases hq:aq.getD x.to.toNat false with
  | false =>
   rw[hq] at hget
   have hnew:(QaP as0 (x::code.drop (i+1)))=(aq,false::fl):=by
    simp only[QaP,← haq,← hfl,hq]
    rfl
   simp only[Qaa,ht]
   simp only[a0,a1,a3',hi0,hi1,hx,hw,g3,g6,g2,Qah,Qam,hel,m3,m4,hget,rfAs,rfBd,rfOf,Qay,Qae,Qag,Qaa,Qab,LP,Tryd.f109,Tryd.f89,Tryd.f63,FT,seval]
   refine⟨_,_,hc,rfl,(by rfl),(by rfl),(by rfl), ?_⟩
   rw[hnx,hnew,hii,← QzE]
   rfl
  | true =>
   rw[hq] at hget
   have hnew:(QaP as0 (x::code.drop (i+1)))=(mark (aq.set x.to.toNat false) true (asks x),true::fl):=by
    simp only[QaP,← haq,← hfl,hq]
    rfl
   have hA:=QeJ (kf+7) x.op x.to x.a x.b x.c
   simp only[run,aI,ii,sI] at hA
   have hal:(asks x).length≤2:=by unfold asks;split<;>(try split)<;>simp
   simp only[Qaa,ht]
   simp only[a0,a1,a3',hi0,hi1,hi2,hx,hw,g3,g6,g2,Qah,Qam,hel,hol,ht2,m3,m4,hget,hA,Qd0,QkJ,rfAs,rfBd,rfOf,Qay,Qae,Qag,Qaa,Qab,LP,Tryd.f109,Tryd.f89,Tryd.f63,FT,seval]
   rw[Qaf Tryd.f63 14 QEf];rotate_left;rfl
   simp only[a0,a1,a3',hi0,hi1,hi2,hx,hw,g3,g6,g2,Qah,Qam,hel,hol,ht2,m3,m4,hget,hA,Qd0,QkJ,EVd,List.getElem?_nil,Nat.reducePow,Nat.reduceDiv,Nat.reduceMod,rfAs,rfBd,rfOf,Qay,Qae,Qag,Qaa,Qab,LP,Tryd.f109,Tryd.f89,Tryd.f63,FT,seval]
   rw[Qai Qrr QDK];rotate_left;rfl;rfl;rfl
   generalize hz:Qar _ _ _ _ _ _ _ _ _ _ _ _=z
   have h15:=QmH (kf+8) (some 6) _ _ _ _ n (asks x) (nlE (asks x)) (cpE (asks x)) (by omega) hran (aq.set x.to.toNat false) (by simp [haql]) _ _ _ z hz (by rfl) (by omega) (by simp only [g6,EVb,EVc,seval]) (by simp only [EVb,EVc,seval]) (by simp only [EVb,EVc,seval]) (by simp only [EVb,EVc,seval])
   rw[h15]
   simp only[EVb,EVc,seval]
   refine⟨_,_,hc,rfl,(by rfl),(by rfl),(by rw [← hw];rfl), ?_⟩
   rw[hnx,hnew,hii]
   dsimp only
   rw[← QkJ]
   rfl
 ·refine .inl ?_
  obtain rfl:j=code.length:=by omega
  have hc':¬ ((0:Int)≤(code.length:Int)-code.length-1):=by omega
  simp only[Nat.sub_self,List.drop_zero,List.replicate_zero,List.nil_append] at ht
  simp only[Qaa,ht]
  simp only[a0,a1,a3,hc',Qaa,Qag,Qae,Qab,LP,Tryd.f109,FT,seval]
  exact⟨_,rfl⟩
def nothing (i:Ins):Bool:=decide (i.op=1∧i.to=i.a)
theorem Q5r (k:Nat) (o t a b c:Int):run (k+1) 45 [aI o t a b c]=some (bb (nothing ⟨o,t,a,b,c⟩)):=by
 rw[run,ev45,Qaq]
 simp only[Tryd.f45,aI,ii,bb,FT,seval]
 repeat' (first
  | (rw [QcO];split<;>simp only [*,FT,seval])
  | (rw [QaN];split<;>simp only [*,FT,seval])
  | (split<;>simp only [*,FT,seval]))
 all_goals simp [nothing, *]
theorem Qhh (k:Nat) (outs:List Int) (cap:Option Nat) (hl:0<outs.length) (ho:outs.length≤1000000):Qav Tryd.prog (Qac tab) (k+1) (.fn 39) [sI outs false cap] []=some (.hsl 0 0 outs.length outs.length 1,[.row false 3 (Qal outs)]):=by
 have hl2:=Qaj outs
 have hap:∀ o:AObj,apO 3 1 8 none (.hsl 0 0 0 0 1) [.row false 3 []] (some (Qal outs,outs.length))=some (.hsl 0 0 outs.length outs.length 1,[.row false 3 (Qal outs)]):=by
  intro _
  have:=Qma (sl:=none) (e:=3) (sz:=1) (by_:=8) (m:=outs.length) (len:=0) (id:=0) (H:=[.row false 3 []]) (cells:=[]) (cs:=Qal outs) hl (Nat.le_trans (Nat.mul_le_mul_right 8 (show 0+outs.length≤1000000 by omega)) (by decide)) (by omega) rfl rfl
  simpa using this
 have htk:(Qal outs).take outs.length=Qal outs:=by rw [← hl2,List.take_length]
 have hle:outs.length≤outs.length:=by omega
 rw[ev39]
 simp only[Tryd.f39,sI,FT,seval]
 simp only[hap (.dead),hl2,htk,hle,FT,seval]
def Qcs:List Ins→List Bool→List Ins
 | i::c,f::fl=>if (f&&!nothing i)=true then i::Qcs c fl else Qcs c fl
 | _,_=>[]
theorem QnQ:∀ (c:List Ins) (fl:List Bool) (i:Nat) (h:i<c.length) (h2:i<fl.length),Qcs (c.take (i+1)) (fl.take (i+1))=Qcs (c.take i) (fl.take i)++(if (fl[i]&&!nothing c[i])=true then [c[i]] else [])
 | x::c,f::fl,0,_,_=>by simp only [List.take_succ_cons,List.take_zero,Qcs,List.getElem_cons_zero];split<;>simp
 | x::c,f::fl,i+1,h,h2=>by
  have:=QnQ c fl i (by simpa using h) (by simpa using h2)
  simp only[List.take_succ_cons,Qcs,List.getElem_cons_succ] at this ⊢
  split
  ·rw[this,List.cons_append]
  ·exact this
theorem Qha:∀ (c:List Ins) (fl:List Bool),(Qcs c fl).length≤c.length
 | [],_=>by simp [Qcs]
 | x::c,[]=>by simp [Qcs]
 | x::c,f::fl=>by
  have:=Qha c fl
  simp only[Qcs]
  split<;>simp<;>omega
theorem Q93 {l:List Bool} {i:Nat} (h:i<l.length):(encB l)[i]?=some (.bool l[i]):=by
 simp[encB,h]
theorem Qmh (kf:Nat) (hkf:1≤kf) (x0 x1 x3:IV) (c2:AObj) (hc2:AObj.under 3 c2=true) (code:List Ins) (nl:Bool) (cap:Option Nat) (fl:List Bool) (nl2:Bool) (cap2:Option Nat) (hfl:fl.length=code.length) (hlen:code.length≤1000000)
  (k:Nat) (l:Ass) (z:Option Out) (hz:Qar Tryd.prog tab kf none Q3A 18 54 [1,2,6,19,20,21] 3 k l [.slot,.cells 25 [.c x0,.c x1,sC code nl cap,.c x3],c2]=z) (hk:code.length<k)
  (a1:asc l 1=.ptr 1 0) (a2:asc l 2=.ptr 2 0) (a6:asc l 6=.c (.slice [] 0 true (some 0))) (a19:asc l 19=sB fl nl2 cap2) (a20:asc l 20=ii fl.length) (a21:asc l 21=ii (0:Nat)) :
  z=some (.exit 0 (fr 54 [(22,bb false),(1,.ptr 1 0),(2,.ptr 2 0),(6,lv 0 5 (Qcs code fl).length),(19,sB fl nl2 cap2),(20,ii fl.length),(21,ii fl.length)])
   [lo 61 (Qcs code fl).length (Qak (Qcs code fl)),.cells 25 [.c x0,.c x1,sC code nl cap,.c x3],c2]):=by
 subst hz
 obtain⟨kf,rfl⟩:∃ j,kf=j+1:=⟨kf-1,by omega⟩
 refine Qa1 code.length (fun k l H=>Qar Tryd.prog tab (kf+1) none Q3A 18 54 [1,2,6,19,20,21] 3 k l H)
  (fun i l H=>asc l 1=.ptr 1 0∧asc l 2=.ptr 2 0∧asc l 6=lv 0 5 (Qcs (code.take i) (fl.take i)).length∧asc l 19=sB fl nl2 cap2∧asc l 20=ii fl.length∧asc l 21=ii i ∧
   H.take 3=[lo 61 (Qcs (code.take i) (fl.take i)).length (Qak (Qcs (code.take i) (fl.take i))),.cells 25 [.c x0,.c x1,sC code nl cap,.c x3],c2])
  (fun z=>z=some (.exit 0 (fr 54 [(22,bb false),(1,.ptr 1 0),(2,.ptr 2 0),(6,lv 0 5 (Qcs code fl).length),(19,sB fl nl2 cap2),(20,ii fl.length),(21,ii fl.length)])
   [lo 61 (Qcs code fl).length (Qak (Qcs code fl)),.cells 25 [.c x0,.c x1,sC code nl cap,.c x3],c2])) ?_ code.length 0 k l _ (by omega) hk ⟨a1,a2,a6,a19,a20,a21,rfl⟩
 clear a1 a2 a6 a19 a20 a21 hk
 rintro i k l H hi ⟨a1,a2,a6,a19,a20,a21,hH⟩
 have ht:trim 3 (fr 54 (keep l [1,2,6,19,20,21])) H=[lo 61 (Qcs (code.take i) (fl.take i)).length (Qak (Qcs (code.take i) (fl.take i))),.cells 25 [.c x0,.c x1,sC code nl cap,.c x3],c2]:=by
  rw[QgE (by simp only [a1,a2,a6,a19,a20,a21,Bool.or_true,EVb,EVc,seval]) (by rw [hH];simp only [hc2,EVb,EVc,seval]),hH]
 by_cases hc:i<code.length
 ·refine .inr ?_
  have hc2:i<fl.length:=by omega
  have hi0:(0:Int)≤i:=by omega
  have hi1:(i:Int)<fl.length:=by omega
  have hi2:(i:Int)<code.length:=by omega
  have hx:=Qbg hc
  have hb:=Q93 hc2
  have hw:=QcK hc2 (by omega)
  have hkt:=QnQ code fl i hc hc2
  obtain⟨x,hX⟩:∃ x,x=code[i]:=⟨_,rfl⟩
  rw[← hX] at hx hkt
  have hn:=Q5r kf x.op x.to x.a x.b x.c
  simp only[run,aI,ii,bb] at hn
  have hac:(Qcs (code.take i) (fl.take i)).length≤i:=Nat.le_trans (Qha _ _) (by simp;omega)
  obtain⟨acc,hA⟩:∃ acc,acc=Qcs (code.take i) (fl.take i):=⟨_,rfl⟩
  rw[← hA] at hkt hac ht a6
  have hap:∀ X:Heap,apO 61 5 40 (some 0) (lv 0 5 acc.length) (lo 61 acc.length (Qak acc)::X) (some (enc1 x,1))=some (lv 0 5 (acc.length+1),lo 61 (acc.length+1) (Qak acc++enc1 x)::X) :=
   fun X=>QcN (Nat.le_trans (Nat.mul_le_mul_right 40 (show acc.length+1≤1000000 by omega)) (by decide)) (by omega) (Qau acc)
  have hen:Qak acc++enc1 x=Qak (acc++[x]):=by rw [Qbv];simp [Qak]
  cases hf:fl[i] with
  | false =>
   rw[hf] at hb hkt
   simp only[Qaa,ht]
   simp only[a1,a2,a6,a19,a20,a21,hi0,hi1,hi2,hx,hb,hw,Qaa,Qag,Qae,Qab,LP,Tryd.f18,FT,seval]
   refine⟨_,_,hc,rfl,(by rfl),(by rfl), ?_,(by rfl),(by rfl),(by rfl), ?_⟩
   ·rw[hkt];simp;rfl
   ·rw[hkt];simp
  | true =>
   rw[hf] at hb hkt
   cases hno:nothing x with
   | true =>
    rw[show nothing ⟨x.op,x.to,x.a,x.b,x.c⟩=true from hno] at hn
    rw[hno] at hkt
    simp only[Qaa,ht]
    simp only[a1,a2,a6,a19,a20,a21,hi0,hi1,hi2,hx,hb,hw,hn,Qaa,Qag,Qae,Qab,LP,Tryd.f18,FT,seval]
    refine⟨_,_,hc,rfl,(by rfl),(by rfl), ?_,(by rfl),(by rfl),(by rfl), ?_⟩
    ·rw[hkt];simp;rfl
    ·rw[hkt];simp
   | false =>
    rw[show nothing ⟨x.op,x.to,x.a,x.b,x.c⟩=false from hno] at hn
    rw[hno] at hkt
    simp only[Qaa,ht]
    simp only[a1,a2,a6,a19,a20,a21,hi0,hi1,hi2,hx,hb,hw,hn,hap,Qaa,Qag,Qae,Qab,LP,Tryd.f18,FT,seval]
    refine⟨_,_,hc,rfl,(by rfl),(by rfl), ?_,(by rfl),(by rfl),(by rfl), ?_⟩
    ·rw[hkt];simp;rfl
    ·rw[hkt,hen];simp
 ·refine .inl ?_
  obtain rfl:i=code.length:=by omega
  have he:code.take code.length=code:=List.take_length
  have he2:fl.take code.length=fl:=by rw [← hfl];exact List.take_length
  rw[he,he2] at ht a6
  have hc':¬ ((code.length:Int)<fl.length):=by omega
  simp only[Qaa,ht]
  simp only[a1,a2,a6,a19,a20,a21,hc',Qaa,Qag,Qae,Qab,LP,Tryd.f18,FT,seval]
  rw[hfl]
def QeG (p:Pg):Pg:=⟨p.ins,p.regs,Qcs p.code (QaB p),p.outs⟩
theorem Qhs {id off len ext sz:Nat} {fz:Bool} {t:TypeId} {cs:List IV} {H H1:Heap} (h:H1[id]?=some (.row fz t cs)):Qe3 (some (.hsl id off len ext sz,H1)) H=some (.hsl H.length off len ext sz,H++[.row fz t cs]):=by
 simp[Qe3,AV.imp,AV.imp1,AV.imp0,rowsOf,rowAt,h]
 rfl
theorem QvC (k n:Nat) (ins:Int) (code:List Ins) (outs:List Int) (nl:Bool) (cap cap2:Option Nat) (hk:outs.length+code.length+110≤k) (hr:Qax ⟨ins,n,code,outs⟩=true):∃ a b,
  Qav Tryd.prog (Qac tab) (k+1) (.fn 18) [aP ⟨ins,n,code,outs⟩ nl cap false cap2] [] =
   some (.tup [.agg [ii ins,ii n,lv 0 5 (QeG ⟨ins,n,code,outs⟩).code.length,.hsl 3 0 outs.length outs.length 1],ii 0],[lo 61 (QeG ⟨ins,n,code,outs⟩).code.length (Qak (QeG ⟨ins,n,code,outs⟩).code),a,b,.row false 3 (Qal outs)]):=by
 have hr':=hr
 simp only[Qax,Qdh,Bool.and_eq_true,decide_eq_true_eq] at hr'
 obtain⟨⟨hh,ho⟩,hc⟩:=hr'
 obtain⟨k,rfl⟩:∃ j,k=j+1:=⟨k-1,by omega⟩
 obtain⟨cn,hck⟩:=QdR k ⟨ins,n,code,outs⟩ nl cap false cap2 (by simp only;omega)
 have hne:=Q9O k n ins code outs nl cap false cap2 (by omega) hr
 have hcl:=Qhh k outs cap2 (by omega) (by omega)
 have hnl:(QaB ⟨ins,n,code,outs⟩).length=code.length:=(Qbn _ _).2
 have hkp:∀ H,Qe3 (some (AV.hsl 0 0 outs.length outs.length 1,[.row false 3 (Qal outs)])) H=some (.hsl H.length 0 outs.length outs.length 1,H++[.row false 3 (Qal outs)]):=fun H=>Qhs rfl
 simp only[run,aP,ii,bb,sI,sC,sB,QdS,hr] at hck hne hcl
 rw[ev18]
 simp only[Tryd.f18,aP,ii,bb,hck,hne,FT,seval]
 rw[Qai Q3A QFZ];rotate_left;rfl;rfl;rfl
 generalize hz:Qar _ _ _ _ _ _ _ _ _ _ _ _=z
 obtain rfl:=Qmh (k+1) (by omega) (.int .i64 ins) (.int .i64 n) (.slice (Qal outs) outs.length false cap2) _ (by rfl) code nl cap (QaB ⟨ins,n,code,outs⟩) false none hnl (by omega) _ _ z hz (by omega) (by rfl) (by rfl) (by rfl) (by rfl) (by rfl) (by rfl)
 clear hz
 simp only[FT,seval]
 rw[Qaf Tryd.f18 11 QDU];rotate_left;rfl
 simp only[hcl,hkp,Qb8,Qcr,EVd,List.getElem?_nil,Nat.reducePow,Nat.reduceDiv,Nat.reduceMod,FT,seval]
 exact⟨_,_,rfl⟩
theorem Qyw (k n:Nat) (ins:Int) (code:List Ins) (outs:List Int) (nl:Bool) (cap cap2:Option Nat) (hk:outs.length+code.length+110≤k) (hr:Qax ⟨ins,n,code,outs⟩=true) :
  run (k+1) 18 [aP ⟨ins,n,code,outs⟩ nl cap false cap2] =
   some (.tup [aP (QeG ⟨ins,n,code,outs⟩) (nlE (QeG ⟨ins,n,code,outs⟩).code) (cpE (QeG ⟨ins,n,code,outs⟩).code) false none,ii 0]):=by
 obtain⟨a,b,h⟩:=QvC k n ins code outs nl cap cap2 hk hr
 have hq:(Qak (QeG ⟨ins,n,code,outs⟩).code).length=(QeG ⟨ins,n,code,outs⟩).code.length * 5:=Qau _
 have hl2:=Qaj outs
 have htk:(Qal outs).take outs.length=Qal outs:=by rw [← hl2,List.take_length]
 have hle:outs.length≤outs.length:=by omega
 rw[run,h]
 have e1:(QeG ⟨ins,n,code,outs⟩).ins=ins:=rfl
 have e2:(QeG ⟨ins,n,code,outs⟩).regs=n:=rfl
 have e3:(QeG ⟨ins,n,code,outs⟩).outs=outs:=rfl
 by_cases hz:(QeG ⟨ins,n,code,outs⟩).code.length=0
 ·simp only[hq,hl2,htk,hle,hz,e1,e2,e3,aP,ii,EVd,List.getElem?_nil,Nat.reducePow,Nat.reduceDiv,Nat.reduceMod,FT,seval]
  simp[nlE,cpE,sC,sI,hz]
 ·simp only[hq,hl2,htk,hle,hz,e1,e2,e3,aP,ii,EVd,List.getElem?_nil,Nat.reducePow,Nat.reduceDiv,Nat.reduceMod,FT,seval]
  simp[nlE,cpE,sC,sI,hz]
theorem Q7f (k n:Nat) (ins:Int) (code:List Ins) (outs:List Int) (nl:Bool) (cap:Option Nat) (nl2:Bool) (cap2:Option Nat) (hk:outs.length+code.length+100≤k) (hr:Qax ⟨ins,n,code,outs⟩=true) :
  run (k+1) 63 [aP ⟨ins,n,code,outs⟩ nl cap nl2 cap2]=some (.tup [sB (QaB ⟨ins,n,code,outs⟩) false none,ii 0]):=by
 have hr':=hr
 simp only[Qax,Qdh,Bool.and_eq_true,decide_eq_true_eq] at hr'
 obtain⟨⟨hh,ho⟩,hc⟩:=hr'
 have q1:(0:Int)≤n:=by omega
 have q2:n≤roomBytes:=Nat.le_trans (show n≤128 by omega) (by decide)
 have q3:(0:Int)≤code.length:=by omega
 have q4:code.length≤roomBytes:=Nat.le_trans (show code.length≤16384 by omega) (by decide)
 have hout:∀ r ∈ outs,0≤r∧r<(n:Int):=fun r h=>by have:=List.all_eq_true.1 ho r h;simpa using this
 have hcode:∀ i ∈ code,mayM i n=true:=fun i h=>List.all_eq_true.1 hc i h
 obtain⟨k,rfl⟩:∃ j,k=j+60:=⟨k-60,by omega⟩
 have hbk:=QrR (k+59) (ii ins) (ii n) (sC code nl cap) (sI outs nl2 cap2) rfl
 have hba:=Q4M (k+59) (ii ins) (ii n) (sC code nl cap) (sI outs nl2 cap2) rfl
 have hrt:=QrB (k+58) ⟨ins,n,code,outs⟩ nl cap nl2 cap2 (by simp only;omega)
 have hrt0:=QrB (k+59) ⟨ins,n,code,outs⟩ nl cap nl2 cap2 (by simp only;omega)
 have hwr:=Qfz (k+58) (.slice (Qak code) code.length nl cap)
 have hwa:=Qi1 (k+58) (.slice (Qak code) code.length nl cap)
 have hw:IntKind.wrap .i64 ((code.length:Int)-1)=(code.length:Int)-1:=by rw [wrap64 (by omega) (by omega)]
 simp only[run,aP,ii,sC,sI,bb,hr] at hbk hba hrt hrt0
 rw[run,ev63,Qaq]
 simp only[Tryd.f63,aP,ii,bb,q1,q2,q3,q4,hrt0,QjO,FT,seval]
 rw[Qai Q0n QFV];rotate_left;rfl;rfl;rfl
 generalize hz:Qar _ _ _ _ _ _ _ _ _ _ _ _=z
 obtain rfl:=QqL (k+60) _ _ _ n outs nl2 cap2 (by omega) hout (List.replicate n false) (by simp) _ _ _ z hz (by omega) (by rfl) (by rfl) (by rfl) (by rfl) (by rfl) (by rfl) (by rfl)
 clear hz
 simp only[q3,q4,QjO,hba,hbk,FT,seval]
 rw[QbI Qzf Qyc];rotate_left;rfl;rfl
 simp only[q3,q4,hba,hbk,ev89,Tryd.f89,hrt,hwa,hwr,FT,seval]
 rw[QbI Qvd QsD];rotate_left;rfl;rfl
 simp only[QF6,Tryd.f109,hw,FT,seval]
 rw[Qai QgC Q7r];rotate_left;rfl;rfl;rfl
 generalize hz:Qar _ _ _ _ _ _ _ _ _ _ _ _=z
 obtain⟨l',rfl⟩:=QrA (k+48) (.int .i64 ins) (.int .i64 n) (.slice (Qak code) code.length nl cap) (.slice (Qal outs) outs.length nl2 cap2) n code nl cap _ _ (by rfl) (by rfl) (by rfl) (by rfl) (by rfl)
  (QbB n outs) (by simp [QbB,Qbr]) hcode (by omega) _ _ z hz (by omega) (by rfl) (by rfl) (by rfl)
 have hfl:(encB (QaP (QbB n outs) code).2).length=code.length:=by rw [QaM,(Qbn _ _).2]
 have htk:(encB (QaP (QbB n outs) code).2).take code.length=encB (QaP (QbB n outs) code).2:=by rw [← hfl,List.take_length]
 have hnm:QaB ⟨ins,n,code,outs⟩=(QaP (QbB n outs) code).2:=rfl
 simp only[FT,seval]
 rw[hnm]
 simp only[hfl,htk,QaM,Nat.le_refl,sB,(Qbn _ _).2,FT,seval]
theorem Qlm:∀ (c:List Ins) (fl:List Bool) (x:Ins),x ∈ Qcs c fl→x ∈ c
 | [],_,x,h=>by simp [Qcs] at h
 | i::c,[],x,h=>by simp [Qcs] at h
 | i::c,f::fl,x,h=>by
  simp only[Qcs] at h
  split at h
  ·rcases List.mem_cons.1 h with rfl | h
   ·simp
   ·exact List.mem_cons_of_mem _ (Qlm c fl x h)
  ·exact List.mem_cons_of_mem _ (Qlm c fl x h)
theorem Qy4 {p:Pg} (hr:Qax p=true):Qax (QeG p)=true:=by
 simp only[Qax,Bool.and_eq_true] at hr ⊢
 obtain⟨⟨h1,h2⟩,h3⟩:=hr
 refine⟨⟨?_,h2⟩, ?_⟩
 ·have:=Qha p.code (QaB p)
  unfold Qdh at h1 ⊢
  rw[decide_eq_true_eq] at h1 ⊢
  show _∧_∧_∧(Qcs p.code (QaB p)).length≤16384∧_
  exact⟨h1.1,h1.2.1,h1.2.2.1,by have:=h1.2.2.2.1;omega,h1.2.2.2.2⟩
 ·simp only[QfT,QeG,List.all_eq_true] at h3 ⊢
  exact fun x hx=>h3 x (Qlm _ _ x hx)
end Go.Proofs.Sw
