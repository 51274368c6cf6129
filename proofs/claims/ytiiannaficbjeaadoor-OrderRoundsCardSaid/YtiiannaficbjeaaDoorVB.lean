/- A part of the proof: what functions of the program answer; conditions stand in each theorem. -/
import Derived.Test.YtiiannaficbjeaaDoorVA
set_option linter.unusedVariables false
set_option linter.unusedSimpArgs false
set_option linter.unusedSectionVars false
namespace Go.Proofs.Sw
open Go.Ab
variable [Globals]
theorem QDt (k:Nat) (o t a b c regs:Int):run (k+1) 62 [aI o t a b c,ii regs]=some (bb (mayM ⟨o,t,a,b,c⟩ regs)):=by
 rw[run,ev62,Qaq]
 simp only[Tryd.f62,aI,ii,bb,FT,seval]
 repeat' (first
  | (rw [QcO];split<;>simp only [*,FT,seval])
  | (rw [QaN];split<;>simp only [*,FT,seval])
  | (split<;>simp only [*,FT,seval]))
 all_goals first
  | (simp [mayM,constant, *];done)
  | (rw [Option.some.injEq,AV.c.injEq,IV.bool.injEq,Bool.eq_iff_iff];simp [mayM,constant, *];omega)
theorem QqJ (kf:Nat) (ins regs:Int) (cv:AV) (outs:List Int) (nl:Bool) (cap:Option Nat) (hlen:outs.length≤1000000) (k:Nat) (l:Ass) (z:Option Out)
  (hz:Qar Tryd.prog tab kf none Q0U 32 79 [1,4] 1 k l [cP ins regs cv (sI outs nl cap)]=z) (hk:outs.length<k)
  (h1:asc l 1=.ptr 0 0) (h4:asc l 4=ii (0:Nat)) :
  ∃ l',(z=some (.exit 0 (fr 79 l') [cP ins regs cv (sI outs nl cap)])∧asc l' 1=.ptr 0 0∧outs.all (fun r=>decide (0≤r∧r<regs))=true) ∨
   (z=some (.ret (fr 79 l') [cP ins regs cv (sI outs nl cap)])∧(∃ n,asc l' 2=ii n)∧asc l' 3=bb true∧outs.all (fun r=>decide (0≤r∧r<regs))=false):=by
 subst hz
 refine Qa1 outs.length (fun k l H=>Qar Tryd.prog tab kf none Q0U 32 79 [1,4] 1 k l H)
  (fun i l H=>asc l 1=.ptr 0 0∧asc l 4=ii i∧(∀ j,(h:j<i)→∀ h2:j<outs.length,0≤outs[j]∧outs[j]<regs)∧H=[cP ins regs cv (sI outs nl cap)])
  (fun z=>∃ l',(z=some (.exit 0 (fr 79 l') [cP ins regs cv (sI outs nl cap)])∧asc l' 1=.ptr 0 0∧outs.all (fun r=>decide (0≤r∧r<regs))=true) ∨
   (z=some (.ret (fr 79 l') [cP ins regs cv (sI outs nl cap)])∧(∃ n,asc l' 2=ii n)∧asc l' 3=bb true∧outs.all (fun r=>decide (0≤r∧r<regs))=false)) ?_ outs.length 0 k l _ (by omega) hk ⟨h1,h4,fun j h=>absurd h (by omega),rfl⟩
 clear h1 h4 hk
 rintro i k l H hi ⟨h1,h4,hp,rfl⟩
 by_cases hc:i<outs.length
 ·have hc':((i:Int)<outs.length):=by omega
  have hc0:(0:Int)≤i:=by omega
  have hx:=QaT hc
  have hw:=QcK hc (by omega)
  have hall:¬ (0≤outs[i]∧outs[i]<regs)→outs.all (fun r=>decide (0≤r∧r<regs))=false:=fun h=>by
   rw[List.all_eq_false];exact ⟨outs[i],List.getElem_mem hc,by simpa using h⟩
  simp only[h1,h4,hc',hc0,hx,Qaa,Qag,Qae,Qab,LP,Tryd.f32,FT,seval]
  rw[Qaf Tryd.f32 6 QEJ];rotate_left;rfl
  by_cases hr:outs[i]<0
  ·refine .inl ?_
   simp only[hc',hc0,hx,hr,EVd,List.getElem?_nil,Nat.reducePow,Nat.reduceDiv,Nat.reduceMod,FT,seval]
   exact⟨_,.inr ⟨rfl,⟨_,(by rfl)⟩,(by rfl),hall (by omega)⟩⟩
  ·by_cases hr2:regs≤outs[i]
   ·refine .inl ?_
    simp only[hc',hc0,hx,hr,hr2,EVd,List.getElem?_nil,Nat.reducePow,Nat.reduceDiv,Nat.reduceMod,FT,seval]
    exact⟨_,.inr ⟨rfl,⟨_,(by rfl)⟩,(by rfl),hall (by omega)⟩⟩
   ·refine .inr ?_
    simp only[hc',hc0,hx,hr,hr2,hw,EVd,List.getElem?_nil,Nat.reducePow,Nat.reduceDiv,Nat.reduceMod,FT,seval]
    refine⟨_,_,hc,rfl,(by rfl),(by rfl),fun j hj h2=>?_,rfl⟩
    by_cases e:j=i
    ·subst e;omega
    ·exact hp j (by omega) h2
 ·have hc':¬ ((i:Int)<outs.length):=by omega
  refine .inl ?_
  simp only[h1,h4,hc',Qaa,Qag,Qae,Qab,LP,Tryd.f32,FT,seval]
  refine⟨_,.inl ⟨rfl,(by rfl), ?_⟩⟩
  exact all_of fun j hj=>by simpa using hp j (by omega) hj
theorem QrH (kf:Nat) (hkf:1≤kf) (ins regs:Int) (ov:AV) (hov:AV.under 1 ov=true) (code:List Ins) (nl:Bool) (cap:Option Nat) (hlen:code.length≤1000000) (k:Nat) (l:Ass) (z:Option Out)
  (hz:Qar Tryd.prog tab kf none Q1T 32 79 [1,5] 1 k l [cP ins regs (sC code nl cap) ov]=z) (hk:code.length<k)
  (h1:asc l 1=.ptr 0 0) (h5:asc l 5=ii (0:Nat)) :
  ∃ l' H',(z=some (.exit 2 (fr 79 l') H')∧code.all (fun i=>mayM i regs)=true) ∨
   (z=some (.ret (fr 79 l') H')∧(∃ n,asc l' 2=ii n)∧asc l' 3=bb true∧code.all (fun i=>mayM i regs)=false):=by
 subst hz
 obtain⟨kf,rfl⟩:∃ j,kf=j+1:=⟨kf-1,by omega⟩
 refine Qa1 code.length (fun k l H=>Qar Tryd.prog tab (kf+1) none Q1T 32 79 [1,5] 1 k l H)
  (fun i l H=>asc l 1=.ptr 0 0∧asc l 5=ii i∧(∀ j,(h:j<i)→∀ h2:j<code.length,mayM code[j] regs=true)∧H=[cP ins regs (sC code nl cap) ov])
  (fun z=>∃ l' H',(z=some (.exit 2 (fr 79 l') H')∧code.all (fun i=>mayM i regs)=true) ∨
   (z=some (.ret (fr 79 l') H')∧(∃ n,asc l' 2=ii n)∧asc l' 3=bb true∧code.all (fun i=>mayM i regs)=false)) ?_ code.length 0 k l _ (by omega) hk ⟨h1,h5,fun j h=>absurd h (by omega),rfl⟩
 clear h1 h5 hk
 rintro i k l H hi ⟨h1,h5,hp,rfl⟩
 by_cases hc:i<code.length
 ·have hc':((i:Int)<code.length):=by omega
  have hc0:(0:Int)≤i:=by omega
  have hx:=Qbg hc
  have hw:=QcK hc (by omega)
  obtain⟨x,hX⟩:∃ x,x=code[i]:=⟨_,rfl⟩
  rw[← hX] at hx
  have hm:=QDt kf x.op x.to x.a x.b x.c regs
  simp only[run,aI,ii,bb] at hm
  simp only[h1,h5,hc',hc0,hx,Qaa,Qag,Qae,Qab,LP,Tryd.f32,FT,seval]
  rw[Qaf Tryd.f32 11 QD9];rotate_left;rfl
  cases hd:mayM x regs with
  | false =>
   rw[show mayM ⟨x.op,x.to,x.a,x.b,x.c⟩ regs=false from hd] at hm
   refine .inl ?_
   simp only[hc',hc0,hx,hm,EVd,List.getElem?_nil,Nat.reducePow,Nat.reduceDiv,Nat.reduceMod,FT,seval]
   exact⟨_,_,.inr ⟨rfl,⟨_,rfl⟩,(by rfl),Q9L hc (by rw [← hX];exact hd)⟩⟩
  | true =>
   rw[show mayM ⟨x.op,x.to,x.a,x.b,x.c⟩ regs=true from hd] at hm
   refine .inr ?_
   simp only[hc',hc0,hx,hm,hw,EVd,List.getElem?_nil,Nat.reducePow,Nat.reduceDiv,Nat.reduceMod,FT,seval]
   refine⟨_,_,hc,rfl,(by rfl),(by rfl),fun j hj h2=>?_,rfl⟩
   by_cases e:j=i
   ·subst e;rw [← hX];exact hd
   ·exact hp j (by omega) h2
 ·have hc':¬ ((i:Int)<code.length):=by omega
  refine .inl ?_
  simp only[h1,h5,hc',Qaa,Qag,Qae,Qab,LP,Tryd.f32,FT,seval]
  exact⟨_,_,.inl ⟨rfl,all_of fun j hj=>hp j (by omega) hj⟩⟩
theorem Q80 (k:Nat) (p:Pg) (nl:Bool) (cap:Option Nat) (nl2:Bool) (cap2:Option Nat) (hk:p.outs.length+p.code.length+10≤k) :
  ∃ n,run (k+1) 32 [aP p nl cap nl2 cap2]=some (.tup [ii n,bb (!Qax p)]):=by
 obtain⟨ins,regs,code,outs⟩:=p
 simp only at hk
 rw[run,ev32,Qaq]
 simp only[Tryd.f32,aP,ii,bb,FT,seval]
 by_cases hm:Qdh ⟨ins,regs,code,outs⟩=true
 ·have hm':=hm
  simp only[Qdh,decide_eq_true_eq] at hm'
  have q1:¬ ins<1:=by omega
  have q2:¬ regs<ins:=by omega
  have q3:¬ 128<regs:=by omega
  have q4:¬ (16384:Int)<code.length:=by omega
  have q5:¬ (outs.length:Int)<1:=by omega
  have q6:¬ (128:Int)<outs.length:=by omega
  simp only[q1,q2,q3,q4,q5,q6,FT,seval]
  rw[Qai Q0U QEM];rotate_left;rfl;rfl;rfl
  generalize hz:Qar _ _ _ _ _ _ _ _ _ _ _ _=z
  obtain⟨l1,⟨rfl,g1,ho⟩ | ⟨rfl,⟨n,g1⟩,g2,ho⟩⟩:=QqJ k ins regs (sC code nl cap) outs nl2 cap2 (by omega) _ _ z hz (by omega) (by rfl) (by rfl)
  ·simp only[g1,FT,seval]
   clear hz
   rw[Qai Q1T QHB];rotate_left;rfl;rfl;rfl
   generalize hz:Qar _ _ _ _ _ _ _ _ _ _ _ _=z
   obtain⟨l2,H2,⟨rfl,hc⟩ | ⟨rfl,⟨n,g2⟩,g3,hc⟩⟩:=QrH k (by omega) ins regs (sI outs nl2 cap2) (by rfl) code nl cap (by omega) _ _ z hz (by omega) (by exact g1) (by rfl)
   ·refine⟨0, ?_⟩
    simp only[FT,seval]
    simp[Qax,hm,show QfV ⟨ins,regs,code,outs⟩=_ from ho,show QfT ⟨ins,regs,code,outs⟩=_ from hc]
   ·refine⟨n, ?_⟩
    simp only[g2,g3,FT,seval]
    simp[Qax,hm,show QfV ⟨ins,regs,code,outs⟩=_ from ho,show QfT ⟨ins,regs,code,outs⟩=_ from hc]
  ·refine⟨n, ?_⟩
   simp only[g1,g2,FT,seval]
   simp[Qax,hm,show QfV ⟨ins,regs,code,outs⟩=_ from ho]
 ·refine⟨-1, ?_⟩
  have hr:Qax ⟨ins,regs,code,outs⟩=false:=by simp [Qax,hm]
  rw[hr]
  simp only[Qdh,decide_eq_true_eq] at hm
  repeat' (first
  | (rw [QcO];split<;>simp only [*,FT,seval])
  | (rw [QaN];split<;>simp only [*,FT,seval])
  | (split<;>simp only [*,FT,seval]))
  all_goals first
   | rfl
   | (exfalso;omega)
theorem Ql7 (k:Nat) (p:Pg) (nl:Bool) (cap:Option Nat) (nl2:Bool) (cap2:Option Nat) (hk:p.outs.length+p.code.length+11≤k) :
  run (k+1) 11 [aP p nl cap nl2 cap2]=some (bb (Qax p)):=by
 obtain⟨k,rfl⟩:∃ j,k=j+1:=⟨k-1,by omega⟩
 obtain⟨n,hc⟩:=Q80 k p nl cap nl2 cap2 (by omega)
 simp only[run,aP,ii,bb] at hc
 rw[run,ev11,Qaq]
 simp only[Tryd.f11,aP,ii,bb,hc,FT,seval]
 cases hr:Qax p<;>simp
theorem QsV {e:TypeId} {sz by_ m s:Nat} {H:Heap} {cs:List IV} (hb:m * by_≤Go.Ab.roomBytes) (hs:0<sz) (hH:H[s]?=some .slot) (hl:cs.length=m * sz) :
  apO e sz by_ (some s) (.c (.slice [] 0 true (some 0))) H (some (cs,m))=some (lv s sz m,H.set s (lo e m cs)):=by
 rcases Nat.eq_zero_or_pos m with rfl | hm
 ·rw[QBr,Qg1,Qru]
  congr 2
  apply List.ext_getElem?
  intro i
  rw[List.getElem?_set]
  split
  ·rename_i e;subst e;split
   ·exact hH
   ·rename_i hlt;rw [List.getElem?_eq_none (by omega)]
  ·rfl
 ·have:=Qgq (e:=e) (sz:=sz) (by_:=by_) (m:=m) (n:=0) (s:=s) (H:=H) (cells:=[]) (cs:=cs) hm (by rw [Nat.zero_add];exact hb) hs hH (by simp)
  rw[Nat.zero_add,List.nil_append,Qg1] at this
  exact this
theorem QB0 (k:Nat) (p:Pg) (a1 a2:Bool) (c1 c2:Option Nat) (hl:p.code.length * 40≤roomBytes) (hl2:p.outs.length * 8≤roomBytes) :
  run (k+1) 13 [aP p a1 c1 a2 c2]=some (aP p (nlE p.code) (cpE p.code) (nlE p.outs) (cpE p.outs)):=by
 obtain⟨ins,regs,code,outs⟩:=p
 simp only at hl hl2
 rw[run,ev13,Qaq]
 simp only[Tryd.f13,aP,ii,bb,FT,seval]
 have hq:=Qau code
 have hq2:=Qaj outs
 have h1:∀ b c d e:AObj,apO 61 5 40 (some 0) (.c (.slice [] 0 true (some 0))) [.slot,b,c,d,e] (some (Qak code,code.length))=some (lv 0 5 code.length,[lo 61 code.length (Qak code),b,c,d,e]) :=
  fun _ _ _ _=>QsV hl (by decide) rfl hq
 have h2:∀ a c d e:AObj,apO 3 1 8 (some 1) (.c (.slice [] 0 true (some 0))) [a,.slot,c,d,e] (some (Qal outs,outs.length))=some (lv 1 1 outs.length,[a,lo 3 outs.length (Qal outs),c,d,e]) :=
  fun _ _ _ _=>QsV hl2 (by decide) rfl (by rw [hq2,Nat.mul_one])
 simp only[hq,hq2,h1,h2,FT,seval]
 rcases Nat.eq_zero_or_pos code.length with hz | hz
 ·rcases Nat.eq_zero_or_pos outs.length with hz2 | hz2
  ·simp[hq,hq2,hz,hz2,nlE,cpE,sC,sI,FT,seval]
  ·have:outs.length≠0:=by omega
   simp[hq,hq2,hz,this,nlE,cpE,sC,sI,FT,seval]
 ·have:code.length≠0:=by omega
  rcases Nat.eq_zero_or_pos outs.length with hz2 | hz2
  ·simp[hq,hq2,this,hz2,nlE,cpE,sC,sI,FT,seval]
  ·have h2:outs.length≠0:=by omega
   simp[hq,hq2,this,h2,nlE,cpE,sC,sI,FT,seval]
theorem insB (x y:Ins):((x.op == y.op)&&((x.to == y.to)&&((x.a == y.a)&&((x.b == y.b)&&(x.c == y.c)))))=decide (x=y):=by
 obtain⟨a,b,c,d,e⟩:=x
 obtain⟨a',b',c',d',e'⟩:=y
 rw[Bool.eq_iff_iff]
 simp
theorem QdZ {α:Type} {xs ys:List α} {i:Nat} (h1:i<xs.length) (h2:i<ys.length) (h:xs.take i=ys.take i) (he:xs[i]=ys[i]):xs.take (i+1)=ys.take (i+1):=by
 rw[List.take_succ_eq_append_getElem h1,List.take_succ_eq_append_getElem h2,h,he]
theorem QEk (kf:Nat) (xs ys:List Int) (nl nl2:Bool) (cap cap2:Option Nat) (hAB:xs.length=ys.length) (hl:xs.length≤1000000) (k:Nat) (l:Ass) (z:Option Out) (hz:Qar Tryd.prog tab kf none QzP 27 26 [0,1,12,13] 0 k l ([])=z) (hk:xs.length<k) (a0:asc l 0=sI xs nl cap) (a1:asc l 1=sI ys nl2 cap2) (a12:asc l 12=ii xs.length) (a13:asc l 13=ii 0) :
  ∃ (l':Ass) (H:Heap),(z=some (.exit 0 (fr 26 l') H)∧xs=ys)∨(z=some (.ret (fr 26 l') H)∧xs≠ys∧asc l' 4=bb false):=by
 subst hz
 refine Qa1 xs.length (fun k l H=>Qar Tryd.prog tab kf none QzP 27 26 [0,1,12,13] 0 k l H)
  (fun i l H=>asc l 0=sI xs nl cap∧asc l 1=sI ys nl2 cap2∧asc l 12=ii xs.length∧asc l 13=ii i∧(xs.take i=ys.take i)∧∃ G,H=([])++G)
  (fun z=>∃ (l':Ass) (H:Heap),(z=some (.exit 0 (fr 26 l') H)∧xs=ys)∨(z=some (.ret (fr 26 l') H)∧xs≠ys∧asc l' 4=bb false)) ?_ xs.length 0 k l _ (by omega) hk ⟨a0,a1,a12,a13,rfl,[],by rw [List.append_nil]⟩
 clear hk a0 a1 a12 a13
 rintro i k l H hi ⟨a0,a1,a12,a13,hp,G,rfl⟩
 have ht:trim 0 (fr 26 (keep l [0,1,12,13])) (([])++H)=([]):=Qa4 (by simp) (by simp only [a0,a1,a12,a13,EVb,EVc,seval]) (by simp only [EVb,EVc,seval])
 by_cases hc:i<xs.length
 ·have hc':(i:Int)<((xs.length:Nat):Int):=by omega
  have hc0:(0:Int)≤i:=by omega
  have hw:IntKind.wrap .i64 ((i:Int)+1)=((i+1:Nat):Int):=by rw [wrap64 (by omega) (by omega)];omega
  have hcB:i<ys.length:=by omega
  have hx:=QaT hc
  have hy:=QaT hcB
  have hiB:(i:Int)<ys.length:=by omega
  have hela:=Qaj xs
  have helb:=Qaj ys
  by_cases he:xs[i]=ys[i]
  ·have hsn:=QdZ hc hcB hp he
   rw[he] at hx
   simp only[Qaa,ht]
   simp only[a0,a1,a12,a13,hc',hc0,hw,hx,hy,hiB,Qaa,Qag,Qae,Qab,LP,Tryd.f27,FT,seval]
   rw[Qaf Tryd.f27 6 QCF];rotate_left;rfl
   simp only[a0,a1,a12,a13,hc',hc0,hw,hx,hy,hiB,EVd,List.getElem?_nil,Nat.reducePow,Nat.reduceDiv,Nat.reduceMod,FT,seval]
   exact .inr ⟨_,_,hc,rfl,(by rfl),(by rfl),(by rfl),(by rfl),hsn,⟨_,by rfl⟩⟩
  ·refine .inl ?_
   simp only[Qaa,ht]
   simp only[a0,a1,a12,a13,hc',hc0,hw,hx,hy,hiB,he,Qaa,Qag,Qae,Qab,LP,Tryd.f27,FT,seval]
   rw[Qaf Tryd.f27 6 QCF];rotate_left;rfl
   simp only[a0,a1,a12,a13,hc',hc0,hw,hx,hy,hiB,he,EVd,List.getElem?_nil,Nat.reducePow,Nat.reduceDiv,Nat.reduceMod,FT,seval]
   exact⟨_,_,.inr ⟨rfl,fun e=>he (by subst e;rfl),(by rfl)⟩⟩
 ·refine .inl ?_
  obtain rfl:i=xs.length:=by omega
  have hc':¬ (((xs.length:Nat):Int)<((xs.length:Nat):Int)):=by omega
  rw[List.take_of_length_le (by omega),List.take_of_length_le (by omega)] at hp
  simp only[Qaa,ht]
  simp only[a0,a1,a12,a13,hc',Qaa,Qag,Qae,Qab,LP,Tryd.f27,FT,seval]
  exact⟨_,_,.inl ⟨rfl,hp⟩⟩
theorem QE0 (kf:Nat) (xs ys:List Ins) (nl nl2:Bool) (cap cap2:Option Nat) (hAB:xs.length=ys.length) (hl:xs.length≤1000000) (k:Nat) (l:Ass) (z:Option Out) (hz:Qar Tryd.prog tab kf none Q3O 61 26 [0,1,12,13] 0 k l ([])=z) (hk:xs.length<k) (a0:asc l 0=sC xs nl cap) (a1:asc l 1=sC ys nl2 cap2) (a12:asc l 12=ii xs.length) (a13:asc l 13=ii 0) :
  ∃ (l':Ass) (H:Heap),(z=some (.exit 0 (fr 26 l') H)∧xs=ys)∨(z=some (.ret (fr 26 l') H)∧xs≠ys∧asc l' 4=bb false):=by
 subst hz
 refine Qa1 xs.length (fun k l H=>Qar Tryd.prog tab kf none Q3O 61 26 [0,1,12,13] 0 k l H)
  (fun i l H=>asc l 0=sC xs nl cap∧asc l 1=sC ys nl2 cap2∧asc l 12=ii xs.length∧asc l 13=ii i∧(xs.take i=ys.take i)∧∃ G,H=([])++G)
  (fun z=>∃ (l':Ass) (H:Heap),(z=some (.exit 0 (fr 26 l') H)∧xs=ys)∨(z=some (.ret (fr 26 l') H)∧xs≠ys∧asc l' 4=bb false)) ?_ xs.length 0 k l _ (by omega) hk ⟨a0,a1,a12,a13,rfl,[],by rw [List.append_nil]⟩
 clear hk a0 a1 a12 a13
 rintro i k l H hi ⟨a0,a1,a12,a13,hp,G,rfl⟩
 have ht:trim 0 (fr 26 (keep l [0,1,12,13])) (([])++H)=([]):=Qa4 (by simp) (by simp only [a0,a1,a12,a13,EVb,EVc,seval]) (by simp only [EVb,EVc,seval])
 by_cases hc:i<xs.length
 ·have hc':(i:Int)<((xs.length:Nat):Int):=by omega
  have hc0:(0:Int)≤i:=by omega
  have hw:IntKind.wrap .i64 ((i:Int)+1)=((i+1:Nat):Int):=by rw [wrap64 (by omega) (by omega)];omega
  have hcB:i<ys.length:=by omega
  have hx:=Qbg hc
  have hy:=Qbg hcB
  have hiB:(i:Int)<ys.length:=by omega
  have hela:=Qau xs
  have helb:=Qau ys
  have hbb:=insB xs[i] ys[i]
  by_cases he:xs[i]=ys[i]
  ·have hsn:=QdZ hc hcB hp he
   rw[decide_eq_true he] at hbb
   simp only[Qaa,ht]
   simp only[a0,a1,a12,a13,hc',hc0,hw,hx,hy,hiB,Qaa,Qag,Qae,Qab,LP,Tryd.f61,FT,seval]
   rw[Qaf Tryd.f61 6 QBG];rotate_left;rfl
   simp only[a0,a1,a12,a13,hc',hc0,hw,hx,hy,hiB,hbb,EVd,List.getElem?_nil,Nat.reducePow,Nat.reduceDiv,Nat.reduceMod,FT,seval]
   exact .inr ⟨_,_,hc,rfl,(by rfl),(by rfl),(by rfl),(by rfl),hsn,⟨_,by rfl⟩⟩
  ·refine .inl ?_
   rw[decide_eq_false he] at hbb
   simp only[Qaa,ht]
   simp only[a0,a1,a12,a13,hc',hc0,hw,hx,hy,hiB,Qaa,Qag,Qae,Qab,LP,Tryd.f61,FT,seval]
   rw[Qaf Tryd.f61 6 QBG];rotate_left;rfl
   simp only[a0,a1,a12,a13,hc',hc0,hw,hx,hy,hiB,hbb,EVd,List.getElem?_nil,Nat.reducePow,Nat.reduceDiv,Nat.reduceMod,FT,seval]
   exact⟨_,_,.inr ⟨rfl,fun e=>he (by subst e;rfl),(by rfl)⟩⟩
 ·refine .inl ?_
  obtain rfl:i=xs.length:=by omega
  have hc':¬ (((xs.length:Nat):Int)<((xs.length:Nat):Int)):=by omega
  rw[List.take_of_length_le (by omega),List.take_of_length_le (by omega)] at hp
  simp only[Qaa,ht]
  simp only[a0,a1,a12,a13,hc',Qaa,Qag,Qae,Qab,LP,Tryd.f61,FT,seval]
  exact⟨_,_,.inl ⟨rfl,hp⟩⟩
theorem Q5P (k:Nat) (xs ys:List Int) (nl nl2:Bool) (cap cap2:Option Nat) (hl:xs.length≤1000000) (hk:xs.length+2≤k):run (k+1) 27 [sI xs nl cap,sI ys nl2 cap2]=some (bb (decide (xs=ys))):=by
 by_cases hAB:xs.length=ys.length
 ·have hAB':(xs.length:Int)=ys.length:=by omega
  rw[run,ev27,Qaq]
  simp only[Tryd.f27,bb,hAB',FT,seval]
  rw[Qai QzP QGT];rotate_left;rfl;rfl;rfl
  generalize hz:Qar _ _ _ _ _ _ _ _ _ _ _ _=z
  obtain⟨l',H',⟨rfl,he⟩ | ⟨rfl,he,e4⟩⟩:=QEk k xs ys nl nl2 cap cap2 hAB hl _ _ z hz (by omega) (by rfl) (by rfl) (by simp only [hAB'];rfl) (by rfl)
  ·clear hz
   subst he
   simp only[decide_true,FT,seval]
  ·clear hz
   rw[decide_eq_false he]
   simp only[e4,FT,seval]
 ·have hne:xs≠ys:=fun e=>hAB (by rw [e])
  have hAB':¬ (xs.length:Int)=ys.length:=by omega
  rw[decide_eq_false hne]
  rw[run,ev27,Qaq]
  simp only[Tryd.f27,bb,hAB',FT,seval]
theorem QwU (k:Nat) (xs ys:List Ins) (nl nl2:Bool) (cap cap2:Option Nat) (hl:xs.length≤1000000) (hk:xs.length+2≤k):run (k+1) 61 [sC xs nl cap,sC ys nl2 cap2]=some (bb (decide (xs=ys))):=by
 by_cases hAB:xs.length=ys.length
 ·have hAB':(xs.length:Int)=ys.length:=by omega
  rw[run,ev61,Qaq]
  simp only[Tryd.f61,bb,hAB',FT,seval]
  rw[Qai Q3O QHJ];rotate_left;rfl;rfl;rfl
  generalize hz:Qar _ _ _ _ _ _ _ _ _ _ _ _=z
  obtain⟨l',H',⟨rfl,he⟩ | ⟨rfl,he,e4⟩⟩:=QE0 k xs ys nl nl2 cap cap2 hAB hl _ _ z hz (by omega) (by rfl) (by rfl) (by simp only [hAB'];rfl) (by rfl)
  ·clear hz
   subst he
   simp only[decide_true,FT,seval]
  ·clear hz
   rw[decide_eq_false he]
   simp only[e4,FT,seval]
 ·have hne:xs≠ys:=fun e=>hAB (by rw [e])
  have hAB':¬ (xs.length:Int)=ys.length:=by omega
  rw[decide_eq_false hne]
  rw[run,ev61,Qaq]
  simp only[Tryd.f61,bb,hAB',FT,seval]
theorem QBb (k:Nat) (p q:Pg) (a1 a2 b1 b2:Bool) (c1 c2 d1 d2:Option Nat) (hl:p.code.length≤1000000) (hl2:p.outs.length≤1000000) (hk:p.code.length+p.outs.length+10≤k) :
  run (k+1) 31 [aP p a1 c1 a2 c2,aP q b1 d1 b2 d2]=some (bb (decide (p=q))):=by
 obtain⟨k,rfl⟩:∃ j,k=j+1:=⟨k-1,by omega⟩
 have h1:=QwU k p.code q.code a1 b1 c1 d1 hl (by omega)
 have h2:=Q5P k p.outs q.outs a2 b2 c2 d2 hl2 (by omega)
 obtain⟨i1,r1,C,O⟩:=p
 obtain⟨i2,r2,D,P⟩:=q
 simp only[run,sC,sI,bb] at h1 h2
 have e:decide ((⟨i1,r1,C,O⟩:Pg)=⟨i2,r2,D,P⟩)=(decide (i1=i2)&&(decide (r1=r2)&&(decide (C=D)&&decide (O=P)))):=by
  rw[Bool.eq_iff_iff];simp
 rw[e]
 by_cases n1:i1=i2
 ·by_cases n2:r1=r2
  ·by_cases n3:C=D
   ·simp only[n3,decide_true] at h1
    rw[run,ev31,Qaq]
    simp only[Tryd.f31,aP,ii,bb,n1,n2,n3,h1,h2,decide_true,Bool.true_and,FT,seval]
   ·simp only[n3,decide_false] at h1
    rw[run,ev31,Qaq]
    simp only[Tryd.f31,aP,ii,bb,n1,n2,n3,h1,h2,decide_true,decide_false,Bool.true_and,Bool.false_and,FT,seval]
  ·rw[run,ev31,Qaq]
   simp only[Tryd.f31,aP,ii,bb,n1,n2,decide_true,decide_false,Bool.true_and,Bool.false_and,FT,seval]
 ·rw[run,ev31,Qaq]
  simp only[Tryd.f31,aP,ii,bb,n1,decide_false,Bool.false_and,FT,seval]
theorem QaL {l:List Int} {r:Int} (h0:0≤r) (h:r<l.length):(Qal l)[r.toNat]?=some (.int .i64 (l.getD r.toNat 0)):=by
 have h2:r.toNat<l.length:=by omega
 simp[Qal,h2]
abbrev rI (l:List Int):AObj:=.row false 3 (Qal l)
abbrev hI (id n:Nat):AV:=.hsl id 0 n n 1
def Qbs (ins:Int) (n:Nat):List Int:=(List.range n).map fun (r:Nat)=>if ins<(r:Int) then ins else (r:Int)
theorem Qbk (ins:Int) (n:Nat):(Qbs ins n).length=n:=by simp [Qbs]
theorem QlM (ins:Int) (n:Nat):Qbs ins (n+1)=Qbs ins n++[if ins<(n:Int) then ins else (n:Int)]:=by
 simp[Qbs,List.range_succ]
theorem QbK {l:List Int} {r:Nat} {v:Int}:(Qal l).set r (.int .i64 v)=Qal (l.set r v):=by simp [Qal,List.map_set]
theorem QaO {i:Ins} {regs:Int} (h:mayM i regs=true):(1≤i.op∧i.op≤8)∧(0≤i.to∧i.to<regs)∧(0≤i.a∧i.a<regs)∧(i.op=3∨i.op=4→0≤i.b∧i.b<regs):=by
 simp only[mayM,Bool.and_eq_true,decide_eq_true_eq] at h
 obtain⟨⟨⟨⟨m1,m2,m3,m4,m5⟩,_⟩,m6⟩,m7⟩:=h
 exact⟨⟨m1,m2⟩,⟨m3,m4⟩,m6,m7⟩
theorem QyC (k:Nat):run (k+1) 12 [.agg [ii 0,ii 0,.c (.slice [] 0 true (some 0)),.c (.slice [] 0 true (some 0))]]=some (bb true):=by
 rw[run,ev12,Qaq]
 simp only[Tryd.f12,ii,FT,seval]
theorem Qh0 (k:Nat) (x y:Int) {N m:Nat} {E O:List IV} (hE:E.length=N * 5) (hO:O.length=m) :
  Qav Tryd.prog (Qac tab) (k+2) (.fn 20) [.agg [ii x,ii y,.hsl 0 0 N (N * 5) 5,.hsl 1 0 m m 1]] [.row false 61 E,.row false 3 O]=some (.tup [],[.dead,.dead]):=by
 rw[ev20]
 simp only[Tryd.f20,ii,FT,seval]
 rw[Qaf Tryd.f20 1 QDg];rotate_left;rfl
 simp only[hE,hO,EVd,List.getElem?_nil,Nat.reducePow,Nat.reduceDiv,Nat.reduceMod,FT,seval]
 rw[Qee (r:=3) Q4l QBK (by rfl) (by rfl) (by rfl) (by rfl) (by rfl) (Int.le_refl 0) (by rfl) hE]
 simp only[FT,seval]
 rw[Qee (r:=7) Q0X QDj (by rfl) (by rfl) (by rfl) (by rfl) (by rfl) (Int.le_refl 0) (by rfl) hO]
 simp only[FT,seval]
 rfl
theorem QgM (k:Nat) (x y:Int) {m:Nat} {O:List IV} (hO:O.length=m) :
  Qav Tryd.prog (Qac tab) (k+2) (.fn 20) [.agg [ii x,ii y,.c (.slice [] 0 true (some 0)),.hsl 0 0 m m 1]] [.row false 3 O]=some (.tup [],[.dead]):=by
 rw[ev20]
 simp only[Tryd.f20,ii,FT,seval]
 rw[Qaf Tryd.f20 1 QDg];rotate_left;rfl
 have hs0:∀ H,QeM H 5 (.c (.slice [] 0 true (some 0))) none (some (.c (.int .i64 0)))=some (.c (.slice [] 0 true (some 0))):=fun H=>by rfl
 simp only[hO,hs0,EVd,List.getElem?_nil,Nat.reducePow,Nat.reduceDiv,Nat.reduceMod,FT,seval]
 rw[Qls Q4l QBK QF4 (by rfl) (by rfl) (by rfl) (by rfl)]
 rw[Qaa]
 simp only[Qaa,Qag,Qae,Qab,LP,Tryd.f20,FT,seval]
 rw[Qee (r:=7) Q0X QDj (by rfl) (by rfl) (by rfl) (by rfl) (by rfl) (Int.le_refl 0) (by rfl) hO]
 simp only[FT,seval]
 rfl
theorem Q5o (k:Nat) (C:List Ins) (cap:Option Nat) (ho:C.length≤1000000):Qav Tryd.prog (Qac tab) (k+1) (.fn 60) [sC C false cap] []=some (.hsl 0 0 C.length (C.length * 5) 5,[.row false 61 (Qak C)]):=by
 have hl2:=Qau C
 have hap:∀ o:AObj,apO 61 5 40 none (.hsl 0 0 0 0 5) [.row false 61 []] (some (Qak C,C.length))=some (.hsl 0 0 C.length (C.length * 5) 5,[.row false 61 (Qak C)]):=by
  intro _
  rcases Nat.eq_zero_or_pos C.length with h0 | hp
  ·obtain rfl:=List.eq_nil_of_length_eq_zero h0
   rfl
  ·have:=Qma (sl:=none) (e:=61) (sz:=5) (by_:=40) (m:=C.length) (len:=0) (id:=0) (H:=[.row false 61 []]) (cells:=[]) (cs:=Qak C) hp (Nat.le_trans (Nat.mul_le_mul_right 40 (show 0+C.length≤1000000 by omega)) (by decide)) (by omega) rfl rfl
   simpa using this
 have htk:(Qak C).take (C.length * 5)=Qak C:=by rw [← hl2,List.take_length]
 have hle:C.length * 5≤C.length * 5:=Nat.le_refl _
 rw[ev60]
 simp only[Tryd.f60,sC,FT,seval]
 simp only[hap (.dead),hl2,htk,hle,FT,seval]
theorem Q4R (k:Nat) (cap:Option Nat):Qav Tryd.prog (Qac tab) (k+1) (.fn 60) [sC [] true cap] []=some (.c (.slice [] 0 true (some 0)),[]):=by
 rw[ev60]
 simp only[Tryd.f60,sC,Qak,List.length_nil,FT,seval]
theorem Qnp (k:Nat) (ins n:Int) (C:List Ins) (O:List Int) (cap cap2:Option Nat) (hC:C.length≤1000000) (hO:0<O.length) (hO2:O.length≤1000000):∃ a b,
  Qav Tryd.prog (Qac tab) (k+2) (.fn 30) [aP ⟨ins,n,C,O⟩ false cap false cap2] [] =
   some (.agg [ii ins,ii n,.hsl 2 0 C.length (C.length * 5) 5,.hsl 3 0 O.length O.length 1],[a,b,.row false 61 (Qak C),rI O]):=by
 have h1:=Q5o k C cap hC
 have h2:=Qhh k O cap2 hO hO2
 have k1:∀ H,Qe3 (some (AV.hsl 0 0 C.length (C.length * 5) 5,[.row false 61 (Qak C)])) H=some (.hsl H.length 0 C.length (C.length * 5) 5,H++[.row false 61 (Qak C)]):=fun H=>Qhs rfl
 have k2:∀ H,Qe3 (some (AV.hsl 0 0 O.length O.length 1,[rI O])) H=some (.hsl H.length 0 O.length O.length 1,H++[rI O]):=fun H=>Qhs rfl
 simp only[sC,sI] at h1 h2
 rw[ev30]
 simp only[Tryd.f30,aP,ii,FT,seval]
 rw[Qaf Tryd.f30 1 QBL];rotate_left;rfl
 simp only[h1,h2,k1,k2,Qb8,Qcr,EVd,List.getElem?_nil,Nat.reducePow,Nat.reduceDiv,Nat.reduceMod,FT,seval]
 exact⟨_,_,rfl⟩
theorem Qqs (k:Nat) (ins n:Int) (O:List Int) (cap cap2:Option Nat) (hO:0<O.length) (hO2:O.length≤1000000):∃ a b,
  Qav Tryd.prog (Qac tab) (k+2) (.fn 30) [aP ⟨ins,n,[],O⟩ true cap false cap2] [] =
   some (.agg [ii ins,ii n,.c (.slice [] 0 true (some 0)),.hsl 2 0 O.length O.length 1],[a,b,rI O]):=by
 have h1:=Q4R k cap
 have h2:=Qhh k O cap2 hO hO2
 have k1:∀ H,Qe3 (some (AV.c (.slice [] 0 true (some 0)),[])) H=some (.c (.slice [] 0 true (some 0)),H):=fun H=>by simp [Qe3,AV.imp,AV.imp1,AV.imp0,rowsOf]
 have k2:∀ H,Qe3 (some (AV.hsl 0 0 O.length O.length 1,[rI O])) H=some (.hsl H.length 0 O.length O.length 1,H++[rI O]):=fun H=>Qhs rfl
 simp only[sC,sI,Qak,List.length_nil] at h1 h2
 rw[ev30]
 simp only[Tryd.f30,aP,ii,sC,Qak,List.length_nil,FT,seval]
 rw[Qaf Tryd.f30 1 QBL];rotate_left;rfl
 simp only[h1,h2,k1,k2,Qb8,Qcr,EVd,List.getElem?_nil,Nat.reducePow,Nat.reduceDiv,Nat.reduceMod,FT,seval]
 exact⟨_,_,rfl⟩
theorem QAX (k:Nat) (ins n:Int) (C:List Ins) (O:List Int) (nl:Bool) (cap cap2:Option Nat) (hn:nl=true→C=[]) (hC:C.length≤1000000) (hO:0<O.length) (hO2:O.length≤1000000) :
  ∃ (nl3:Bool) (cap3:Option Nat),(nl3=true→C=[])∧run (k+2) 30 [aP ⟨ins,n,C,O⟩ nl cap false cap2]=some (aP ⟨ins,n,C,O⟩ nl3 cap3 false none):=by
 have hel:=Qau C
 have hOe:=Qaj O
 have htc:(Qak C).take (C.length * 5)=Qak C:=List.take_of_length_le (by omega)
 have hto:(Qal O).take O.length=Qal O:=List.take_of_length_le (by omega)
 cases nl with
 | false =>
  obtain⟨a,b,h⟩:=Qnp k ins n C O cap cap2 hC hO hO2
  refine⟨false,none,(fun h=>by cases h), ?_⟩
  rw[run,h]
  simp only[hel,hOe,htc,hto,Nat.le_refl,FT,seval]
 | true =>
  have h0:=hn rfl
  subst h0
  obtain⟨a,b,h⟩:=Qqs k ins n O cap cap2 hO hO2
  refine⟨true,some 0,(fun _=>rfl), ?_⟩
  rw[run,h]
  simp only[hOe,hto,Nat.le_refl,FT,seval]
  rfl
end Go.Proofs.Sw
namespace Go.Proofs.Sw
open Go.Ab
def powM (c:Int):Int:=if c=2 then 1 else if c=4 then 2 else if c=8 then 3 else if c=16 then 4 else if c=32 then 5 else if c=64 then 6 else if c=128 then 7 else if c=256 then 8 else if c=512 then 9 else 0
theorem Qh8 {c:Int} (h:powM c≠0):c=2∨c=4∨c=8∨c=16∨c=32∨c=64∨c=128∨c=256∨c=512:=by
 unfold powM at h
 repeat' (split at h<;>simp_all)
def QcT (i:Ins):Ins :=
 if i.op=3 then (if i.a=i.b then ⟨7,i.to,i.a,0,1⟩ else i)
 else if i.op=5∨i.op=6 then
  (
   if i.c=1 then ⟨1,i.to,i.a,0,0⟩ else if i.c=-1 then ⟨2,i.to,i.a,0,0⟩
   else if powM i.c≠0 then ⟨if i.op=5 then 7 else 8,i.to,i.a,0,powM i.c⟩ else i)
 else i
def fits (c:Int):Bool:=decide (-512≤c∧c≤512)
def together (f c s d:Int):Option (Int × Int) :=
 if f=1 then some (s,d)
 else if f=2 then (if s=1 then some (2,0) else if s=2 then some (1,0) else if s=5∨s=6 then some (s,-d) else none)
 else if f=5 then (if s=2 then some (5,-c) else if s=5∧fits (c * d)=true then some (5,c * d) else if s=6∧c.tmod d=0 then some (5,c.tdiv d) else if s=6∧d.tmod c=0 then some (6,d.tdiv c) else none)
 else if f=6 then (if s=2 then some (6,-c) else if s=6∧fits (c * d)=true then some (6,c * d) else none)
 else if f=7 then (if s=7∧c+d≤64 then some (7,c+d) else if s≠8 then none else if c=d then some (1,0) else if d<c then some (7,c-d) else some (8,d-c))
 else if f=8 then (if s=8∧c+d≤64 then some (8,c+d) else none)
 else none
theorem Q9h {c d:Int} (h1:-512≤c) (h2:c≤512) (h3:-512≤d) (h4:d≤512):-262144≤c * d∧c * d≤262144:=by
 have h5:(c * d).natAbs=c.natAbs * d.natAbs:=Int.natAbs_mul c d
 have h6:c.natAbs * d.natAbs≤512 * 512:=Nat.mul_le_mul (by omega) (by omega)
 omega
theorem Qex {c d:Int} (h1:-512≤c) (h2:c≤512):-512≤c.tdiv d∧c.tdiv d≤512:=by
 have h5:(c.tdiv d).natAbs=c.natAbs / d.natAbs:=Int.natAbs_tdiv c d
 have h6:c.natAbs / d.natAbs≤c.natAbs:=Nat.div_le_self _ _
 omega
def QfU (a b:Ins):Option Ins :=
 if b.op=3∨b.op=4∨b.a≠a.to∨b.to≠a.to then none else (together a.op a.c b.op b.c).map fun x=>QcT ⟨x.1,b.to,a.a,0,x.2⟩
theorem Q70 {c:Int} (h:powM c≠0):1≤powM c∧powM c≤64:=by
 rcases Qh8 h with rfl | rfl | rfl | rfl | rfl | rfl | rfl | rfl | rfl<;>decide
theorem QcM (i:Ins) (regs:Int):mayM i regs=true↔(1≤i.op∧i.op≤8∧0≤i.to∧i.to<regs∧(i.op=3∨i.op=4∨i.b=0))∧constant i=true∧(0≤i.a∧i.a<regs)∧((i.op=3∨i.op=4)→0≤i.b∧i.b<regs):=by
 simp only[mayM,Bool.and_eq_true,decide_eq_true_eq,and_assoc]
theorem Qdg (i:Ins):constant i=true↔((i.op=5∨i.op=6)→i.c≠0∧-512≤i.c∧i.c≤512)∧((i.op=7∨i.op=8)→1≤i.c∧i.c≤64)∧((i.op≠5∧i.op≠6∧i.op≠7∧i.op≠8)→i.c=0):=by
 unfold constant
 split
 ·simp only[decide_eq_true_eq];omega
 ·split
  ·simp only[decide_eq_true_eq];omega
  ·simp only[decide_eq_true_eq];omega
theorem Qfa {i:Ins} {regs:Int} (h:mayM i regs=true):mayM (QcT i) regs=true:=by
 have h':=(QcM _ _).1 h
 obtain⟨h1,h2,h3,h4⟩:=h'
 unfold QcT
 split
 ·split
  ·rw[QcM];simp [constant];omega
  ·exact h
 ·split
  ·split
   ·rw[QcM];simp [constant];omega
   ·split
    ·rw[QcM];simp [constant];omega
    ·split
     ·rename_i hp
      have:=Q70 hp
      rw[QcM]
      split<;>simp [constant]<;>omega
     ·exact h
  ·exact h
theorem QHq {c d:Int} (h1:c≠0) (h2:d≠0):c * d≠0:=Int.mul_ne_zero h1 h2
theorem QC6 {c d:Int} (h1:c≠0) (h:c.tmod d=0):c.tdiv d≠0:=by
 intro h2
 have:=Int.tmod_add_mul_tdiv c d
 rw[h,h2] at this
 simp at this
 exact h1 this.symm
theorem small {regs a o t c:Int} (h1:1≤o∧o≤8) (ht:0≤t∧t<regs) (ha:0≤a∧a<regs) (ho:o≠3∧o≠4) (hc:constant ⟨o,t,a,0,c⟩=true):mayM ⟨o,t,a,0,c⟩ regs=true:=by
 rw[QcM]
 exact⟨⟨h1.1,h1.2,ht.1,ht.2,.inr (.inr rfl)⟩,hc,ha,fun h=>by rcases h with h | h<;>(dsimp only at h;omega)⟩
theorem Qgc {f c s d o x:Int} (hf:constant ⟨f,0,0,0,c⟩=true) (hs:constant ⟨s,0,0,0,d⟩=true) (f1:1≤f∧f≤8) (s1:1≤s∧s≤8) (s3:s≠3) (s4:s≠4) (h:together f c s d=some (o,x)) :
  (1≤o∧o≤8∧o≠3∧o≠4)∧((o=5∨o=6)→x≠0∧-512≤x∧x≤512)∧((o=7∨o=8)→1≤x∧x≤64)∧((o=1∨o=2)→x=0):=by
 have m0:=@QHq c d
 have d0:=@QC6 c d
 have d1:=@QC6 d c
 have fo:f=1∨f=2∨f=3∨f=4∨f=5∨f=6∨f=7∨f=8:=by omega
 have so:s=1∨s=2∨s=5∨s=6∨s=7∨s=8:=by omega
 unfold together fits at h
 rcases fo with rfl | rfl | rfl | rfl | rfl | rfl | rfl | rfl<;>rcases so with rfl | rfl | rfl | rfl | rfl | rfl<;>simp [constant] at hf hs h
 all_goals (try (repeat' (split at h)))
 all_goals (try simp at h)
 all_goals (try (obtain ⟨rfl,rfl⟩:=h))
 all_goals first
  | omega
  | (have q1:=@Qex c d (by omega) (by omega);have q2:=@Qex d c (by omega) (by omega);have d0':=d0 (by omega);have d1':=d1 (by omega);omega)
  | skip
theorem QjV {y x z:Ins} {regs:Int} (hy:mayM y regs=true) (hx:mayM x regs=true) (h:QfU y x=some z):mayM z regs=true:=by
 unfold QfU at h
 split at h
 ·cases h
 ·rename_i hne
  simp only[not_or,ne_eq,Classical.not_not] at hne
  obtain⟨n1,n2,n3,n4⟩:=hne
  obtain⟨⟨o,c⟩,ht,rfl⟩:=Option.map_eq_some_iff.1 h
  apply Qfa
  have y':=(QcM _ _).1 hy
  have x':=(QcM _ _).1 hx
  obtain⟨y1,y2,y3,y4⟩:=y'
  obtain⟨x1,x2,x3,x4⟩:=x'
  obtain⟨a1,a2,a3,a4⟩:=Qgc (f:=y.op) (c:=y.c) (s:=x.op) (d:=x.c) y2 x2 ⟨y1.1,y1.2.1⟩ ⟨x1.1,x1.2.1⟩ n1 n2 ht
  refine small ⟨a1.1,a1.2.1⟩ ⟨x1.2.2.1,x1.2.2.2.1⟩ y3 ⟨a1.2.2.1,a1.2.2.2⟩ ?_
  rw[Qdg]
  exact⟨a2,a3,fun h=>a4 (by dsimp only at h;omega)⟩
def push:List Ins→Ins→List Ins
 | [],b=>if nothing b=true then [] else [b]
 | x::st,b=>if nothing b=true then x::st else match QfU x b with
  | some y=>push st y
  | none=>b::x::st
def QmR (code:List Ins):List Ins:=(code.foldl (fun st i=>push st (QcT i)) []).reverse
def Q5k (p:Pg):Pg:=⟨p.ins,p.regs,QmR p.code,p.outs⟩
theorem QbY {st:List Ins} {x:Ins} (h:nothing x=true):push st x=st:=by cases st<;>rw [push,if_pos h]
theorem Qe7 {x:Ins} (h:nothing x=false):push [] x=[x]:=by rw [push,if_neg (by rw [h];decide)]
theorem QeQ {st:List Ins} {x y w:Ins} (h:nothing x=false) (hm:QfU y x=some w):push (y::st) x=push st w:=by
 rw[push,if_neg (by rw [h];decide),hm]
theorem Qfu {st:List Ins} {x y:Ins} (h:nothing x=false) (hm:QfU y x=none):push (y::st) x=x::y::st:=by
 rw[push,if_neg (by rw [h];decide),hm]
theorem QrO {regs:Int}:∀ (st:List Ins) (x:Ins),(∀ i ∈ st,mayM i regs=true)→mayM x regs=true→∀ i ∈ push st x,mayM i regs=true
 | [],x,hst,hx=>by
  cases hn:nothing x with
  | true=>rw [QbY hn];exact hst
  | false=>rw [Qe7 hn];intro i hi;rw [List.mem_singleton.1 hi];exact hx
 | y::st,x,hst,hx=>by
  cases hn:nothing x with
  | true=>rw [QbY hn];exact hst
  | false =>
   cases hm:QfU y x with
   | none=>rw [Qfu hn hm];intro i hi;rcases List.mem_cons.1 hi with rfl | hi;exact hx;exact hst i hi
   | some w=>rw [QeQ hn hm];exact QrO st w (fun i hi=>hst i (by simp [hi])) (QjV (hst y (by simp)) hx hm)
theorem Q1t:∀ (st:List Ins) (x:Ins),(push st x).length≤st.length+1
 | [],x=>by
  cases hn:nothing x with
  | true=>rw [QbY hn];omega
  | false=>rw [Qe7 hn];simp
 | y::st,x=>by
  cases hn:nothing x with
  | true=>rw [QbY hn];omega
  | false =>
   cases hm:QfU y x with
   | none=>rw [Qfu hn hm];simp
   | some w=>rw [QeQ hn hm];have:=Q1t st w;simp;omega
theorem QrM {regs:Int}:∀ (code st:List Ins),(∀ i ∈ code,mayM i regs=true)→(∀ i ∈ st,mayM i regs=true)→∀ i ∈ code.foldl (fun st i=>push st (QcT i)) st,mayM i regs=true
 | [],_,_,h=>h
 | x::code,st,hc,h=>QrM code _ (fun j hj=>hc j (by simp [hj])) (QrO st _ h (Qfa (hc x (by simp))))
theorem QrS:∀ (code st:List Ins),(code.foldl (fun st i=>push st (QcT i)) st).length≤st.length+code.length
 | [],st=>by simp
 | x::code,st=>by
  have h1:=QrS code (push st (QcT x))
  have h2:=Q1t st (QcT x)
  simp only[List.foldl_cons,List.length_cons]
  omega
theorem QxA (code:List Ins):(QmR code).length≤code.length:=by
 have:=QrS code []
 simpa [QmR] using this
theorem QyI {p:Pg} (h:Qax p=true):Qax (Q5k p)=true:=by
 simp only[Qax,Qdh,QfT,QfV,Bool.and_eq_true,decide_eq_true_eq,List.all_eq_true] at h ⊢
 obtain⟨⟨h1,h2⟩,h3⟩:=h
 refine⟨⟨?_,h2⟩, ?_⟩
 ·have:=QxA p.code
  show _∧_∧_∧(QmR p.code).length≤16384∧_
  exact⟨h1.1,h1.2.1,h1.2.2.1,by omega,h1.2.2.2.2⟩
 ·intro x hx
  exact QrM p.code [] h3 (fun i hi=>(nomatch hi)) x (List.mem_reverse.1 hx)
end Go.Proofs.Sw
namespace Go.Proofs.Sw
open Go.Ab
variable [Globals]
structure Sem (α:Type) where
 f:Int→Int→α→α→Option α
 d:α
 G:α→Prop
 one:∀ c a b,f 1 c a b=some a
 two:∀ o c a b b',o≠3→o≠4→f o c a b=f o c a b'
 comm:∀ c a b,G a→G b→f 3 c a b=f 3 c b a
 good:∀ o c a b v,G a→G b→f o c a b=some v→G v
 gd:G d
section
variable {α:Type} (M:Sem α)
def Qbt (R:List α) (x:Ins):Option (List α):=(M.f x.op x.c (R.getD x.a.toNat M.d) (R.getD x.b.toNat M.d)).map fun v=>R.set x.to.toNat v
def runE:List Ins→List α→Option (List α)
 | [],R=>some R
 | x::l,R=>match Qbt M R x with
  | some Q=>runE l Q
  | none=>none
theorem QdD:∀ (a b:List Ins) (R:List α),runE M (a++b) R=(runE M a R).bind (runE M b)
 | [],b,R=>rfl
 | x::a,b,R=>by
  rw[List.cons_append,runE,runE]
  cases Qbt M R x with
  | none=>rfl
  | some Q=>exact QdD a b Q
theorem Qc5 (a:List Ins) (x:Ins) (R:List α):runE M (a++[x]) R=(runE M a R).bind (fun Q=>Qbt M Q x):=by
 rw[QdD]
 cases runE M a R with
 | none=>rfl
 | some Q =>
  show runE M [x] Q=Qbt M Q x
  rw[runE]
  cases Qbt M Q x<;>rfl
theorem Qci {l:List α} {i k:Nat} {v d:α} (hi:i<l.length):(l.set i v).getD k d=if k=i then v else l.getD k d:=by
 rw[List.getD_eq_getElem?_getD,List.getD_eq_getElem?_getD,List.getElem?_set]
 by_cases h:i=k
 ·subst h;simp [hi]
 ·simp[h,show ¬ k=i from fun e=>h e.symm]
theorem Qrp {l:List α} {i:Nat} {d:α} (hi:i<l.length):l.set i (l.getD i d)=l:=by
 rw[List.getD_eq_getElem?_getD,List.getElem?_eq_getElem hi]
 exact List.set_getElem_self hi
end
def pw2 (c:Int):Int:=((2 ^ c.toNat:Nat):Int)
theorem QlI (c:Int):pw2 c≠0:=by
 unfold pw2
 have:0<2 ^ c.toNat:=Nat.pow_pos (by omega)
 omega
theorem Qrc {c d:Int} (h1:0≤c) (h2:0≤d):pw2 (c+d)=pw2 c * pw2 d:=by
 unfold pw2
 rw[show (c+d).toNat=c.toNat+d.toNat by omega,Nat.pow_add,Int.natCast_mul]
theorem Q9R {c:Int} (h:powM c≠0):pw2 (powM c)=c:=by
 rcases Qh8 h with rfl | rfl | rfl | rfl | rfl | rfl | rfl | rfl | rfl<;>decide
structure Lin {α:Type} (M:Sem α) where
 mul:Int→α→α
 div:Int→α→Option α
 f2:∀ c a b,M.f 2 c a b=some (mul (-1) a)
 f3:∀ c a,M.f 3 c a a=some (mul 2 a)
 f5:∀ c a b,M.f 5 c a b=some (mul c a)
 f7:∀ c a b,M.f 7 c a b=some (mul (pw2 c) a)
 f6:∀ c a b,c≠0→M.f 6 c a b=div c a
 f8:∀ c a b,M.f 8 c a b=div (pw2 c) a
 m1:∀ a,mul 1 a=a
 mm:∀ c d a,mul c (mul d a)=mul (c * d) a
 d1:∀ a,div 1 a=some a
 dn:∀ a,div (-1) a=some (mul (-1) a)
 dd:∀ c d a,c≠0→d≠0→(div c a).bind (div d)=div (c * d) a
 dmc:∀ c d a,c≠0→d≠0→div (c * d) (mul c a)=div d a
 md:∀ c a,c≠0→(div c a).map (mul (-1))=div (-c) a
section
variable {α:Type} {M:Sem α} (L:Lin M)
include L
theorem Lin.dm {c d:Int} (a:α) (hd:d≠0):L.div d (L.mul (d * c) a)=some (L.mul c a):=by
 rw[← L.mm]
 have:=L.dmc d 1 (L.mul c a) hd (by decide)
 rw[Int.mul_one,L.d1] at this
 exact this
theorem Lin.dneg {c:Int} (a:α) (hc:c≠0):L.div c (L.mul (-1) a)=L.div (-c) a:=by
 have:=L.dmc (-1) (-c) a (by decide) (by omega)
 rw[show (-1:Int) * -c=c by omega] at this
 exact this
theorem Qw2 {f c s d o x:Int} (hf:constant ⟨f,0,0,0,c⟩=true) (hs:constant ⟨s,0,0,0,d⟩=true) (f1:1≤f∧f≤8) (s1:1≤s∧s≤8) (s3:s≠3) (s4:s≠4) (h:together f c s d=some (o,x)) (a b b' b2:α) :
  ((M.f f c a b).bind fun v=>M.f s d v b')=M.f o x a b2:=by
 have so:s=1∨s=2∨s=5∨s=6∨s=7∨s=8:=by omega
 have hs':=(Qdg _).1 hs
 have hf':=(Qdg _).1 hf
 obtain⟨hs5,hs7,hs1⟩:=hs'
 obtain⟨hf5,hf7,hf1⟩:=hf'
 simp only at hs5 hs7 hs1 hf5 hf7 hf1
 have fo:f=1∨f=2∨f=3∨f=4∨f=5∨f=6∨f=7∨f=8:=by omega
 unfold together at h
 rcases fo with rfl | rfl | rfl | rfl | rfl | rfl | rfl | rfl
 ·simp only[if_true,Option.some.injEq,Prod.mk.injEq] at h
  obtain⟨rfl,rfl⟩:=h
  rw[M.one,Option.bind_some]
  exact M.two _ _ _ _ _ s3 s4
 ·rcases so with rfl | rfl | rfl | rfl | rfl | rfl<;>simp at h
  ·obtain⟨rfl,rfl⟩:=h
   simp only[L.f2,Option.bind_some,M.one]
  ·obtain⟨rfl,rfl⟩:=h
   simp only[L.f2,Option.bind_some,M.one,L.mm]
   rw[show (-1:Int) * -1=1 by decide,L.m1]
  ·obtain⟨rfl,rfl⟩:=h
   simp only[L.f2,Option.bind_some,L.f5,L.mm]
   rw[show d * -1=-d by omega]
  ·obtain⟨rfl,rfl⟩:=h
   have hd:=(hs5 (.inr rfl)).1
   rw[L.f2,Option.bind_some,L.f6 _ _ _ hd,L.f6 _ _ _ (by omega),L.dneg _ hd]
 ·simp at h
 ·simp at h
 ·have hc:=(hf5 (.inl rfl)).1
  rcases so with rfl | rfl | rfl | rfl | rfl | rfl<;>simp at h
  ·obtain⟨rfl,rfl⟩:=h
   simp only[L.f2,L.f5,Option.bind_some,L.mm]
   rw[show (-1:Int) * c=-c by omega]
  ·obtain⟨_,rfl,rfl⟩:=h
   simp only[L.f5,Option.bind_some,L.mm]
   rw[Int.mul_comm]
  ·have hd:=(hs5 (.inr rfl)).1
   rw[L.f5,Option.bind_some,L.f6 _ _ _ hd]
   split at h
   ·rename_i hq
    simp only[Option.some.injEq,Prod.mk.injEq] at h
    obtain⟨rfl,rfl⟩:=h
    have e:c=d * c.tdiv d:=by have:=Int.tmod_add_mul_tdiv c d;rw [hq,Int.zero_add] at this;exact this.symm
    rw[L.f5]
    have e2:=L.dm (c:=c.tdiv d) a hd
    rw[← e] at e2
    exact e2
   ·simp only[Option.ite_none_right_eq_some,Option.some.injEq,Prod.mk.injEq] at h
    obtain⟨hq,rfl,rfl⟩:=h
    have e:d=c * d.tdiv c:=by have:=Int.tmod_add_mul_tdiv d c;rw [hq,Int.zero_add] at this;exact this.symm
    have hne:d.tdiv c≠0:=fun h0=>by rw [h0,Int.mul_zero] at e;exact hd e
    rw[L.f6 _ _ _ hne]
    have e2:=L.dmc c (d.tdiv c) a hc hne
    rw[← e] at e2
    exact e2
 ·have hc:=(hf5 (.inr rfl)).1
  rcases so with rfl | rfl | rfl | rfl | rfl | rfl<;>simp at h
  ·obtain⟨rfl,rfl⟩:=h
   rw[L.f6 _ _ _ hc,L.f6 _ _ _ (by omega)]
   have:=L.md c a hc
   rw[← this]
   cases L.div c a<;>simp [L.f2]
  ·obtain⟨_,rfl,rfl⟩:=h
   have hd:=(hs5 (.inr rfl)).1
   rw[L.f6 _ _ _ hc,L.f6 _ _ _ (Int.mul_ne_zero hc hd),← L.dd c d a hc hd]
   congr 1
   funext v
   exact L.f6 _ _ _ hd
 ·have hc:=hf7 (.inl rfl)
  rcases so with rfl | rfl | rfl | rfl | rfl | rfl<;>simp at h
  ·obtain⟨_,rfl,rfl⟩:=h
   have hd:=hs7 (.inl rfl)
   simp only[L.f7,Option.bind_some,L.mm]
   rw[Int.mul_comm,Qrc (by omega) (by omega)]
  ·have hd:=hs7 (.inr rfl)
   rw[L.f7,Option.bind_some,L.f8]
   split at h
   ·rename_i hq
    subst hq
    simp only[Option.some.injEq,Prod.mk.injEq] at h
    obtain⟨rfl,rfl⟩:=h
    have e2:=L.dm (c:=1) a (QlI c)
    rw[Int.mul_one,L.m1] at e2
    rw[e2,M.one]
   ·split at h
    ·rename_i hq
     simp only[Option.some.injEq,Prod.mk.injEq] at h
     obtain⟨rfl,rfl⟩:=h
     have e2:=L.dm (c:=pw2 (c-d)) a (QlI d)
     rw[← Qrc (by omega) (by omega),show d+(c-d)=c by omega] at e2
     rw[e2,L.f7]
    ·simp only[Option.some.injEq,Prod.mk.injEq] at h
     obtain⟨rfl,rfl⟩:=h
     have e2:=L.dmc (pw2 c) (pw2 (d-c)) a (QlI c) (QlI _)
     rw[← Qrc (by omega) (by omega),show c+(d-c)=d by omega] at e2
     rw[e2,L.f8]
 ·have hc:=hf7 (.inr rfl)
  rcases so with rfl | rfl | rfl | rfl | rfl | rfl<;>simp at h
  obtain⟨_,rfl,rfl⟩:=h
  have hd:=hs7 (.inr rfl)
  rw[L.f8,L.f8,Qrc (by omega) (by omega),← L.dd _ _ a (QlI c) (QlI d)]
  congr 1
  funext v
  exact L.f8 _ _ _
theorem QpU {x:Ins} {n:Nat} (hx:mayM x n=true) (R:List α):Qbt M R (QcT x)=Qbt M R x:=by
 obtain⟨⟨o1,o2⟩,_,_,_⟩:=QaO hx
 have hc:=((QcM _ _).1 hx).2.1
 obtain⟨c5,_,_⟩:=(Qdg _).1 hc
 unfold QcT
 split
 ·rename_i h3
  split
  ·rename_i hab
   unfold Qbt
   simp only
   rw[h3,← hab,L.f3,L.f7,show pw2 1=2 from rfl]
  ·rfl
 ·split
  ·rename_i h56
   have hc5:=c5 h56
   split
   ·rename_i h1
    unfold Qbt
    simp only
    rw[h1,M.one]
    rcases h56 with h | h<;>rw [h]
    ·rw[L.f5,L.m1]
    ·rw[L.f6 _ _ _ (by decide),L.d1]
   ·split
    ·rename_i h1
     unfold Qbt
     simp only
     rw[h1,L.f2]
     rcases h56 with h | h<;>rw [h]
     ·rw[L.f5]
     ·rw[L.f6 _ _ _ (by decide),L.dn]
    ·split
     ·rename_i hp
      unfold Qbt
      simp only
      rcases h56 with h | h<;>rw [h]
      ·rw[if_pos rfl,L.f7,L.f5,Q9R hp]
      ·rw[if_neg (by decide),L.f8,L.f6 _ _ _ hc5.1,Q9R hp]
     ·rfl
  ·rfl
theorem Qjj {x:Ins} {n:Nat} (hx:mayM x n=true) (h:nothing x=true) {R:List α} (hR:R.length=n):Qbt M R x=some R:=by
 simp only[nothing,decide_eq_true_eq] at h
 obtain⟨_,⟨t0,t1⟩,_,_⟩:=QaO hx
 unfold Qbt
 rw[h.1,M.one,Option.map_some,← h.2,Qrp (by omega)]
theorem Q6A {y x z:Ins} {n:Nat} (hy:mayM y n=true) (hx:mayM x n=true) (h:QfU y x=some z) {R:List α} (hR:R.length=n) :
  ((Qbt M R y).bind fun Q=>Qbt M Q x)=Qbt M R z:=by
 unfold QfU at h
 split at h
 ·cases h
 ·rename_i hne
  simp only[not_or,ne_eq,Classical.not_not] at hne
  obtain⟨n1,n2,n3,n4⟩:=hne
  obtain⟨⟨o,c⟩,ht,rfl⟩:=Option.map_eq_some_iff.1 h
  have y':=(QcM _ _).1 hy
  have x':=(QcM _ _).1 hx
  obtain⟨y1,y2,y3,y4⟩:=y'
  obtain⟨x1,x2,x3,x4⟩:=x'
  obtain⟨a1,a2,a3,a4⟩:=Qgc (f:=y.op) (c:=y.c) (s:=x.op) (d:=x.c) y2 x2 ⟨y1.1,y1.2.1⟩ ⟨x1.1,x1.2.1⟩ n1 n2 ht
  have hz:mayM ⟨o,x.to,y.a,0,c⟩ n=true:=by
   refine small ⟨a1.1,a1.2.1⟩ ⟨x1.2.2.1,x1.2.2.2.1⟩ y3 ⟨a1.2.2.1,a1.2.2.2⟩ ?_
   rw[Qdg]
   exact⟨a2,a3,fun h=>a4 (by dsimp only at h;omega)⟩
  rw[QpU L hz]
  unfold Qbt
  simp only
  rw[← Qw2 L (f:=y.op) (c:=y.c) (s:=x.op) (d:=x.c) y2 x2 ⟨y1.1,y1.2.1⟩ ⟨x1.1,x1.2.1⟩ n1 n2 ht (R.getD y.a.toNat M.d) (R.getD y.b.toNat M.d) M.d (R.getD (0:Int).toNat M.d)]
  cases hv:M.f y.op y.c (R.getD y.a.toNat M.d) (R.getD y.b.toNat M.d) with
  | none=>rfl
  | some v =>
   simp only[Option.map_some,Option.bind_some]
   have ht:y.to.toNat<R.length:=by omega
   rw[n3,Qci ht,if_pos rfl,n4,M.two _ _ _ _ M.d n1 n2]
   congr 1
   funext w
   rw[List.set_set]
theorem Q8F {R Q:List α} {x:Ins} (h:Qbt M R x=some Q):Q.length=R.length:=by
 unfold Qbt at h
 obtain⟨v,_,rfl⟩:=Option.map_eq_some_iff.1 h
 exact List.length_set ..
theorem QrE:∀ (code:List Ins) (R Q:List α),runE M code R=some Q→Q.length=R.length
 | [],R,Q,h=>by obtain rfl:=Option.some.inj h;rfl
 | x::code,R,Q,h=>by
  rw[runE] at h
  cases e:Qbt M R x with
  | none=>rw [e] at h;cases h
  | some S=>rw [e] at h;rw [QrE code S Q h,Q8F L e]
theorem Q4z {n:Nat}:∀ (st:List Ins) (x:Ins) (R:List α),(∀ i ∈ st,mayM i n=true)→mayM x n=true→R.length=n→runE M (push st x).reverse R=(runE M st.reverse R).bind fun Q=>Qbt M Q x
 | [],x,R,hst,hx,hR=>by
  cases hn:nothing x with
  | true=>rw [QbY hn];simp only [List.reverse_nil,runE,Option.bind_some];rw [Qjj L hx hn hR]
  | false=>rw [Qe7 hn];simp only [List.reverse_nil,runE,Option.bind_some,List.reverse_singleton];cases Qbt M R x<;>rfl
 | y::st,x,R,hst,hx,hR=>by
  cases hn:nothing x with
  | true =>
   rw[QbY hn]
   cases hq:runE M (y::st).reverse R with
   | none=>rfl
   | some Q=>rw [Option.bind_some,Qjj L hx hn (by rw [QrE L _ _ _ hq,hR])]
  | false =>
   cases hm:QfU y x with
   | none=>rw [Qfu hn hm,List.reverse_cons,Qc5]
   | some w =>
    have hy:=hst y (by simp)
    rw[QeQ hn hm,Q4z st w R (fun i hi=>hst i (by simp [hi])) (QjV hy hx hm) hR,List.reverse_cons,Qc5,Option.bind_assoc]
    cases hq:runE M st.reverse R with
    | none=>rfl
    | some Q=>simp only [Option.bind_some];exact (Q6A L hy hx hm (by rw [QrE L _ _ _ hq,hR])).symm
theorem Q3X {n:Nat}:∀ (code st:List Ins) (R:List α),(∀ i ∈ code,mayM i n=true)→(∀ i ∈ st,mayM i n=true)→R.length=n→runE M (code.foldl (fun st i=>push st (QcT i)) st).reverse R=runE M (st.reverse++code) R
 | [],st,R,_,_,_=>by rw [List.foldl_nil,List.append_nil]
 | x::code,st,R,hc,hst,hR=>by
  have hx:=hc x (by simp)
  rw[List.foldl_cons,Q3X code _ R (fun i hi=>hc i (by simp [hi])) (QrO st _ hst (Qfa hx)) hR,QdD,Q4z L st _ R hst (Qfa hx) hR,show st.reverse++x::code=(st.reverse++[x])++code by simp,QdD,Qc5]
  congr 2
  funext Q
  exact QpU L hx Q
theorem Q6L {n:Nat} {code:List Ins} (h:∀ i ∈ code,mayM i n=true) {R:List α} (hR:R.length=n):runE M (QmR code) R=runE M code R:=by
 have:=Q3X L code [] R h (fun i hi=>(nomatch hi)) hR
 simpa [QmR] using this
end
section
variable {α:Type} (M:Sem α)
def Q1j (A:List Bool) (R S:List α):Prop:=∀ r:Nat,A.getD r false=true→R.getD r M.d=S.getD r M.d
theorem Q3m {l:List Bool} {i k:Nat} {b:Bool}:(l.set i b).getD k false=if k=i∧i<l.length then b else l.getD k false:=by
 rw[List.getD_eq_getElem?_getD,List.getD_eq_getElem?_getD,List.getElem?_set]
 by_cases h:i=k
 ·subst h
  by_cases h2:i<l.length
  ·simp[h2]
  ·simp[h2]
 ·simp[h,show ¬ k=i from fun e=>h e.symm]
theorem QjS:∀ (rs:List Int) (l:List Bool) (r:Nat),l.getD r false=true→(mark l true rs).getD r false=true
 | [],_,_,h=>h
 | x::rs,l,r,h=>QjS rs _ r (by rw [Q3m];split<;>first | rfl | exact h)
theorem QgI:∀ (rs:List Int) (l:List Bool) (x:Int),x ∈ rs→x.toNat<l.length→(mark l true rs).getD x.toNat false=true
 | y::rs,l,x,h,hl=>by
  rcases List.mem_cons.1 h with rfl | h
  ·exact QjS rs _ _ (by rw [Q3m,if_pos ⟨rfl,hl⟩])
  ·exact QgI rs _ x h (by simpa using hl)
theorem Qjo {R Q:List α} {x:Ins} (h:Qbt M R x=some Q):Q.length=R.length:=by
 unfold Qbt at h
 obtain⟨v,_,rfl⟩:=Option.map_eq_some_iff.1 h
 exact List.length_set ..
theorem QA1 (l:List Bool) (rs:List Int):(mark l true rs).length=l.length:=Qbr true rs l
theorem Qq9 (base:List Bool):∀ code:List Ins,(QaP base code).1.length=base.length
 | []=>rfl
 | x::rest=>by
  have ih:=Qq9 base rest
  rw[QaP]
  split
  ·rw[QA1,List.length_set,ih]
  ·exact ih
end
structure Key where
 op:Int
 a:Int
 b:Int
 c:Int
 deriving DecidableEq
abbrev Ent:=Key × Int × Int
structure St where
 held:List Int
 keys:List Ent
 next:Int
abbrev encK (k:Key):AV:=.agg [ii k.op,ii k.a,ii k.b,ii k.c]
def QcG (k:Key):List Ent→Option (Nat × Ent)
 | []=>none
 | e::es=>if k=e.1 then some (0,e) else (QcG k es).map fun p=>(p.1+1,p.2)
theorem Q0q {k:Key}:∀ {es:List Ent} {p:Nat × Ent},QcG k es=some p→es[p.1]?=some p.2∧p.2.1=k
 | [],_,h=>by cases h
 | e::es,p,h=>by
  rw[QcG] at h
  split at h
  ·rename_i hk
   injection h with h
   subst h
   exact⟨rfl,hk.symm⟩
  ·obtain⟨q,hq,rfl⟩:=Option.map_eq_some_iff.1 h
   obtain⟨h1,h2⟩:=Q0q hq
   exact⟨by simpa using h1,h2⟩
theorem QBd (o a b c o' a' b' c':Int):Qh3 Tryd.prog 128 (.agg [.c (.int .i64 o),.c (.int .i64 a),.c (.int .i64 b),.c (.int .i64 c)]) (.agg [.c (.int .i64 o'),.c (.int .i64 a'),.c (.int .i64 b'),.c (.int .i64 c')])=some ((o == o')&&((a == a')&&((b == b')&&((c == c')&&true)))):=by kernel_rfl
theorem QHy (k k':Key):Qh3 Tryd.prog 128 (encK k) (encK k')=some (decide (k=k')):=by
 obtain⟨o,a,b,c⟩:=k
 obtain⟨o',a',b',c'⟩:=k'
 rw[encK,encK,QBd]
 congr 1
 rw[Bool.eq_iff_iff]
 simp[and_assoc]
abbrev entsM (f:Ent→Int) (es:List Ent):List (AV × AV):=es.map fun e=>(encK e.1,ii (f e))
theorem Qk0 (f:Ent→Int) (k:Key):∀ es:List Ent,QhJ Tryd.prog 128 (encK k) (entsM f es)=some ((QcG k es).map fun p=>(p.1,ii (f p.2)))
 | []=>rfl
 | e::es=>by
  rw[entsM,List.map_cons,QhJ,QHy,Option.bind_some]
  by_cases h:k=e.1
  ·simp[QcG,h]
  ·rw[decide_eq_false h,if_neg (by simp),show (es.map fun e=>(encK e.1,ii (f e)))=entsM f es from rfl,Qk0 f k es,QcG,if_neg h]
   cases QcG k es<;>rfl
theorem Q3l:mapT Tryd.prog 90=some (128,3):=by kernel_rfl
theorem QjU (o a b c:Int):QdU Tryd.prog 128 (.agg [.c (.int .i64 o),.c (.int .i64 a),.c (.int .i64 b),.c (.int .i64 c)])=true:=by kernel_rfl
theorem QDb:zeroV Tryd.prog 3=some (ii 0):=by kernel_rfl
theorem Q6b {H:Heap} {id:Nat} {t:TypeId} {f:Ent→Int} {es:List Ent} {k:Key} {p:Nat × Ent} (h:H[id]?=some (.map t (entsM f es))) (hl:QcG k es=some p) :
  QbJ Tryd.prog H 90 (.hmap id) (encK k) true=some (.tup [ii (f p.2),bb true]):=by
 unfold QbJ
 rw[Q3l,Option.bind_some,if_pos (QjU _ _ _ _)]
 simp only[h,Option.bind_some,Qk0,hl,Option.map_some,if_true]
theorem Q9F {H:Heap} {id:Nat} {t:TypeId} {f:Ent→Int} {es:List Ent} {k:Key} (h:H[id]?=some (.map t (entsM f es))) (hl:QcG k es=none) :
  QbJ Tryd.prog H 90 (.hmap id) (encK k) true=some (.tup [ii 0,bb false]):=by
 unfold QbJ
 rw[Q3l,Option.bind_some,if_pos (QjU _ _ _ _)]
 simp only[h,Option.bind_some,Qk0,hl,Option.map_none,if_true,QDb,Option.map_some]
theorem Qoi {H:Heap} {id:Nat} {t:TypeId} {f:Ent→Int} {es:List Ent} {k:Key} {p:Nat × Ent} (h:H[id]?=some (.map t (entsM f es))) (hl:QcG k es=some p) :
  QbJ Tryd.prog H 90 (.hmap id) (encK k) false=some (ii (f p.2)):=by
 unfold QbJ
 rw[Q3l,Option.bind_some,if_pos (QjU _ _ _ _)]
 simp only[h,Option.bind_some,Qk0,hl,Option.map_some,Bool.false_eq_true,if_false]
theorem Qsj {H:Heap} {id:Nat} {t:TypeId} {f:Ent→Int} {es:List Ent} {k:Key} (h:H[id]?=some (.map t (entsM f es))) (hl:QcG k es=none) :
  Qc4 Tryd.prog H 90 (.hmap id) (encK k)=some (.tup [ii 0,ii es.length],H.set id (.map t (entsM f es++[(encK k,ii 0)]))):=by
 unfold Qc4
 rw[Q3l,Option.bind_some,if_pos (QjU _ _ _ _)]
 simp only[h,Option.bind_some,Qk0,hl,Option.map_none,QDb,Option.map_some,List.length_map]
theorem Qvv {H:Heap} {id:Nat} {t:TypeId} {f:Ent→Int} {es:List Ent} {k:Key} {x:Int} (h:H[id]?=some (.map t (entsM f es++[(encK k,ii 0)]))) :
  Qb9 H (.hmap id) (ii es.length) (ii x)=some (H.set id (.map t (entsM f es++[(encK k,ii x)]))):=by
 have hl:(entsM f es).length=es.length:=by simp
 unfold Qb9
 simp only[h]
 rw[if_pos (by omega),Int.toNat_natCast,← hl,List.getElem?_concat_length,Option.map_some,List.set_append_right _ _ (Nat.le_refl _),Nat.sub_self]
 rfl
def keyM (held:List Int) (i:Ins):Key :=
 let a:=held.getD i.a.toNat 0
 let b:=if i.op=3∨i.op=4 then held.getD i.b.toNat 0 else -1
 if i.op=3∧b<a then ⟨i.op,b,a,i.c⟩ else ⟨i.op,a,b,i.c⟩
theorem QlN {held:List Int} {i:Ins} (h3:i.op=3) (hlt:held.getD i.b.toNat 0<held.getD i.a.toNat 0):keyM held i=⟨i.op,held.getD i.b.toNat 0,held.getD i.a.toNat 0,i.c⟩:=by
 unfold keyM
 simp only[h3,true_or,if_true,hlt,and_self]
theorem QjH {held:List Int} {i:Ins} (h:i.op=3∨i.op=4) (hn:¬ (i.op=3∧held.getD i.b.toNat 0<held.getD i.a.toNat 0)):keyM held i=⟨i.op,held.getD i.a.toNat 0,held.getD i.b.toNat 0,i.c⟩:=by
 unfold keyM
 simp only[h,if_true]
 rw[if_neg hn]
theorem Qry {held:List Int} {i:Ins} (h:¬ (i.op=3∨i.op=4)):keyM held i=⟨i.op,held.getD i.a.toNat 0,-1,i.c⟩:=by
 unfold keyM
 simp only[h,if_false]
 rw[if_neg (fun h'=>h (.inl h'.1))]
theorem Qbc (m:Nat) (f:Ent→Int) (es:List Ent):((entsM f es).all fun e=>AV.under m e.1&&AV.under m e.2)=true:=by
 induction es with
 | nil=>rfl
 | cons e es ih=>rw [entsM,List.map_cons,List.all_cons,ih];rfl
theorem Qdx (f:Ent→Int):∀ es:List Ent,Qi7 (entsM f es)=[]
 | []=>rfl
 | e::es=>by rw [entsM,List.map_cons,Qi7,show es.map (fun e=>(encK e.1,ii (f e)))=entsM f es from rfl,Qdx f es];rfl
theorem Qdu (ρ:Nat→Option Nat) (f:Ent→Int):∀ es:List Ent,QmN ρ (entsM f es)=some (entsM f es)
 | []=>rfl
 | e::es=>by rw [entsM,List.map_cons,QmN,show es.map (fun e=>(encK e.1,ii (f e)))=entsM f es from rfl,Qdu ρ f es];rfl
abbrev tabO (S:St):AObj:=.cells 92 [.hsl 1 0 S.held.length S.held.length 1,.hmap 2,.hmap 3,ii S.next]
abbrev knO (es:List Ent):AObj:=.map 90 (entsM (fun e=>e.2.1) es)
abbrev fsO (es:List Ent):AObj:=.map 90 (entsM (fun e=>e.2.2) es)
abbrev tabH (S:St):Heap:=[tabO S,rI S.held,knO S.keys,fsO S.keys]
theorem Q9H (k:Nat) (S:St) (o t a b c:Int) (ha:0≤a∧a<S.held.length) (hb:o=3∨o=4→0≤b∧b<S.held.length) :
  Qav Tryd.prog (Qac tab) (k+2) (.fn 68) [.ptr 0 0,aI o t a b c] (tabH S)=some (encK (keyM S.held ⟨o,t,a,b,c⟩),tabH S):=by
 obtain⟨a0,a1⟩:=ha
 have hel:=Qaj S.held
 have hxa:=QaL a0 a1
 have hA:=QeJ k o t a b c
 simp only[run,aI,ii] at hA
 rw[ev68]
 simp only[Tryd.f68,aI,ii,FT,seval]
 rw[Qaf Tryd.f68 1 QEQ];rotate_left;rfl
 simp only[a0,a1,hel,hxa,hA,EVd,List.getElem?_nil,Nat.reducePow,Nat.reduceDiv,Nat.reduceMod,FT,seval]
 by_cases h34:o=3∨o=4
 ·obtain⟨b0,b1⟩:=hb h34
  have hxb:=QaL b0 b1
  have hl2:(asks ⟨o,t,a,b,c⟩).length=2:=by rw [Qdc h34];rfl
  have h12:(1:Int)<((2:Nat):Int):=by decide
  simp only[hl2,h12,FT,seval]
  rw[Qaf Tryd.f68 3 QFM];rotate_left;rfl
  simp only[a0,a1,b0,b1,hel,hxa,hxb,EVd,List.getElem?_nil,Nat.reducePow,Nat.reduceDiv,Nat.reduceMod,FT,seval]
  by_cases h3:o=3
  ·subst h3
   by_cases hlt:S.held.getD b.toNat 0<S.held.getD a.toNat 0
   ·simp only[hlt,QlN (held:=S.held) (i:=⟨3,t,a,b,c⟩) rfl hlt,Qbc,FT,seval]
   ·simp only[hlt,QjH (held:=S.held) (i:=⟨3,t,a,b,c⟩) (.inl rfl) (fun h=>hlt h.2),Qbc,FT,seval]
  ·simp only[h3,QjH (held:=S.held) (i:=⟨o,t,a,b,c⟩) h34 (fun h=>h3 h.1),Qbc,FT,seval]
 ·have hl1:¬ (1:Int)<((asks ⟨o,t,a,b,c⟩).length:Int):=by
   unfold asks
   rw[if_neg h34]
   split<;>simp
  have h3:¬ o=3:=fun h=>h34 (.inl h)
  simp only[hl1,h3,Qry (held:=S.held) (i:=⟨o,t,a,b,c⟩) h34,Qbc,FT,seval]
def Qbj (S:St) (n:Int) (i:Ins):Int × Int × St :=
 if i.op=1 then (S.held.getD i.a.toNat 0,-1,S) else
 match QcG (keyM S.held i) S.keys with
 | some p=>(p.2.2.1,p.2.2.2,S)
 | none=>(S.next,n,{ S with keys:=S.keys++[(keyM S.held i,S.next,n)],next:=S.next+1 })
theorem Qq8 {k:Key} {v n:Int}:∀ {es:List Ent},QcG k es=none→QcG k (es++[(k,v,n)])=some (es.length,(k,v,n))
 | [],_=>by simp [QcG]
 | e::es,h=>by
  rw[QcG] at h
  split at h
  ·cases h
  ·rename_i hk
   have h':QcG k es=none:=by cases hh:QcG k es with | none=>rfl | some p=>rw [hh] at h;cases h
   rw[List.cons_append,QcG,if_neg hk,Qq8 h']
   simp
theorem QtO (f:Ent→Int) (es:List Ent) (e:Ent):entsM f es++[(encK e.1,ii (f e))]=entsM f (es++[e]):=by simp [entsM]
theorem QyH {x0 x1:AObj} {t:TypeId} {f:Ent→Int} {es:List Ent} {k:Key} {p:Nat × Ent} {X:Heap} (hl:QcG k es=some p) :
  QbJ Tryd.prog (x0::x1 :: .map t (entsM f es)::X) 90 (.hmap 2) (encK k) true=some (.tup [ii (f p.2),bb true]):=Q6b rfl hl
theorem Q5D {x0 x1:AObj} {t:TypeId} {f:Ent→Int} {es:List Ent} {k:Key} {X:Heap} (hl:QcG k es=none) :
  QbJ Tryd.prog (x0::x1 :: .map t (entsM f es)::X) 90 (.hmap 2) (encK k) true=some (.tup [ii 0,bb false]):=Q9F rfl hl
theorem Qlp {x0 x1:AObj} {t:TypeId} {f:Ent→Int} {es:List Ent} {k:Key} {p:Nat × Ent} {X:Heap} (hl:QcG k es=some p) :
  QbJ Tryd.prog (x0::x1 :: .map t (entsM f es)::X) 90 (.hmap 2) (encK k) false=some (ii (f p.2)):=Qoi rfl hl
theorem QkA {x0 x1 x2:AObj} {t:TypeId} {f:Ent→Int} {es:List Ent} {k:Key} {p:Nat × Ent} {X:Heap} (hl:QcG k es=some p) :
  QbJ Tryd.prog (x0::x1::x2 :: .map t (entsM f es)::X) 90 (.hmap 3) (encK k) false=some (ii (f p.2)):=Qoi rfl hl
theorem Q5B {x0 x1:AObj} {f:Ent→Int} {es:List Ent} {k:Key} {X:Heap} (hl:QcG k es=none) :
  Qc4 Tryd.prog (x0::x1 :: .map 90 (entsM f es)::X) 90 (.hmap 2) (encK k)=some (.tup [ii 0,ii es.length],x0::x1 :: .map 90 (entsM f es++[(encK k,ii 0)])::X):=by rw [Qsj rfl hl];rfl
theorem Q5C {x0 x1 x2:AObj} {f:Ent→Int} {es:List Ent} {k:Key} {X:Heap} (hl:QcG k es=none) :
  Qc4 Tryd.prog (x0::x1::x2 :: .map 90 (entsM f es)::X) 90 (.hmap 3) (encK k)=some (.tup [ii 0,ii es.length],x0::x1::x2 :: .map 90 (entsM f es++[(encK k,ii 0)])::X):=by rw [Qsj rfl hl];rfl
theorem Q5J {x0 x1:AObj} {f:Ent→Int} {es:List Ent} {k:Key} {x:Int} {X:Heap} :
  Qb9 (x0::x1 :: .map 90 (entsM f es++[(encK k,ii 0)])::X) (.hmap 2) (ii es.length) (ii x)=some (x0::x1 :: .map 90 (entsM f es++[(encK k,ii x)])::X):=by rw [Qvv rfl];rfl
theorem Q5G {x0 x1 x2:AObj} {f:Ent→Int} {es:List Ent} {k:Key} {x:Int} {X:Heap} :
  Qb9 (x0::x1::x2 :: .map 90 (entsM f es++[(encK k,ii 0)])::X) (.hmap 3) (ii es.length) (ii x)=some (x0::x1::x2 :: .map 90 (entsM f es++[(encK k,ii x)])::X):=by rw [Qvv rfl];rfl
theorem Q5j (k:Nat) (S:St) (n:Int) (o t a b c:Int)
  (ha:0≤a∧a<S.held.length) (hb:o=3∨o=4→0≤b∧b<S.held.length) (hn:0≤S.next∧S.next<1000000) :
  Qav Tryd.prog (Qac tab) (k+3) (.fn 41) [.ptr 0 0,ii n,aI o t a b c] (tabH S)=some (.tup [ii (Qbj S n ⟨o,t,a,b,c⟩).1,ii (Qbj S n ⟨o,t,a,b,c⟩).2.1],tabH (Qbj S n ⟨o,t,a,b,c⟩).2.2):=by
 obtain⟨a0,a1⟩:=ha
 have hel:=Qaj S.held
 have hxa:=QaL a0 a1
 by_cases h1:o=1
 ·subst h1
  have hrk:Qbj S n ⟨1,t,a,b,c⟩=(S.held.getD a.toNat 0,-1,S):=by simp [Qbj]
  rw[hrk]
  rw[ev41]
  simp only[Tryd.f41,aI,ii,FT,seval]
  rw[Qaf Tryd.f41 2 QF7];rotate_left;rfl
  simp only[a0,a1,hel,hxa,Qbc,EVd,List.getElem?_nil,Nat.reducePow,Nat.reduceDiv,Nat.reduceMod,FT,seval]
 ·have hK:=Q9H k S o t a b c ⟨a0,a1⟩ hb
  have hrk:Qbj S n ⟨o,t,a,b,c⟩=match QcG (keyM S.held ⟨o,t,a,b,c⟩) S.keys with
   | some p=>(p.2.2.1,p.2.2.2,S)
   | none=>(S.next,n,{ S with keys:=S.keys++[(keyM S.held ⟨o,t,a,b,c⟩,S.next,n)],next:=S.next+1 }):=by
   rw[Qbj,if_neg h1]
  obtain⟨key,hkey⟩:∃ key,key=keyM S.held ⟨o,t,a,b,c⟩:=⟨_,rfl⟩
  rw[← hkey] at hK hrk
  simp only[aI,ii,encK] at hK
  rw[hrk]
  rw[ev41]
  simp only[Tryd.f41,aI,ii,h1,hK,Qdx,Qdu,FT,seval]
  cases hlk:QcG key S.keys with
  | some p =>
   have hl1:=fun x0 x1 X=>QyH (x0:=x0) (x1:=x1) (X:=X) (t:=90) (f:=fun e=>e.2.1) hlk
   have hl2:=fun x0 x1 X=>Qlp (x0:=x0) (x1:=x1) (X:=X) (t:=90) (f:=fun e=>e.2.1) hlk
   have hl3:=fun x0 x1 x2 X=>QkA (x0:=x0) (x1:=x1) (x2:=x2) (X:=X) (t:=90) (f:=fun e=>e.2.2) hlk
   simp only[encK,ii,bb] at hl1 hl2 hl3
   rw[Qaf Tryd.f41 4 QDi];rotate_left;rfl
   simp only[hl1,EVd,List.getElem?_nil,Nat.reducePow,Nat.reduceDiv,Nat.reduceMod,FT,seval]
   rw[Qaf Tryd.f41 8 QCa];rotate_left;rfl
   simp only[hl1,hl2,hl3,Qbc,EVd,List.getElem?_nil,Nat.reducePow,Nat.reduceDiv,Nat.reduceMod,FT,seval]
  | none =>
   have hl1:=fun x0 x1 X=>Q5D (x0:=x0) (x1:=x1) (X:=X) (t:=90) (f:=fun e=>e.2.1) hlk
   have he1:=fun x0 x1 X=>Q5B (x0:=x0) (x1:=x1) (X:=X) (f:=fun e=>e.2.1) hlk
   have he2:=fun x0 x1 X=>Q5J (x0:=x0) (x1:=x1) (X:=X) (f:=fun e=>e.2.1) (es:=S.keys) (k:=key) (x:=S.next)
   have he3:=fun x0 x1 x2 X=>Q5C (x0:=x0) (x1:=x1) (x2:=x2) (X:=X) (f:=fun e=>e.2.2) hlk
   have he4:=fun x0 x1 x2 X=>Q5G (x0:=x0) (x1:=x1) (x2:=x2) (X:=X) (f:=fun e=>e.2.2) (es:=S.keys) (k:=key) (x:=n)
   have hw:IntKind.wrap .i64 (S.next+1)=S.next+1:=wrap64 (by omega) (by omega)
   have hlk2:=Qq8 (v:=S.next) (n:=n) hlk
   have hl5:=fun x0 x1 X=>Qlp (x0:=x0) (x1:=x1) (X:=X) (t:=90) (f:=fun e=>e.2.1) hlk2
   have hl6:=fun x0 x1 x2 X=>QkA (x0:=x0) (x1:=x1) (x2:=x2) (X:=X) (t:=90) (f:=fun e=>e.2.2) hlk2
   have s1:=QtO (fun e=>e.2.1) S.keys (key,S.next,n)
   have s2:=QtO (fun e=>e.2.2) S.keys (key,S.next,n)
   simp only[encK,ii,bb] at hl1 he1 he2 he3 he4 hl5 hl6 s1 s2
   rw[Qaf Tryd.f41 4 QDi];rotate_left;rfl
   simp only[hl1,EVd,List.getElem?_nil,Nat.reducePow,Nat.reduceDiv,Nat.reduceMod,FT,seval]
   rw[Qaf Tryd.f41 6 QFh];rotate_left;rfl
   simp only[hw,he1,he2,he3,he4,s1,s2,EVd,List.getElem?_nil,Nat.reducePow,Nat.reduceDiv,Nat.reduceMod,FT,seval]
   rw[Qaf Tryd.f41 8 QCa];rotate_left;rfl
   simp only[hl5,hl6,Qbc,EVd,List.getElem?_nil,Nat.reducePow,Nat.reduceDiv,Nat.reduceMod,FT,seval]
end Go.Proofs.Sw
