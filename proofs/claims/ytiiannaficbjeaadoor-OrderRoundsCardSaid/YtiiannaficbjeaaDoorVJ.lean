/- A part of the proof: what functions of the program answer; conditions stand in each theorem. -/
import Derived.Test.YtiiannaficbjeaaDoorVI
import Derived.Test.YtiiannaficbjeaaDoorVE
import Derived.Test.YtiiannaficbjeaaDoorVB
import Derived.Test.YtiiannaficbjeaaDoorVC
import Derived.Test.YtiiannaficbjeaaDoorVA
import Derived.Test.YtiiannaficbjeaaDoorRows
import Derived.Test.YtiiannaficbjeaaDoorChecked
import Derived.Test.YtiiannaficbjeaaDoorAbLaw
import Derived.ProofKit
import Derived.LaidMore
import Derived.OpenShut
import Derived.Stop.Joined
import Derived.WalkKit
set_option linter.unusedVariables false
set_option linter.unusedSimpArgs false
set_option linter.unusedSectionVars false
namespace Go.Proofs.Sw
open Go.Ab
variable [Globals]
def zRw (L:Nat):Rw:=⟨List.replicate L zR,false,none⟩
def iniR (g:List Rw) (L n i:Nat):List Rw:=(List.range n).map fun r=>if r<i then (if r<g.length then g.getD r dR else zRw L) else dR
theorem Qe1 (g:List Rw) (L n i:Nat):(iniR g L n i).length=n:=by simp [iniR]
theorem QBn (n:Nat):(List.replicate n [IV.slice [] 0 true (some 0)]).flatten=encW (List.replicate n dR):=by
 induction n with
 | zero=>rfl
 | succ n ih=>rw [List.replicate_succ,List.flatten_cons,ih];rfl
theorem QAe (g:List Rw) (L n:Nat):iniR g L n 0=List.replicate n dR:=by
 unfold iniR
 simp only[Nat.not_lt_zero,if_false]
 rw[List.map_const',List.length_range]
theorem QBe {g:List Rw} {L n i:Nat} (hi:i<n):(iniR g L n i).set i (if i<g.length then g.getD i dR else zRw L)=iniR g L n (i+1):=by
 apply List.ext_getElem?
 intro r
 rw[List.getElem?_set]
 unfold iniR
 simp only[List.getElem?_map,List.length_map,List.length_range,List.getElem?_range']
 by_cases h:i=r
 ·subst h
  simp[hi]
 ·rw[if_neg h]
  by_cases hr:r<n
  ·simp only[List.getElem?_range hr,Option.map_some]
   by_cases h2:r<i
   ·rw[if_pos h2,if_pos (show r<i+1 by omega)]
   ·rw[if_neg h2,if_neg (show ¬ r<i+1 by omega)]
  ·have:(List.range n)[r]?=none:=List.getElem?_eq_none (by simp;omega)
   rw[this];rfl
abbrev loW (R:List Rw):AObj:=lo 55 R.length (encW R)
abbrev bxP (ins:Int) (n:Nat) (code:List Ins) (nl:Bool) (cap:Option Nat) (outs:List Int) (nl2:Bool) (cap2:Option Nat):AObj:=.cells 25 [ii ins,ii n,sC code nl cap,sI outs nl2 cap2]
theorem Q6l (kf:Nat) (ins:Int) (n:Nat) (code:List Ins) (nl:Bool) (cap:Option Nat) (outs:List Int) (nl2:Bool) (cap2:Option Nat) (g:List Rw) (nl3:Bool) (cap3:Option Nat) (L:Nat) (hL:L≤1000) (hg:0<g.length) (hg0:(g.getD 0 dR).l.length=L) (hn:n≤128) (k:Nat) (l:Ass) (z:Option Out) (hz:Qar Tryd.prog tab (kf+1) none Q2p 46 97 [1,2,7,8] 4 k l ([.slot,.slot,bxP ins n code nl cap outs nl2 cap2,rW (iniR g L n 0)])=z) (hk:n<k) (a1:asc l 1=sW g nl3 cap3) (a2:asc l 2=.ptr 2 0) (a7:asc l 7=.hsl 3 0 n n 1) (a8:asc l 8=ii 0) :
  ∃ l',z=some (.exit 0 (fr 97 l') ([.slot,.slot,bxP ins n code nl cap outs nl2 cap2,rW (iniR g L n n)]))∧asc l' 1=sW g nl3 cap3∧asc l' 2=.ptr 2 0∧asc l' 7=.hsl 3 0 n n 1∧asc l' 8=ii n:=by
 subst hz
 refine Qa1 n (fun k l H=>Qar Tryd.prog tab (kf+1) none Q2p 46 97 [1,2,7,8] 4 k l H)
  (fun i l H=>asc l 1=sW g nl3 cap3∧asc l 2=.ptr 2 0∧asc l 7=.hsl 3 0 n n 1∧asc l 8=ii i∧∃ G,H=([.slot,.slot,bxP ins n code nl cap outs nl2 cap2,rW (iniR g L n i)])++G)
  (fun z=>∃ l',z=some (.exit 0 (fr 97 l') ([.slot,.slot,bxP ins n code nl cap outs nl2 cap2,rW (iniR g L n n)]))∧asc l' 1=sW g nl3 cap3∧asc l' 2=.ptr 2 0∧asc l' 7=.hsl 3 0 n n 1∧asc l' 8=ii n) ?_ n 0 k l _ (by omega) hk ⟨a1,a2,a7,a8,[],by rw [List.append_nil]⟩
 clear hk a1 a2 a7 a8
 rintro i k l H hi ⟨a1,a2,a7,a8,G,rfl⟩
 have ht:trim 4 (fr 97 (keep l [1,2,7,8])) (([.slot,.slot,bxP ins n code nl cap outs nl2 cap2,rW (iniR g L n i)])++G)=([.slot,.slot,bxP ins n code nl cap outs nl2 cap2,rW (iniR g L n i)]):=Qa4 (by simp) (by simp only [a1,a2,a7,a8,EVb,EVc,seval]) (by simp only [EVb,EVc,seval])
 by_cases hc:i<n
 ·have hc':(i:Int)<((n:Nat):Int):=by omega
  have hc0:(0:Int)≤i:=by omega
  have hw:IntKind.wrap .i64 ((i:Int)+1)=((i+1:Nat):Int):=by rw [wrap64 (by omega) (by omega)];omega
  have hz:=QEp kf L (by omega)
  simp only[run,ii] at hz
  have hgl:=QaZ g
  have hx0:=Qhj hg
  have hg0':(0:Int)<g.length:=by omega
  have hil:(encW (iniR g L n i)).length=n:=by rw [QaZ,Qe1]
  have hset:=QBe (g:=g) (L:=L) hc
  have hz1:(encW (iniR g L n i)).set i (.slice (encR (List.replicate L zR)) (List.replicate L zR).length false none)=encW ((iniR g L n i).set i (zRw L)):=Qr8 (x:=zRw L)
  have hsl:(encW ((iniR g L n i).set i (zRw L))).length=n:=by rw [QaZ,List.length_set,Qe1]
  by_cases hig:i<g.length
  ·have hig':(i:Int)<g.length:=by omega
   have hxi:=Qhj hig
   have hz2:(encW ((iniR g L n i).set i (zRw L))).set i (iRw (g.getD i dR))=encW (((iniR g L n i).set i (zRw L)).set i (g.getD i dR)):=Qr8
   rw[List.set_set] at hz2
   rw[if_pos hig] at hset
   rw[hset] at hz2
   simp only[Qaa,ht]
   simp only[a1,a2,a7,a8,hc',hc0,hw,hc,hg0',hx0,hg0,hz,hgl,hil,hz1,hsl,hig',hxi,hz2,Qaa,Qag,Qae,Qab,LP,Tryd.f46,FT,seval]
   exact .inr ⟨_,_,rfl,(by rfl),(by rfl),(by rfl),(by rfl),⟨_,by rfl⟩⟩
  ·have hig':¬ (i:Int)<g.length:=by omega
   rw[if_neg hig] at hset
   rw[hset] at hz1
   simp only[Qaa,ht]
   simp only[a1,a2,a7,a8,hc',hc0,hw,hc,hg0',hx0,hg0,hz,hgl,hil,hz1,hig',Qaa,Qag,Qae,Qab,LP,Tryd.f46,FT,seval]
   exact .inr ⟨_,_,rfl,(by rfl),(by rfl),(by rfl),(by rfl),⟨_,by rfl⟩⟩
 ·refine .inl ?_
  obtain rfl:i=n:=by omega
  have hc':¬ (((i:Nat):Int)<((i:Nat):Int)):=by omega
  simp only[Qaa,ht]
  simp only[a1,a2,a7,a8,hc',Qaa,Qag,Qae,Qab,LP,Tryd.f46,FT,seval]
  exact⟨_,rfl,(by rfl),(by rfl),(by rfl),(by rfl)⟩
theorem QG6 {x:Ins} {n:Nat} (h:mayM x n=true):0≤x.b∧x.b<(n:Int):=by
 obtain⟨_,_,m6,m7⟩:=QaO h
 by_cases e:x.op=3∨x.op=4
 ·exact m7 e
 ·simp only[mayM,Bool.and_eq_true,decide_eq_true_eq] at h
  obtain⟨⟨⟨⟨_,_,_,_,h5⟩,_⟩,_⟩,_⟩:=h
  omega
theorem Qmn {R:List Rw} {r:Int} (h0:0≤r) (h:r<R.length) (d:List Int):(R.map Rw.vals).getD r.toNat d=(R.getD r.toNat dR).vals:=by
 have:r.toNat<R.length:=by omega
 simp[List.getD_eq_getElem?_getD,this]
theorem Q5t {L:Nat} {R:List Rw} {x:Ins} (h:mayM x R.length=true):Qbt (QbX L) (R.map Rw.vals) x=(rowF x.op x.c (R.getD x.a.toNat dR).vals (R.getD x.b.toNat dR).vals).map fun v=>(R.map Rw.vals).set x.to.toNat v:=by
 obtain⟨_,_,⟨a0,a1⟩,_⟩:=QaO h
 obtain⟨b0,b1⟩:=QG6 h
 unfold Qbt
 rw[Qmn a0 a1,Qmn b0 b1]
 rfl
theorem Qjf {l:List Ins} {i:Nat} (h:i<l.length):(Qak l)[i * 5]?=some (.int .i64 l[i].op)∧(Qak l)[i * 5+1]?=some (.int .i64 l[i].to):=by
 have hd:=Qfk l i
 rw[List.drop_eq_getElem_cons h,Qak] at hd
 constructor
 ·have:=congrArg (·[0]?) hd
  simpa [List.getElem?_drop] using this
 ·have:=congrArg (·[1]?) hd
  simpa [List.getElem?_drop] using this
theorem Q4P (kf:Nat) (ins:Int) (n:Nat) (code:List Ins) (nl:Bool) (cap:Option Nat) (outs:List Int) (nl2:Bool) (cap2:Option Nat) (L:Nat) (hL:L≤1000) (hn:n≤128) (R0:List Rw) (hR0:R0.length=n) (hS0:∀ r ∈ R0,SzR L 4 r) (hcode:∀ x ∈ code,mayM x n=true) (hcl:code.length≤200) (hkf:50000≤kf) (k:Nat) (l:Ass) (z:Option Out) (hz:Qar Tryd.prog tab (kf+7) none Qra 46 97 [2,7,9,10] 4 k l ([loW nW,.slot,bxP ins n code nl cap outs nl2 cap2,rW R0])=z) (hk:code.length<k) (a2:asc l 2=.ptr 2 0) (a7:asc l 7=.hsl 3 0 n n 1) (a9:asc l 9=lv 0 1 nW.length) (a10:asc l 10=ii 0) :
  (∃ l' R Z,z=some (.exit 2 (fr 97 l') [loW Z,.slot,bxP ins n code nl cap outs nl2 cap2,rW R])∧asc l' 2=.ptr 2 0∧asc l' 7=.hsl 3 0 n n 1∧asc l' 9=lv 0 1 Z.length∧runE (QbX L) code (R0.map Rw.vals)=some (R.map Rw.vals)∧R.length=n∧(∀ r ∈ R,SzR L (4+6 * code.length) r)∧Z.length≤200)∨(runE (QbX L) code (R0.map Rw.vals)=none∧∃ (l':Ass) (Z:List Rw) (j:Nat) (X:Heap),z=some (.ret (fr 97 l') (loW Z::X))∧asc l' 4=lv 0 1 Z.length∧asc l' 5=ii j∧asc l' 6=.c (.slice [] 0 true (some 0))):=by
 subst hz
 refine Qa1 code.length (fun k l H=>Qar Tryd.prog tab (kf+7) none Qra 46 97 [2,7,9,10] 4 k l H)
  (fun i l H=>∃ (R:List Rw),∃ (Z:List Rw),asc l 2=.ptr 2 0∧asc l 7=.hsl 3 0 n n 1∧asc l 9=lv 0 1 Z.length∧asc l 10=ii i∧(runE (QbX L) (code.take i) (R0.map Rw.vals)=some (R.map Rw.vals)∧R.length=n∧(∀ r ∈ R,SzR L (4+6 * i) r)∧Z.length=i)∧∃ G,H=([loW Z,.slot,bxP ins n code nl cap outs nl2 cap2,rW R])++G)
  (fun z=>(∃ l' R Z,z=some (.exit 2 (fr 97 l') [loW Z,.slot,bxP ins n code nl cap outs nl2 cap2,rW R])∧asc l' 2=.ptr 2 0∧asc l' 7=.hsl 3 0 n n 1∧asc l' 9=lv 0 1 Z.length∧runE (QbX L) code (R0.map Rw.vals)=some (R.map Rw.vals)∧R.length=n∧(∀ r ∈ R,SzR L (4+6 * code.length) r)∧Z.length≤200)∨(runE (QbX L) code (R0.map Rw.vals)=none∧∃ (l':Ass) (Z:List Rw) (j:Nat) (X:Heap),z=some (.ret (fr 97 l') (loW Z::X))∧asc l' 4=lv 0 1 Z.length∧asc l' 5=ii j∧asc l' 6=.c (.slice [] 0 true (some 0)))) ?_ code.length 0 k l _ (by omega) hk ⟨R0,nW,a2,a7,a9,a10,⟨rfl,hR0,hS0,rfl⟩,[],by rw [List.append_nil]⟩
 clear hk a2 a7 a9 a10
 rintro i k l H hi ⟨R,Z,a2,a7,a9,a10,hp,G,rfl⟩
 have ht:trim 4 (fr 97 (keep l [2,7,9,10])) (([loW Z,.slot,bxP ins n code nl cap outs nl2 cap2,rW R])++G)=([loW Z,.slot,bxP ins n code nl cap outs nl2 cap2,rW R]):=Qa4 (by simp) (by simp only [a2,a7,a9,a10,Qcz,Qda,EVb,EVc,seval]) (by simp only [Qcz,Qda,EVb,EVc,seval])
 by_cases hc:i<code.length
 ·have hc':(i:Int)<((code.length:Nat):Int):=by omega
  have hc0:(0:Int)≤i:=by omega
  have hw:IntKind.wrap .i64 ((i:Int)+1)=((i+1:Nat):Int):=by rw [wrap64 (by omega) (by omega)];omega
  obtain⟨hp,hRl,hRS,hZl⟩:=hp
  have hx:=Qbg hc
  have hxt:=(Qjf hc).2
  obtain⟨x,hX⟩:∃ x,x=code[i]:=⟨_,rfl⟩
  rw[← hX] at hx hxt
  have hm:=hcode x (by rw [hX];exact List.getElem_mem hc)
  rw[← hRl] at hm
  have hm':=hm
  obtain⟨_,⟨t0,t1⟩,_,_⟩:=QaO hm'
  have hd:=do_ev kf x.op x.to x.a x.b x.c R L (4+6 * i) hL (by omega) hRS hm hkf
  have hst:=Q5t (L:=L) hm
  have hrun:runE (QbX L) (code.take (i+1)) (R0.map Rw.vals)=Qbt (QbX L) (R.map Rw.vals) x:=by
   rw[List.take_succ_eq_append_getElem hc,Qc5,hp,← hX];rfl
  rw[hst] at hrun
  have hel:=QaZ R
  have htk:(encW R).take R.length=encW R:=List.take_of_length_le (by rw [hel];exact Nat.le_refl _)
  subst hRl
  simp only[aI,ii,bb] at hd
  have hap:=fun (X:Heap) (y:IV)=>QcN (e:=55) (n:=Z.length) (sz:=1) (by_:=24) (cells:=encW Z) (cs:=[y]) (X:=X) (Nat.le_trans (Nat.mul_le_mul_right 24 (show Z.length+1≤20001 by omega)) (by decide)) (by decide) (by rw [QaZ,Nat.mul_one])
  have hsz:(loW Z).under 4=true:=Qcz
  rcases hd with ⟨hq,hd⟩ | ⟨y,hq,hSy,hd⟩
  ·rw[hq] at hrun
   refine .inl (.inr ⟨?_, ?_⟩)
   ·have e:=List.take_append_drop (i+1) code
    rw[← e,QdD,hrun];rfl
   ·simp only[Qaa,ht]
    simp only[a2,a7,a9,a10,hc',hc0,hw,hx,hel,htk,hd,hsz,Qaa,Qag,Qae,Qab,LP,Tryd.f46,FT,seval]
    exact⟨_,Z,i,_,rfl,(by rfl),(by rfl),(by rfl)⟩
  ·rw[hq] at hrun
   have hset:(encW R).set x.to.toNat (.slice (encR y.l) y.l.length y.nl y.cap)=encW (R.set x.to.toNat y):=Qr8 (x:=y)
   have happ:encW Z++[.slice (encR y.l) y.l.length y.nl y.cap]=encW (Z++[y]):=by rw [Qgu];rfl
   have hzl1:(Z++[y]).length=Z.length+1:=by simp
   have ht0:x.to.toNat<R.length:=by omega
   simp only[Qaa,ht]
   simp only[a2,a7,a9,a10,hc',hc0,hw,hx,hxt,hel,htk,hd,t0,t1,ht0,hset,hap,hsz,Qaa,Qag,Qae,Qab,LP,Tryd.f46,FT,seval]
   refine .inr ⟨_,_,hc,rfl,R.set x.to.toNat y,Z++[y],(by rfl),(by rfl),(by rw [hzl1];rfl),(by rfl),⟨?_,by simp, ?_, ?_⟩,⟨_,by rw [loW,hzl1,← happ]⟩⟩
   ·rw[hrun,List.map_set];rfl
   ·intro r hr
    rcases List.mem_or_eq_of_mem_set hr with hr | rfl
    ·exact(hRS r hr).mono (by omega)
    ·exact hSy.mono (by omega)
   ·omega
 ·refine .inl ?_
  obtain rfl:i=code.length:=by omega
  have hc':¬ (((code.length:Nat):Int)<((code.length:Nat):Int)):=by omega
  obtain⟨hp,hRl,hRS,hZl⟩:=hp
  have hsz:(loW Z).under 4=true:=Qcz
  rw[List.take_of_length_le (Nat.le_refl _)] at hp
  simp only[Qaa,ht]
  simp only[a2,a7,a9,a10,hc',hsz,Qaa,Qag,Qae,Qab,LP,Tryd.f46,FT,seval]
  exact .inl ⟨_,R,Z,rfl,(by rfl),(by rfl),(by rfl),hp,hRl,hRS,by omega⟩
def outR (R:List Rw) (outs:List Int) (i:Nat):List Rw:=(outs.take i).map fun r=>R.getD r.toNat dR
theorem Q98 {R:List Rw} {outs:List Int} {i:Nat} (h:i<outs.length):outR R outs (i+1)=outR R outs i++[R.getD outs[i].toNat dR]:=by
 unfold outR
 rw[List.take_succ_eq_append_getElem h,List.map_append];rfl
theorem Qzn {R:List Rw} {outs:List Int} {i:Nat} (h:i≤outs.length):(outR R outs i).length=i:=by
 unfold outR
 rw[List.length_map,List.length_take];omega
theorem Q4W (kf:Nat) (ins:Int) (n:Nat) (code:List Ins) (nl:Bool) (cap:Option Nat) (outs:List Int) (nl2:Bool) (cap2:Option Nat) (Z R:List Rw) (hR:R.length=n) (hout:∀ r ∈ outs,0≤r∧r<(n:Int)) (ho:outs.length≤200) (k:Nat) (l:Ass) (z:Option Out) (hz:Qar Tryd.prog tab kf none Qr6 46 97 [2,7,9,13,14] 4 k l ([loW Z,lo 55 0 (encW (outR R outs 0)),bxP ins n code nl cap outs nl2 cap2,rW R])=z) (hk:outs.length<k) (a2:asc l 2=.ptr 2 0) (a7:asc l 7=.hsl 3 0 n n 1) (a9:asc l 9=lv 0 1 Z.length) (a13:asc l 13=lv 1 1 0) (a14:asc l 14=ii 0) :
  ∃ l',z=some (.exit 4 (fr 97 l') ([loW Z,lo 55 outs.length (encW (outR R outs outs.length)),bxP ins n code nl cap outs nl2 cap2,rW R]))∧asc l' 2=.ptr 2 0∧asc l' 7=.hsl 3 0 n n 1∧asc l' 9=lv 0 1 Z.length∧asc l' 13=lv 1 1 outs.length∧asc l' 14=ii outs.length:=by
 subst hz
 refine Qa1 outs.length (fun k l H=>Qar Tryd.prog tab kf none Qr6 46 97 [2,7,9,13,14] 4 k l H)
  (fun i l H=>asc l 2=.ptr 2 0∧asc l 7=.hsl 3 0 n n 1∧asc l 9=lv 0 1 Z.length∧asc l 13=lv 1 1 i∧asc l 14=ii i∧∃ G,H=([loW Z,lo 55 i (encW (outR R outs i)),bxP ins n code nl cap outs nl2 cap2,rW R])++G)
  (fun z=>∃ l',z=some (.exit 4 (fr 97 l') ([loW Z,lo 55 outs.length (encW (outR R outs outs.length)),bxP ins n code nl cap outs nl2 cap2,rW R]))∧asc l' 2=.ptr 2 0∧asc l' 7=.hsl 3 0 n n 1∧asc l' 9=lv 0 1 Z.length∧asc l' 13=lv 1 1 outs.length∧asc l' 14=ii outs.length) ?_ outs.length 0 k l _ (by omega) hk ⟨a2,a7,a9,a13,a14,[],by rw [List.append_nil]⟩
 clear hk a2 a7 a9 a13 a14
 rintro i k l H hi ⟨a2,a7,a9,a13,a14,G,rfl⟩
 have ht:trim 4 (fr 97 (keep l [2,7,9,13,14])) (([loW Z,lo 55 i (encW (outR R outs i)),bxP ins n code nl cap outs nl2 cap2,rW R])++G)=([loW Z,lo 55 i (encW (outR R outs i)),bxP ins n code nl cap outs nl2 cap2,rW R]):=Qa4 (by simp) (by simp only [a2,a7,a9,a13,a14,Qcz,Qda,EVb,EVc,seval]) (by simp only [Qcz,Qda,EVb,EVc,seval])
 by_cases hc:i<outs.length
 ·have hc':(i:Int)<((outs.length:Nat):Int):=by omega
  have hc0:(0:Int)≤i:=by omega
  have hw:IntKind.wrap .i64 ((i:Int)+1)=((i+1:Nat):Int):=by rw [wrap64 (by omega) (by omega)];omega
  have hx:=QaT hc
  have hb:=hout _ (List.getElem_mem hc)
  have hb':outs[i]<(R.length:Int):=by rw [hR];exact hb.2
  have hxr:=Qj9 hb.1 hb'
  have hol:=Qzn (R:=R) (Nat.le_of_lt hc)
  have hos:=Q98 (R:=R) hc
  have hel:=QaZ R
  have hel2:=Qaj outs
  subst hR
  have hap:=fun (X:Heap) (y:IV)=>Qgq (e:=55) (s:=1) (n:=i) (m:=1) (sz:=1) (by_:=24) (cells:=encW (outR R outs i)) (cs:=[y]) (H:=loW Z::lo 55 i (encW (outR R outs i))::X) (by decide) (Nat.le_trans (Nat.mul_le_mul_right 24 (show i+1≤20001 by omega)) (by decide)) (by decide) (by rfl) (by rw [QaZ,hol,Nat.mul_one])
  have happ:encW (outR R outs i)++[iRw (R.getD outs[i].toNat dR)]=encW (outR R outs (i+1)):=by rw [hos,Qgu];rfl
  simp only[Qaa,ht]
  simp only[a2,a7,a9,a13,a14,hc',hc0,hw,hx,hb,hb',hxr,hel,hel2,hap,happ,Qaa,Qag,Qae,Qab,LP,Tryd.f46,FT,seval]
  exact .inr ⟨_,_,hc,rfl,(by rfl),(by rfl),(by rfl),(by rfl),(by rfl),⟨_,by rfl⟩⟩
 ·refine .inl ?_
  obtain rfl:i=outs.length:=by omega
  have hc':¬ (((outs.length:Nat):Int)<((outs.length:Nat):Int)):=by omega
  simp only[Qaa,ht]
  simp only[a2,a7,a9,a13,a14,hc',Qaa,Qag,Qae,Qab,LP,Tryd.f46,FT,seval]
  exact⟨_,rfl,(by rfl),(by rfl),(by rfl),(by rfl),(by rfl)⟩
theorem Q6T (R:List Rw) (outs:List Int):outR R outs outs.length=outs.map fun r=>R.getD r.toNat dR:=by
 unfold outR
 rw[List.take_of_length_le (Nat.le_refl _)]
theorem QtT (k:Nat) (ins:Int) (n:Nat) (code:List Ins) (outs:List Int) (nl:Bool) (cap:Option Nat) (nl2:Bool) (cap2:Option Nat) (g:List Rw) (nl3:Bool) (cap3:Option Nat) (L:Nat) (hL:L≤1000) (hg:0<g.length) (hgL:∀ r ∈ g,SzR L 4 r) (hr:Qax ⟨ins,n,code,outs⟩=true) (hcl:code.length≤200) (hol:outs.length≤200) (hk:50000≤k) :
  (runE (QbX L) code ((iniR g L n n).map Rw.vals)=none∧∃ (ss:List IV) (sn:Nat) (sb:Bool) (sc:Option Nat) (j:Nat),run (k+9) 46 [aP ⟨ins,n,code,outs⟩ nl cap nl2 cap2,sW g nl3 cap3]=some (.tup [.c (.slice ss sn sb sc),ii j,.c (.slice [] 0 true (some 0))])) ∨
  ∃ (ss:List IV) (sn:Nat) (sb:Bool) (sc:Option Nat) (R:List Rw) (nl4:Bool) (cap4:Option Nat),runE (QbX L) code ((iniR g L n n).map Rw.vals)=some (R.map Rw.vals)∧R.length=n∧(∀ r ∈ R,SzR L (4+6 * code.length) r)∧run (k+9) 46 [aP ⟨ins,n,code,outs⟩ nl cap nl2 cap2,sW g nl3 cap3]=some (.tup [.c (.slice ss sn sb sc),ii (-1),sW (outs.map fun r=>R.getD r.toNat dR) nl4 cap4]):=by
 have hr':=hr
 simp only[Qax,Qdh,QfT,QfV,Bool.and_eq_true,decide_eq_true_eq,List.all_eq_true] at hr'
 obtain⟨⟨⟨h1,h2,h3,h4,h5,h6⟩,ho⟩,hcd⟩:=hr'
 have q1:(0:Int)≤(n:Int):=by omega
 have q2:n * 24≤roomBytes:=Nat.le_trans (show n * 24≤3072 by omega) (by decide)
 have q3:n≤roomBytes:=Nat.le_trans (show n≤128 by omega) (by decide)
 have hini:(iniR g L n 0)=List.replicate n dR:=QAe g L n
 have hg0:(g.getD 0 dR).l.length=L:=by
  rw[List.getD_eq_getElem?_getD,List.getElem?_eq_getElem hg]
  exact(hgL _ (List.getElem_mem hg)).len
 have hsz:∀ r ∈ iniR g L n n,SzR L 4 r:=by
  intro r hr
  unfold iniR at hr
  obtain⟨j,hj,rfl⟩:=List.mem_map.1 hr
  rw[if_pos (List.mem_range.1 hj)]
  split
  ·rename_i hjl
   rw[List.getD_eq_getElem?_getD,List.getElem?_eq_getElem hjl]
   exact hgL _ (List.getElem_mem hjl)
  ·exact⟨by simp [zRw],fun x hx=>by rw [List.eq_of_mem_replicate hx];exact Nat.zero_le _⟩
 obtain⟨R0,hR0⟩:∃ R0,R0=iniR g L n n:=⟨_,rfl⟩
 have hR0l:R0.length=n:=by rw [hR0,Qe1]
 have hlf:=Q6l (k+7) ins n code nl cap outs nl2 cap2 g nl3 cap3 L hL hg hg0 (by omega)
 have hlt:=Q4P (k+1) ins n code nl cap outs nl2 cap2 L hL (by omega) R0 hR0l (by rw [hR0];exact hsz) hcd hcl (by omega)
 rw[← hR0] at hlf ⊢
 rw[run,ev46,Qaq]
 simp only[Tryd.f46,aP,ii,bb,q1,q2,q3,QBn,← hini,FT,seval]
 rw[Qai Q2p QES];rotate_left;rfl;rfl;rfl
 generalize hz:Qar _ _ _ _ _ _ _ _ _ _ _ _=z
 obtain⟨l',rfl,e1,e2,e7,e8⟩:=hlf _ _ z hz (by omega) (by rfl) (by rfl) (by rfl) (by rfl)
 clear hz hlf
 simp only[e1,e2,e7,FT,seval]
 rw[Qai Qra QEv];rotate_left;rfl;rfl;rfl
 generalize hz:Qar _ _ _ _ _ _ _ _ _ _ _ _=z
 obtain⟨l',R,Z,rfl,e2,e7,e9,hrun,hRl,hRS,hZ⟩ | ⟨hrun,l',Z,j,X,rfl,e4,e5,e6⟩:=hlt _ _ z hz (by omega) (by exact e2) (by exact e7) (by rfl) (by rfl)
 ·clear hz hlt
  simp only[e2,e7,e9,FT,seval]
  rw[Qai Qr6 QDW];rotate_left;rfl;rfl;rfl
  generalize hz:Qar _ _ _ _ _ _ _ _ _ _ _ _=z
  obtain⟨l',rfl,f2,f7,f9,f13,f14⟩:=Q4W (k+8) ins n code nl cap outs nl2 cap2 Z R hRl ho hol _ _ z hz (by omega) (by exact e2) (by exact e7) (by exact e9) (by rfl) (by rfl)
  clear hz
  rw[Q6T]
  have hlo:∀ {e:TypeId} {m:Nat} {cells:List IV},(lo e m cells).under 0=true:=Qcz
  have hZe:=QaZ Z
  have hOe:(encW (outs.map fun r=>R.getD r.toNat dR)).length=outs.length:=by rw [QaZ,List.length_map]
  refine .inr ?_
  by_cases hZ0:Z.length=0
  ·obtain rfl:Z=[]:=List.eq_nil_of_length_eq_zero hZ0
   refine⟨[],0,true,some 0,R,decide (outs.length=0),if outs.length=0 then some 0 else none,hrun,hRl,hRS, ?_⟩
   simp only[f9,f13,hOe,sW,Qg1,List.length_map,FT,seval]
   try rfl
  ·refine⟨encW Z,Z.length,false,none,R,decide (outs.length=0),if outs.length=0 then some 0 else none,hrun,hRl,hRS, ?_⟩
   simp only[f9,f13,hZe,hZ0,hOe,sW,List.length_map,FT,seval]
   try rfl
 ·clear hz hlt
  refine .inl ⟨hrun, ?_⟩
  have hZe:=QaZ Z
  by_cases hZ0:Z.length=0
  ·obtain rfl:Z=[]:=List.eq_nil_of_length_eq_zero hZ0
   refine⟨[],0,true,some 0,j, ?_⟩
   simp only[e4,e5,e6,Qg1,FT,seval]
   try rfl
  ·refine⟨encW Z,Z.length,false,none,j, ?_⟩
   simp only[e4,e5,e6,hZe,hZ0,FT,seval]
   try rfl
structure Gr where
 l:List Int
 nl:Bool
 cap:Option Nat
abbrev iGr (g:Gr):IV:=.slice (Qal g.l) g.l.length g.nl g.cap
def encG (D:List Gr):List IV:=D.map fun g=>.slice (Qal g.l) g.l.length g.nl g.cap
theorem Qg6 (D:List Gr):(encG D).length=D.length:=by simp [encG]
theorem QjG {D:List Gr} {i:Nat} (h:i<D.length):(encG D)[i]?=some (iGr (D.getD i ⟨[],true,none⟩)):=by
 simp[encG,h]
abbrev dG:Gr:=⟨[],true,none⟩
abbrev sG (D:List Gr) (nl:Bool) (cap:Option Nat):AV:=.c (.slice (encG D) D.length nl cap)
def in64 (x:Int):Prop:=-9223372036854775808≤x∧x≤9223372036854775807
theorem QEn {x:Int} (h:in64 x):(nD x).length≤4:=Qfd (k:=4) (by
 unfold in64 at h
 have:(65536:Nat) ^ 4=18446744073709551616:=by decide
 rw[this]
 omega)
def GrOk (D:List Gr):Prop:=∀ g ∈ D,∀ x ∈ g.l,in64 x
theorem QCz {D:List Gr} {i:Nat} (h:i<D.length):D.getD i dG=D[i]:=by
 rw[List.getD_eq_getElem?_getD,List.getElem?_eq_getElem h];rfl
theorem szQ {Z:List RI} {r:List Int} (h:Z.map RI.v=r) (hin:∀ x ∈ r,in64 x):SzR r.length 4 ⟨Z,false,none⟩:=⟨by rw [← h];simp,fun x hx=>QEn (hin _ (by rw [← h];exact List.mem_map.2 ⟨x,hx,rfl⟩))⟩
structure GQ (D:List Gr) (Q:List Rw) (i:Nat):Prop where
 len:Q.length=i
 vals:Q.map Rw.vals=(D.take i).map Gr.l
 sz:∀ r ∈ Q,SzR (D.getD 0 dG).l.length 4 r
 fit:(D.getD 0 dG).l.length≤20∨i=0
abbrev nZ:List RI:=[]
theorem bs37h {H:Heap} {id n:Nat} {cells:List IV} (h:H[id]?=some (.row false 58 cells)) (hl:cells.length=n * 2):QaI Tryd.prog H 28 1 [(0,.hsl id 0 n (n * 2) 2)]=some (.hsl H.length 0 1 (1 * 1) 1,H.set id (.row true 58 cells)++[.row false 55 [.slice cells n false none]]):=by
 have b:=Qrw (H.set id (.row true 58 cells)) (.slice cells n false none)
 have hr:rowOf H id (n * 2)=some (58,cells):=Qrf h hl
 have hf:Qec H [(0,.hsl id 0 n (n * 2) 2)]=some ([(0,[.slice cells n false none])],H.set id (.row true 58 cells)):=by
  rw[Qec,QhM,frzs,QhW,hr]
  simp only[Option.bind_some,Nat.zero_add,Nat.le_refl,if_true,List.drop_zero,frzs,Qec]
  rw[List.take_of_length_le (by rw [hl];exact Nat.le_refl _)]
 have hf2:Qec (H.set id (.row true 58 cells)) [(0,.c (.slice cells n false none))]=some ([(0,[.slice cells n false none])],H.set id (.row true 58 cells)):=rfl
 unfold QaI at b ⊢
 rw[hf2] at b
 rw[hf]
 rw[List.length_set] at b
 exact b
theorem QAy (kf:Nat) (D:List Gr) (nl:Bool) (cap:Option Nat) (q:Nat) (hq:q<D.length) (Q:List Rw) (hQl:Q.length=q) (g:Gr) (hr:D.getD q dG=g) (r:List Int) (hgr:g.l=r) (hin:∀ x ∈ r,in64 x) (hl:r.length≤20) (hq6:D.length≤4611686018427387904) (hkf:50≤kf) (k:Nat) (l:Ass) (z:Option Out) (hz:Qar Tryd.prog tab (kf+2) none QBk 6 58 [0,4,5,6,7] 3 k l ([.slot,lo 55 q (encW Q),.row false 58 (encR nZ)])=z) (hk:r.length<k) (a0:asc l 0=sG D nl cap) (a4:asc l 4=lv 1 1 q) (a5:asc l 5=ii q) (a6:asc l 6=.hsl 2 0 0 (0 * 2) 2) (a7:asc l 7=ii 0) :
  ∃ (l':Ass) (Z:List RI),z=some (.exit 2 (fr 58 l') ([.slot,lo 55 q (encW Q),.row false 58 (encR Z)]))∧asc l' 0=sG D nl cap∧asc l' 4=lv 1 1 q∧asc l' 5=ii q∧asc l' 6=.hsl 2 0 r.length (r.length * 2) 2∧Z.map RI.v=r:=by
 subst hz
 refine Qa1 r.length (fun k l H=>Qar Tryd.prog tab (kf+2) none QBk 6 58 [0,4,5,6,7] 3 k l H)
  (fun i l H=>∃ (Z:List RI),asc l 0=sG D nl cap∧asc l 4=lv 1 1 q∧asc l 5=ii q∧asc l 6=.hsl 2 0 i (i * 2) 2∧asc l 7=ii i∧((Z.map RI.v=r.take i))∧∃ G,H=([.slot,lo 55 q (encW Q),.row false 58 (encR Z)])++G)
  (fun z=>∃ (l':Ass) (Z:List RI),z=some (.exit 2 (fr 58 l') ([.slot,lo 55 q (encW Q),.row false 58 (encR Z)]))∧asc l' 0=sG D nl cap∧asc l' 4=lv 1 1 q∧asc l' 5=ii q∧asc l' 6=.hsl 2 0 r.length (r.length * 2) 2∧Z.map RI.v=r) ?_ r.length 0 k l _ (by omega) hk ⟨nZ,a0,a4,a5,a6,a7,rfl,[],by rw [List.append_nil]⟩
 clear hk a0 a4 a5 a6 a7
 rintro i k l H hi ⟨Z,a0,a4,a5,a6,a7,hp,G,rfl⟩
 have ht:trim 3 (fr 58 (keep l [0,4,5,6,7])) (([.slot,lo 55 q (encW Q),.row false 58 (encR Z)])++G)=([.slot,lo 55 q (encW Q),.row false 58 (encR Z)]):=Qa4 (by simp) (by simp only [a0,a4,a5,a6,a7,Qcz,Qda,EVb,EVc,seval]) (by simp only [Qcz,Qda,EVb,EVc,seval])
 by_cases hc:i<r.length
 ·have hc':(i:Int)<((r.length:Nat):Int):=by omega
  have hc0:(0:Int)≤i:=by omega
  have hw:IntKind.wrap .i64 ((i:Int)+1)=((i+1:Nat):Int):=by rw [wrap64 (by omega) (by omega)];omega
  have hxg:=QjG hq
  rw[hr,iGr,hgr] at hxg
  have hgl:=Qg6 D
  have hq0:(0:Int)≤q:=by omega
  have hq1:(q:Int)<D.length:=by omega
  have hx:=QaT hc
  have hel:=Qaj r
  obtain⟨h64a,h64b⟩:=hin _ (List.getElem_mem hc)
  obtain⟨u,hu,hof⟩:=Qyl kf r[i] h64a h64b (by omega)
  have hZl:Z.length=i:=by have:=congrArg List.length hp;simpa [List.length_take,Nat.min_eq_left (Nat.le_of_lt hc)] using this
  simp only[run,ii,aN,bb] at hof
  have hap:=fun (X:Heap) (sl:Option Nat) (y y2:IV)=>Qma (e:=58) (sz:=2) (by_:=32) (m:=1) (len:=i) (id:=2) (sl:=sl) (H:=.slot::lo 55 q (encW Q) :: .row false 58 (encR Z)::X) (cells:=encR Z) (cs:=[y,y2]) (by decide) (Nat.le_trans (Nat.mul_le_mul_right 32 (show i+1≤21 by omega)) (by decide)) (by decide) (by rfl) (by rw [Qbp,hZl])
  simp only[Qaa,ht]
  simp only[a0,a4,a5,a6,a7,hc',hc0,hw,hxg,hgl,hq0,hq1,hx,hel,hof,hap,Qaa,Qag,Qae,Qab,LP,Tryd.f6,FT,seval]
  refine .inr ⟨_,_,hc,rfl,Z++[u],(by rfl),(by rfl),(by rfl),(by rfl),(by rfl), ?_,⟨_,by rw [Qe0];exact rfl⟩⟩
  rw[List.map_append,hp,List.take_succ_eq_append_getElem hc]
  simp[hu]
 ·refine .inl ?_
  obtain rfl:i=r.length:=by omega
  have hc':¬ (((r.length:Nat):Int)<((r.length:Nat):Int)):=by omega
  have hxg:=QjG hq
  rw[hr,iGr,hgr] at hxg
  have hgl:=Qg6 D
  have hq0:(0:Int)≤q:=by omega
  have hq1:(q:Int)<D.length:=by omega
  simp only[Qaa,ht]
  simp only[a0,a4,a5,a6,a7,hc',hxg,hgl,hq0,hq1,Qaa,Qag,Qae,Qab,LP,Tryd.f6,FT,seval]
  rw[List.take_of_length_le (Nat.le_refl _)] at hp
  exact⟨_,Z,rfl,(by rfl),(by rfl),(by rfl),(by rfl),hp⟩
theorem QBc (kf:Nat) (D:List Gr) (nl:Bool) (cap:Option Nat) (hG:GrOk D) (hs:D.length * 24≤roomBytes) (hq6:D.length≤4611686018427387904) (hkf:50≤kf) (k:Nat) (l:Ass) (z:Option Out) (hz:Qar Tryd.prog tab (kf+2) none QBo 6 58 [0,4,5] 2 k l ([.slot,lo 55 0 (encW nW)])=z) (hk:D.length<k) (a0:asc l 0=sG D nl cap) (a4:asc l 4=lv 1 1 0) (a5:asc l 5=ii 0) :
  (∃ (l':Ass) (Q:List Rw),z=some (.exit 0 (fr 58 l') [.slot,lo 55 D.length (encW Q)])∧asc l' 0=sG D nl cap∧asc l' 4=lv 1 1 D.length∧GQ D Q D.length)∨∃ (l':Ass) (H:Heap),z=some (.ret (fr 58 l') H)∧asc l' 2=.c (.slice [] 0 true (some 0))∧asc l' 3=bb false:=by
 subst hz
 refine Qa1 D.length (fun k l H=>Qar Tryd.prog tab (kf+2) none QBo 6 58 [0,4,5] 2 k l H)
  (fun i l H=>∃ (Q:List Rw),asc l 0=sG D nl cap∧asc l 4=lv 1 1 i∧asc l 5=ii i∧(GQ D Q i)∧∃ G,H=([.slot,lo 55 i (encW Q)])++G)
  (fun z=>(∃ (l':Ass) (Q:List Rw),z=some (.exit 0 (fr 58 l') [.slot,lo 55 D.length (encW Q)])∧asc l' 0=sG D nl cap∧asc l' 4=lv 1 1 D.length∧GQ D Q D.length)∨∃ (l':Ass) (H:Heap),z=some (.ret (fr 58 l') H)∧asc l' 2=.c (.slice [] 0 true (some 0))∧asc l' 3=bb false) ?_ D.length 0 k l _ (by omega) hk ⟨nW,a0,a4,a5,⟨rfl,rfl,fun r hr=>(nomatch hr),.inr rfl⟩,[],by rw [List.append_nil]⟩
 clear hk a0 a4 a5
 rintro i k l H hi ⟨Q,a0,a4,a5,hp,G,rfl⟩
 have ht:trim 2 (fr 58 (keep l [0,4,5])) (([.slot,lo 55 i (encW Q)])++G)=([.slot,lo 55 i (encW Q)]):=Qa4 (by simp) (by simp only [a0,a4,a5,Qcz,Qda,EVb,EVc,seval]) (by simp only [Qcz,Qda,EVb,EVc,seval])
 by_cases hc:i<D.length
 ·have hc':(i:Int)<((D.length:Nat):Int):=by omega
  have hc0:(0:Int)≤i:=by omega
  have hw:IntKind.wrap .i64 ((i:Int)+1)=((i+1:Nat):Int):=by rw [wrap64 (by omega) (by omega)];omega
  have hxi:=QjG hc
  have hx0:=QjG (show 0<D.length by omega)
  have hgl:=Qg6 D
  have h00:(0:Int)<D.length:=by omega
  obtain⟨g,hg⟩:∃ g,D.getD i dG=g:=⟨_,rfl⟩
  obtain⟨g0,hg0⟩:∃ g0,D.getD 0 dG=g0:=⟨_,rfl⟩
  rw[hg] at hxi
  rw[hg0] at hx0
  have hgm:g ∈ D:=by rw [← hg,QCz hc];exact List.getElem_mem hc
  by_cases hle:g.l.length=g0.l.length
  ·by_cases h20:20<g.l.length
   ·have h20':(20:Int)<(g0.l.length:Int):=by omega
    refine .inl (.inr ?_)
    simp only[Qaa,ht]
    simp only[a0,a4,a5,hc',hc0,hw,hxi,hx0,hgl,h00,Qaa,Qag,Qae,Qab,LP,Tryd.f6,FT,seval]
    rw[Qaf Tryd.f6 5 QE1];rotate_left;rfl
    simp only[a0,a4,a5,hc',hc0,hw,hxi,hx0,hgl,h00,hle,h20',EVd,List.getElem?_nil,Nat.reducePow,Nat.reduceDiv,Nat.reduceMod,FT,seval]
    try simp only [a0,a4,a5,hc',hc0,hw,hxi,hx0,hgl,h00,hle,h20',FT,seval]
    exact⟨_,_,rfl,(by rfl),(by rfl)⟩
   ·have h20':¬ (20:Int)<(g0.l.length:Int):=by omega
    simp only[Qaa,ht]
    simp only[a0,a4,a5,hc',hc0,hw,hxi,hx0,hgl,h00,Qaa,Qag,Qae,Qab,LP,Tryd.f6,FT,seval]
    rw[Qaf Tryd.f6 5 QE1];rotate_left;rfl
    simp only[a0,a4,a5,hc',hc0,hw,hxi,hx0,hgl,h00,hle,h20',EVd,List.getElem?_nil,Nat.reducePow,Nat.reduceDiv,Nat.reduceMod,FT,seval]
    try simp only [a0,a4,a5,hc',hc0,hw,hxi,hx0,hgl,h00,hle,h20',FT,seval]
    rw[Qai QBk lp6_9];rotate_left;rfl;rfl;rfl
    generalize hz:Qar _ _ _ _ _ _ _ _ _ _ _ _=z
    obtain⟨l2,Z,rfl,e0,e4,e5,e6,hZ⟩:=QAy kf D nl cap i hc Q hp.len g hg g.l rfl (hG g hgm) (by omega) hq6 hkf _ _ z hz (by omega) (by rfl) (by rfl) (by rfl) (by rfl) (by rfl)
    clear hz
    have hZl:Z.length=g.l.length:=by have:=congrArg List.length hZ;simpa using this
    have hel:=Qbp Z
    rw[hZl] at hel
    have hQ1:encW [⟨Z,false,none⟩]=[.slice (encR Z) g.l.length false none]:=by rw [encW,List.map_cons,List.map_nil,hZl]
    have htk:(encR Z).take (g.l.length * 2)=encR Z:=List.take_of_length_le (by rw [hel];exact Nat.le_refl _)
    have hap:=fun (X:Heap) (y:IV)=>Qgq (e:=55) (s:=1) (n:=i) (m:=1) (sz:=1) (by_:=24) (cells:=encW Q) (cs:=[y]) (H:=.slot::lo 55 i (encW Q)::X) (by decide) (Nat.le_trans (Nat.mul_le_mul_right 24 (show i+1≤D.length by omega)) hs) (by decide) (by rfl) (by rw [QaZ,hp.len,Nat.mul_one])
    have hbs:=fun (X:Heap)=>bs37h (H:=.slot::lo 55 i (encW Q) :: .row false 58 (encR Z)::X) (id:=2) (n:=g.l.length) (cells:=encR Z) (by rfl) hel
    simp only[e0,e4,e5,e6,hel,htk,hap,hbs,hw,Nat.le_refl,FT,seval]
    refine .inr ⟨_,_,hc,rfl,Q++[⟨Z,false,none⟩],(by exact e0),(by rfl),(by rfl),⟨by simp [hp.len], ?_, ?_, ?_⟩,⟨_,by rw [Qgu,hQ1]⟩⟩
    ·rw[List.map_append,hp.vals,List.take_succ_eq_append_getElem hc,List.map_append]
     show _++[Z.map RI.v]=_++[D[i].l]
     rw[hZ,← QCz hc,hg]
    ·intro r hr
     rcases List.mem_append.1 hr with hr | hr
     ·exact hp.sz r hr
     ·rw[List.mem_singleton.1 hr,hg0,← hle]
      exact szQ hZ (hG g hgm)
    ·left;rw [hg0];omega
  ·have hle':¬ (g.l.length:Int)=(g0.l.length:Int):=by omega
   refine .inl (.inr ?_)
   simp only[Qaa,ht]
   simp only[a0,a4,a5,hc',hc0,hw,hxi,hx0,hgl,h00,Qaa,Qag,Qae,Qab,LP,Tryd.f6,FT,seval]
   rw[Qaf Tryd.f6 5 QE1];rotate_left;rfl
   simp only[a0,a4,a5,hc',hc0,hw,hxi,hx0,hgl,h00,hle',EVd,List.getElem?_nil,Nat.reducePow,Nat.reduceDiv,Nat.reduceMod,FT,seval]
   try simp only [a0,a4,a5,hc',hc0,hw,hxi,hx0,hgl,h00,hle',FT,seval]
   exact⟨_,_,rfl,(by rfl),(by rfl)⟩
 ·refine .inl ?_
  obtain rfl:i=D.length:=by omega
  have hc':¬ (((D.length:Nat):Int)<((D.length:Nat):Int)):=by omega
  simp only[Qaa,ht]
  simp only[a0,a4,a5,hc',Qaa,Qag,Qae,Qab,LP,Tryd.f6,FT,seval]
  exact .inl ⟨_,Q,rfl,(by rfl),(by rfl),hp⟩
def shN (code:List Ins):Nat→Nat
 | 0=>0
 | i+1=>if (code.getD i ⟨0,0,0,0,0⟩).op=7 then shN code i+1 else shN code i
theorem QCA (code:List Ins):∀ i,shN code i≤i
 | 0=>Nat.le_refl _
 | i+1=>by have:=QCA code i;rw [shN];split<;>omega
theorem QmK (kf:Nat) (x0 x1 x3:IV) (code:List Ins) (nl:Bool) (cap:Option Nat) (hlen:code.length≤4611686018427387904) (k:Nat) (l:Ass) (z:Option Out) (hz:Qar Tryd.prog tab kf none QBl 8 22 [1,3,4] 1 k l ([.cells 25 [.c x0,.c x1,sC code nl cap,.c x3]])=z) (hk:code.length<k) (a1:asc l 1=.ptr 0 0) (a3:asc l 3=ii (shN code 0)) (a4:asc l 4=ii 0) :
  ∃ l',z=some (.exit 0 (fr 22 l') ([.cells 25 [.c x0,.c x1,sC code nl cap,.c x3]]))∧asc l' 1=.ptr 0 0∧asc l' 3=ii (shN code code.length)∧asc l' 4=ii code.length:=by
 subst hz
 refine Qa1 code.length (fun k l H=>Qar Tryd.prog tab kf none QBl 8 22 [1,3,4] 1 k l H)
  (fun i l H=>asc l 1=.ptr 0 0∧asc l 3=ii (shN code i)∧asc l 4=ii i∧∃ G,H=([.cells 25 [.c x0,.c x1,sC code nl cap,.c x3]])++G)
  (fun z=>∃ l',z=some (.exit 0 (fr 22 l') ([.cells 25 [.c x0,.c x1,sC code nl cap,.c x3]]))∧asc l' 1=.ptr 0 0∧asc l' 3=ii (shN code code.length)∧asc l' 4=ii code.length) ?_ code.length 0 k l _ (by omega) hk ⟨a1,a3,a4,[],by rw [List.append_nil]⟩
 clear hk a1 a3 a4
 rintro i k l H hi ⟨a1,a3,a4,G,rfl⟩
 have ht:trim 1 (fr 22 (keep l [1,3,4])) (([.cells 25 [.c x0,.c x1,sC code nl cap,.c x3]])++G)=([.cells 25 [.c x0,.c x1,sC code nl cap,.c x3]]):=Qa4 (by simp) (by simp only [a1,a3,a4,EVb,EVc,seval]) (by simp only [EVb,EVc,seval])
 by_cases hc:i<code.length
 ·have hc':(i:Int)<((code.length:Nat):Int):=by omega
  have hc0:(0:Int)≤i:=by omega
  have hw:IntKind.wrap .i64 ((i:Int)+1)=((i+1:Nat):Int):=by rw [wrap64 (by omega) (by omega)];omega
  have hx:=(Qjf hc).1
  have hsl:=QCA code i
  have hw2:IntKind.wrap .i64 ((shN code i:Int)+1)=((shN code i+1:Nat):Int):=by rw [wrap64 (by omega) (by omega)];omega
  have hg:(code.getD i ⟨0,0,0,0,0⟩)=code[i]:=by rw [List.getD_eq_getElem?_getD,List.getElem?_eq_getElem hc];rfl
  have hst:shN code (i+1)=if code[i].op=7 then shN code i+1 else shN code i:=by rw [shN,hg]
  rw[hst]
  by_cases h7:code[i].op=7
  ·rw[if_pos h7]
   simp only[Qaa,ht]
   simp only[a1,a3,a4,hc',hc0,hw,hx,h7,hw2,Qaa,Qag,Qae,Qab,LP,Tryd.f8,FT,seval]
   exact .inr ⟨_,_,hc,rfl,(by rfl),(by rfl),(by rfl),⟨_,by rfl⟩⟩
  ·rw[if_neg h7]
   simp only[Qaa,ht]
   simp only[a1,a3,a4,hc',hc0,hw,hx,h7,Qaa,Qag,Qae,Qab,LP,Tryd.f8,FT,seval]
   exact .inr ⟨_,_,hc,rfl,(by rfl),(by rfl),(by rfl),⟨_,by rfl⟩⟩
 ·refine .inl ?_
  obtain rfl:i=code.length:=by omega
  have hc':¬ (((code.length:Nat):Int)<((code.length:Nat):Int)):=by omega
  simp only[Qaa,ht]
  simp only[a1,a3,a4,hc',Qaa,Qag,Qae,Qab,LP,Tryd.f8,FT,seval]
  exact⟨_,rfl,(by rfl),(by rfl),(by rfl)⟩
theorem Qfc (k:Nat) (p:Pg) (nl nl2:Bool) (cap cap2:Option Nat) (hlen:p.code.length≤4611686018427387904) (hk:p.code.length<k):run (k+1) 8 [aP p nl cap nl2 cap2]=some (ii (shN p.code p.code.length)):=by
 rw[run,ev8,Qaq]
 simp only[Tryd.f8,aP,ii,FT,seval]
 rw[Qai QBl lp8_3];rotate_left;rfl;rfl;rfl
 generalize hz:Qar _ _ _ _ _ _ _ _ _ _ _ _=z
 obtain⟨l',rfl,e1,e3,e4⟩:=QmK k _ _ _ p.code nl cap hlen _ _ z hz (by omega) (by rfl) (by rfl) (by rfl)
 clear hz
 simp only[e3,FT,seval]
theorem QAw (k:Nat) (D:List Gr) (nl:Bool) (cap:Option Nat) (hG:GrOk D) (hs:D.length * 24≤roomBytes) (hq6:D.length≤4611686018427387904) (hk:D.length+100≤k) :
  run (k+3) 6 [sG D nl cap]=some (.tup [.c (.slice [] 0 true (some 0)),bb false])∨∃ (Q:List Rw) (nl2:Bool) (cap2:Option Nat),GQ D Q D.length∧run (k+3) 6 [sG D nl cap]=some (.tup [sW Q nl2 cap2,bb true]):=by
 rw[run,ev6,Qaq]
 simp only[Tryd.f6,FT,seval]
 rw[Qai QBo lp6_3];rotate_left;rfl;rfl;rfl
 generalize hz:Qar _ _ _ _ _ _ _ _ _ _ _ _=z
 obtain⟨l',Q,rfl,e0,e4,hQ⟩ | ⟨l',H,rfl,e2,e3⟩:=QBc k D nl cap hG hs hq6 (by omega) _ _ z hz (by omega) (by rfl) (by rfl) (by rfl)
 ·clear hz
  have hel:=QaZ Q
  rw[hQ.len] at hel
  refine .inr ⟨Q,decide (D.length=0),if D.length=0 then some 0 else none,hQ, ?_⟩
  simp only[e4,hel,sW,hQ.len,FT,seval]
  try rfl
 ·clear hz
  exact .inl (by simp only [e2,e3,FT,seval])
theorem Q0M {D:List Gr} {Q:List Rw} {n:Nat} (h:GQ D Q D.length) (h0:0<D.length):(∀ a ∈ (iniR Q (D.getD 0 dG).l.length n n).map Rw.vals,(QbX (D.getD 0 dG).l.length).G a) ∧
  ∀ r:Nat,D.length≤r→r<n→((iniR Q (D.getD 0 dG).l.length n n).map Rw.vals).getD r (QbX (D.getD 0 dG).l.length).d=List.replicate (D.getD 0 dG).l.length 0:=by
 obtain⟨L,hL⟩:∃ L,L=(D.getD 0 dG).l.length:=⟨_,rfl⟩
 have hsz:=h.sz
 rw[← hL] at hsz ⊢
 have hzr:(zRw L).vals=List.replicate L 0:=by
  show (List.replicate L zR).map RI.v=_
  rw[List.map_replicate];rfl
 constructor
 ·intro a ha
  obtain⟨r,hr,rfl⟩:=List.mem_map.1 ha
  unfold iniR at hr
  obtain⟨j,hj,rfl⟩:=List.mem_map.1 hr
  rw[if_pos (List.mem_range.1 hj)]
  show (Rw.vals _).length=L
  split
  ·rename_i hjl
   rw[List.getD_eq_getElem?_getD,List.getElem?_eq_getElem hjl]
   show (List.map RI.v _).length=L
   rw[List.length_map]
   exact(hsz _ (List.getElem_mem hjl)).len
  ·rw[hzr,List.length_replicate]
 ·intro r hr1 hr2
  have hl:=h.len
  rw[List.getD_eq_getElem?_getD]
  unfold iniR
  rw[List.map_map,List.getElem?_map,List.getElem?_range hr2]
  show Rw.vals (if r<n then _ else _)=_
  rw[if_pos hr2,if_neg (by omega),hzr]
theorem SzR.out {L n:Nat} {R:List Rw} {outs:List Int} (h:∀ r ∈ R,SzR L n r) (ho:∀ r ∈ outs,0≤r∧r<(R.length:Int)):∀ r ∈ outs.map (fun r=>R.getD r.toNat dR),SzR L n r:=by
 intro r hr
 obtain⟨x,hx,rfl⟩:=List.mem_map.1 hr
 exact h _ (Qrt (ho x hx).1 (ho x hx).2)
theorem Q1a {R:List Rw} {outs:List Int} (ho:∀ r ∈ outs,0≤r∧r<(R.length:Int)) (d:List Int):(outs.map (fun r=>R.getD r.toNat dR)).map Rw.vals=outs.map fun r=>(R.map Rw.vals).getD r.toNat d:=by
 rw[List.map_map]
 refine List.map_congr_left fun r hr=>?_
 show (R.getD r.toNat dR).vals=_
 rw[Qmn (ho r hr).1 (ho r hr).2]
theorem Q6V (k:Nat):run (k+60) 5 []=some (bb true):=by kernel_rfl
def lg16 (p:Pg):Bool:=decide (40<p.code.length) || decide (40<p.outs.length)
theorem Qzo (k:Nat) (p:Pg) (nl:Bool) (cap:Option Nat) (nl2:Bool) (cap2:Option Nat):run (k+1) 7 [aP p nl cap nl2 cap2]=some (bb (lg16 p)):=by
 rw[run,ev7,Qaq]
 by_cases h1:(40:Int)<p.code.length
 ·have:40<p.code.length:=by omega
  simp only[Tryd.f7,aP,ii,bb,h1,FT,seval]
  simp[lg16,this]
 ·have:¬ 40<p.code.length:=by omega
  simp only[Tryd.f7,aP,ii,bb,h1,FT,seval]
  by_cases h2:(40:Int)<p.outs.length
  ·have:40<p.outs.length:=by omega
   simp[lg16, *]
  ·have:¬ 40<p.outs.length:=by omega
   simp[lg16, *]
theorem Qgt {p:Pg} (hr:Qax p=true):(Qbo p).code.length≤p.code.length∧(Qbo p).outs.length=p.outs.length∧(Qbo p).ins=p.ins:=by
 rw[QjM (pgOk hr)]
 exact⟨by show (gC _ _).length≤_;rw [Qhz];exact QCR _ _,by show (QyJ _).length=_;unfold QyJ;rw [List.length_map];rfl,rfl⟩
theorem QAC (k:Nat) (ins:Int) (n:Nat) (code:List Ins) (outs:List Int) (nl:Bool) (cap:Option Nat) (nl2:Bool) (cap2:Option Nat) (hk:outs.length+code.length+3000≤k) (hr:Qax ⟨ins,n,code,outs⟩=true) :
  ∃ (nl3:Bool) (cap3:Option Nat),run (k+3) 15 [aP ⟨ins,n,code,outs⟩ nl cap nl2 cap2]=some (.tup [aP (Qbo ⟨ins,n,code,outs⟩) nl3 cap3 false none,ii 0]):=by
 obtain⟨X,h⟩:=Q8i k ins n code outs nl cap nl2 cap2 hk hr
 obtain⟨_,hol,hin⟩:=Qgt hr
 obtain⟨⟨i2,r2,C,O⟩,hq⟩:∃ q,q=Qbo ⟨ins,n,code,outs⟩:=⟨_,rfl⟩
 rw[← hq] at h hol hin ⊢
 simp only at h hol hin
 subst hin
 have hel:=Qau C
 have hOe:(Qal O).length=outs.length:=by rw [Qaj,hol]
 have htk:(Qal O).take outs.length=Qal O:=List.take_of_length_le (by rw [hOe];exact Nat.le_refl _)
 by_cases h0:C.length=0
 ·have hCn:C=[]:=List.eq_nil_of_length_eq_zero h0
  subst hCn
  refine⟨true,some 0, ?_⟩
  unfold run
  rw[h]
  simp only[List.length_nil,Qg1,Qru,hOe,htk,Nat.le_refl,FT,seval]
  simp only[aP,sC,sI,Qak,List.length_nil,hol]
 ·refine⟨false,none, ?_⟩
  unfold run
  have e0:cdO C=.row false 61 (Qak C):=Qcm (show 0<C.length by omega)
  rw[h,Qct (show 0<C.length by omega),e0]
  have htc:(Qak C).take (C.length * 5)=Qak C:=List.take_of_length_le (by rw [hel];exact Nat.le_refl _)
  simp only[hel,htc,hOe,htk,Nat.le_refl,FT,seval]
  simp only[aP,sC,sI,hol]
theorem QD8 (kf:Nat) (o0 o1:AObj) (h0:o0.under 2=true) (h1:o1.under 2=true) (A B:List Rw) (hAB:A.length=B.length) (hA6:A.length≤1000) (nl nl2:Bool) (cap cap2:Option Nat) (hv:A.map Rw.vals=B.map Rw.vals) (L:Nat) (hL:L≤1000) (hAS:∀ r ∈ A,SzR L 2000 r) (hBS:∀ r ∈ B,SzR L 2000 r) (hkf:50000≤kf) (k:Nat) (l:Ass) (z:Option Out) (hz:Qar Tryd.prog tab (kf+3) none QqT 19 76 [10,13,14] 2 k l ([o0,o1])=z) (hk:A.length<k) (a10:asc l 10=sW A nl cap) (a13:asc l 13=sW B nl2 cap2) (a14:asc l 14=ii 0) :
  ∃ l',z=some (.exit 0 (fr 76 l') ([o0,o1]))∧asc l' 10=sW A nl cap∧asc l' 13=sW B nl2 cap2∧asc l' 14=ii A.length:=by
 subst hz
 refine Qa1 A.length (fun k l H=>Qar Tryd.prog tab (kf+3) none QqT 19 76 [10,13,14] 2 k l H)
  (fun i l H=>asc l 10=sW A nl cap∧asc l 13=sW B nl2 cap2∧asc l 14=ii i∧∃ G,H=([o0,o1])++G)
  (fun z=>∃ l',z=some (.exit 0 (fr 76 l') ([o0,o1]))∧asc l' 10=sW A nl cap∧asc l' 13=sW B nl2 cap2∧asc l' 14=ii A.length) ?_ A.length 0 k l _ (by omega) hk ⟨a10,a13,a14,[],by rw [List.append_nil]⟩
 clear hk a10 a13 a14
 rintro i k l H hi ⟨a10,a13,a14,G,rfl⟩
 have ht:trim 2 (fr 76 (keep l [10,13,14])) (([o0,o1])++G)=([o0,o1]):=Qa4 (by simp) (by simp only [a10,a13,a14,h0,h1,EVb,EVc,seval]) (by simp only [h0,h1,EVb,EVc,seval])
 by_cases hc:i<A.length
 ·have hc':(i:Int)<((A.length:Nat):Int):=by omega
  have hc0:(0:Int)≤i:=by omega
  have hw:IntKind.wrap .i64 ((i:Int)+1)=((i+1:Nat):Int):=by rw [wrap64 (by omega) (by omega)];omega
  have hcB:i<B.length:=by omega
  have hx:=Qhj hc
  have hy:=Qhj hcB
  have hcB':(i:Int)<B.length:=by omega
  have hea:=QaZ A
  have heb:=QaZ B
  have hga:A.getD i dR ∈ A:=by rw [List.getD_eq_getElem?_getD,List.getElem?_eq_getElem hc];exact List.getElem_mem hc
  have hgb:B.getD i dR ∈ B:=by rw [List.getD_eq_getElem?_getD,List.getElem?_eq_getElem hcB];exact List.getElem_mem hcB
  have he:(A.getD i dR).l.map RI.v=(B.getD i dR).l.map RI.v:=by
   have:=congrArg (fun l=>l[i]?) hv
   simp only[List.getElem?_map,List.getElem?_eq_getElem hc,List.getElem?_eq_getElem hcB,Option.map_some,Option.some.injEq] at this
   rw[List.getD_eq_getElem?_getD,List.getElem?_eq_getElem hc,List.getD_eq_getElem?_getD,List.getElem?_eq_getElem hcB]
   exact this
  have hsm:=QAT kf (A.getD i dR).l (B.getD i dR).l (A.getD i dR).nl (B.getD i dR).nl (A.getD i dR).cap (B.getD i dR).cap (by rw [(hAS _ hga).len];omega) (fun x hx=>Nat.le_trans ((hAS _ hga).sz x hx) (by decide)) (fun x hx=>Nat.le_trans ((hBS _ hgb).sz x hx) (by decide)) hkf
  rw[he,decide_eq_true (rfl:_=_)] at hsm
  simp only[run,bb] at hsm
  simp only[Qaa,ht]
  simp only[a10,a13,a14,hc',hc0,hw,hx,hy,hcB',hea,heb,hsm,Qaa,Qag,Qae,Qab,LP,Tryd.f19,FT,seval]
  rw[Qaf Tryd.f19 13 QEw];rotate_left;rfl
  simp only[a10,a13,a14,hc',hc0,hw,hx,hy,hcB',hea,heb,hsm,EVd,List.getElem?_nil,Nat.reducePow,Nat.reduceDiv,Nat.reduceMod,FT,seval]
  try simp only [a10,a13,a14,hc',hc0,hw,hx,hy,hcB',hea,heb,hsm,FT,seval]
  exact .inr ⟨_,_,hc,rfl,(by rfl),(by rfl),(by rfl),⟨_,by rfl⟩⟩
 ·refine .inl ?_
  obtain rfl:i=A.length:=by omega
  have hc':¬ (((A.length:Nat):Int)<((A.length:Nat):Int)):=by omega
  simp only[Qaa,ht]
  simp only[a10,a13,a14,hc',Qaa,Qag,Qae,Qab,LP,Tryd.f19,FT,seval]
  exact⟨_,rfl,(by rfl),(by rfl),(by rfl)⟩
theorem QDV {Q:List Rw} {L n r:Nat} (hr:r<n) (hq:r<Q.length) (d:List Int):((iniR Q L n n).map Rw.vals).getD r d=(Q.getD r dR).vals:=by
 rw[List.getD_eq_getElem?_getD]
 unfold iniR
 rw[List.map_map,List.getElem?_map,List.getElem?_range hr]
 show Rw.vals (if r<n then _ else _)=_
 rw[if_pos hr,if_pos hq]
theorem Q5m (k:Nat) (ins:Int) (n m:Nat) (code C:List Ins) (outs O:List Int) (nl:Bool) (cap:Option Nat) (nl2:Bool) (cap2:Option Nat) (nlq:Bool) (capq:Option Nat) (nlq2:Bool) (capq2:Option Nat) (Q:List Rw) (nl3:Bool) (cap3:Option Nat) (L:Nat) (hk:60000≤k) (hL:L≤20) (hQ0:0<Q.length) (hQs:∀ r ∈ Q,SzR L 4 r)
  (hr:Qax ⟨ins,n,code,outs⟩=true) (hrq:Qax ⟨ins,m,C,O⟩=true) (hcl:code.length≤200) (hol:outs.length≤200) (hcl2:C.length≤200) (hOl:O.length=outs.length)
  (hsame:∀ R,runE (QbX L) code ((iniR Q L n n).map Rw.vals)=some R→∃ R',runE (QbX L) C ((iniR Q L m m).map Rw.vals)=some R'∧O.map (fun r=>R'.getD r.toNat (QbX L).d)=outs.map (fun r=>R.getD r.toNat (QbX L).d)) :
  run (k+61) 19 [aP ⟨ins,n,code,outs⟩ nl cap nl2 cap2,aP ⟨ins,m,C,O⟩ nlq capq nlq2 capq2,sW Q nl3 cap3]=some (bb true):=by
 have hrt:=Ql7 (k+59) ⟨ins,m,C,O⟩ nlq capq nlq2 capq2 (by show O.length+C.length+11≤_;omega)
 have hr':=hr
 simp only[Qax,Qdh,QfT,QfV,Bool.and_eq_true,decide_eq_true_eq,List.all_eq_true] at hr'
 obtain⟨⟨⟨g1,g2,g3,g4,g5,g6⟩,go⟩,gc⟩:=hr'
 have hrq':=hrq
 simp only[Qax,Qdh,QfT,QfV,Bool.and_eq_true,decide_eq_true_eq,List.all_eq_true] at hrq'
 obtain⟨⟨_,go2⟩,_⟩:=hrq'
 have hF1:=QtT (k+51) ins n code outs nl cap nl2 cap2 Q nl3 cap3 L (by omega) (by omega) hQs hr (by omega) (by omega) (by omega)
 have hF2:=QtT (k+51) ins m C O nlq capq nlq2 capq2 Q nl3 cap3 L (by omega) (by omega) hQs hrq (by omega) (by omega) (by omega)
 have hOli:(O.length:Int)=outs.length:=by omega
 rcases hF1 with ⟨hn1,ss1,sn1,sb1,sc1,j1,hv1⟩ | ⟨ss1,sn1,sb1,sc1,R1,nl4,cap4,hn1,hR1l,hR1s,hv1⟩
 ·have hj1:(0:Int)≤j1:=by omega
  simp only[run,aP,ii,bb,sC,sI,hrq] at hv1 hrt
  rw[run,ev19,Qaq]
  simp only[Tryd.f19,aP,ii,bb,hrt,hv1,hOli,hj1,FT,seval]
 ·obtain⟨R',hs1,hs2⟩:=hsame _ hn1
  rcases hF2 with ⟨hn2,_⟩ | ⟨ss2,sn2,sb2,sc2,R2,nl5,cap5,hn2,hR2l,hR2s,hv2⟩
  ·rw[hs1] at hn2;cases hn2
  ·rw[hs1] at hn2
   obtain rfl:=Option.some.inj hn2
   have go1:∀ r ∈ outs,0≤r∧r<(R1.length:Int):=fun r hr=>by rw [hR1l];exact go r hr
   have go2':∀ r ∈ O,0≤r∧r<(R2.length:Int):=fun r hr=>by rw [hR2l];exact go2 r hr
   obtain⟨Xo,hXo⟩:∃ Xo,Xo=outs.map (fun r=>R1.getD r.toNat dR):=⟨_,rfl⟩
   obtain⟨Yo,hYo⟩:∃ Yo,Yo=O.map (fun r=>R2.getD r.toNat dR):=⟨_,rfl⟩
   have hXl:Xo.length=outs.length:=by rw [hXo,List.length_map]
   have hYl:Yo.length=outs.length:=by rw [hYo,List.length_map,hOl]
   have hXY:Xo.map Rw.vals=Yo.map Rw.vals:=by
    rw[hXo,hYo,Q1a go1 (QbX L).d,Q1a go2' (QbX L).d]
    exact hs2.symm
   have hXs:∀ r ∈ Xo,SzR L 2000 r:=by rw [hXo];exact SzR.out (fun r hr=>(hR1s r hr).mono (by omega)) go1
   have hYs:∀ r ∈ Yo,SzR L 2000 r:=by rw [hYo];exact SzR.out (fun r hr=>(hR2s r hr).mono (by omega)) go2'
   rw[← hXo] at hv1
   rw[← hYo] at hv2
   simp only[run,aP,ii,bb,sC,sI,sW,hXl,hYl,hrq] at hv1 hv2 hrt
   rw[run,ev19,Qaq]
   simp only[Tryd.f19,aP,ii,bb,sW,hrt,hv1,hv2,hOli,FT,seval]
   rw[Qai QqT QDE];rotate_left;rfl;rfl;rfl
   generalize hz:Qar _ _ _ _ _ _ _ _ _ _ _ _=z
   obtain⟨l9,rfl,f10,f13,f14⟩:=QD8 (k+57) _ _ (by rfl) (by rfl) Xo Yo (by rw [hXl,hYl]) (by omega) nl4 nl5 cap4 cap5 hXY L (by omega) hXs hYs (by omega) _ _ z hz (by omega) (by rw [sW,hXl];rfl) (by rw [sW,hYl];rfl) (by rfl)
   simp only[FT,seval]
section
variable {α:Type} (M:Sem α)
def iniV (I:List α) (n:Nat):List α:=I++List.replicate (n-I.length) M.d
theorem QcB {I:List α} {n:Nat} (h:I.length≤n):(iniV M I n).length=n:=by simp [iniV];omega
theorem Qyv {I:List α} {n r:Nat} (h:r<I.length):(iniV M I n).getD r M.d=I.getD r M.d:=by
 rw[List.getD_eq_getElem?_getD,List.getD_eq_getElem?_getD,iniV,List.getElem?_append_left h]
theorem Qkv {I:List α} {n r:Nat} (h:I.length≤r):(iniV M I n).getD r M.d=M.d:=by
 rw[List.getD_eq_getElem?_getD,iniV,List.getElem?_append_right h,List.getElem?_replicate]
 split<;>rfl
theorem Q9T {I:List α} {n:Nat} (h:∀ a ∈ I,M.G a):∀ a ∈ iniV M I n,M.G a:=by
 intro a ha
 rcases List.mem_append.1 ha with ha | ha
 ·exact h a ha
 ·rw[List.eq_of_mem_replicate ha];exact M.gd
def QhT (p q:Pg):Prop:=∀ I:List α,(I.length:Int)=p.ins→(∀ a ∈ I,M.G a)→∀ R,runE M p.code (iniV M I p.regs.toNat)=some R →
 ∃ R',runE M q.code (iniV M I q.regs.toNat)=some R'∧q.outs.map (fun r=>R'.getD r.toNat M.d)=p.outs.map (fun r=>R.getD r.toNat M.d)
theorem QhT.refl (p:Pg):QhT M p p:=fun _ _ _ R h=>⟨R,h,rfl⟩
theorem QhT.trans {p q r:Pg} (h1:QhT M p q) (hi:q.ins=p.ins) (h2:QhT M q r):QhT M p r:=by
 intro I hI hG R hR
 obtain⟨R1,e1,o1⟩:=h1 I hI hG R hR
 obtain⟨R2,e2,o2⟩:=h2 I (by rw [hI,hi]) hG R1 e1
 exact⟨R2,e2,o2.trans o1⟩
theorem QaQ {p:Pg} (hr:Qax p=true):∃ n:Nat,p.regs=n∧p.regs.toNat=n∧1≤p.ins∧p.ins≤n∧n≤128∧p.code.length≤16384∧1≤p.outs.length∧p.outs.length≤128∧(∀ r ∈ p.outs,0≤r∧r<(n:Int))∧∀ x ∈ p.code,mayM x n=true:=by
 simp only[Qax,Qdh,QfT,QfV,Bool.and_eq_true,decide_eq_true_eq,List.all_eq_true] at hr
 obtain⟨⟨⟨g1,g2,g3,g4,g5,g6⟩,go⟩,gc⟩:=hr
 have e:p.regs=(p.regs.toNat:Int):=by omega
 exact⟨p.regs.toNat,e,rfl,g1,by omega,by omega,g4,g5,g6,fun r h=>by rw [← e];exact go r h,fun x h=>by rw [← e];exact gc x h⟩
theorem Q52 (L:Lin M) {p:Pg} (hr:Qax p=true):QhT M p (Q5k p):=by
 obtain⟨n,e,en,g1,g2,_,_,_,_,_,gc⟩:=QaQ hr
 intro I hI hG R hR
 refine⟨R, ?_,rfl⟩
 show runE M (QmR p.code) (iniV M I p.regs.toNat)=some R
 rw[Q6L L gc (by rw [en,QcB M (by omega)])]
 exact hR
def QiR (p:Pg):Pg:=QeN p.ins p.regs.toNat p.code p.outs
theorem Qzh {p:Pg} (hr:Qax p=true):QhT M p (QiR p):=by
 obtain⟨n,e,en,g1,g2,_,_,_,_,_,gc⟩:=QaQ hr
 intro I hI hG R hR
 rw[en] at hR
 have hr2:Qax ⟨p.ins,n,p.code,p.outs⟩=true:=by rw [← e];exact hr
 obtain⟨h1,h2⟩:=Q5h (M:=M) hr2 (R0:=iniV M I n) (QcB M (by omega)) (Q9T M hG) (fun r h1 h2=>by rw [Qkv M (by omega),Qkv M (by omega)])
 refine⟨R, ?_, ?_⟩
 ·show runE M (passC p.ins p.regs.toNat p.code) (iniV M I (p.regs.toNat:Int).toNat)=some R
  rw[Int.toNat_natCast,en,h1]
  exact hR
 ·show List.map _ (QdG (passS p.ins p.regs.toNat p.code).held p.outs)=_
  rw[en]
  exact h2 R hR
theorem Q9Q {A:List Bool} {R S Q:List α} {x:Ins} {n:Nat} (hm:mayM x n=true) (hA:A.length=n) (hR:R.length=n) (hS:S.length=n) (h1:Qbt M R x=some Q)
  (h:Q1j M (mark (A.set x.to.toNat false) true (asks x)) R S):∃ T,Qbt M S x=some T∧Q1j M A Q T:=by
 obtain⟨ho,⟨t0,t1⟩,⟨a0,a1⟩,hb⟩:=QaO hm
 unfold Qbt at h1
 obtain⟨v,hv,rfl⟩:=Option.map_eq_some_iff.1 h1
 have hl:(A.set x.to.toNat false).length=n:=by rw [List.length_set,hA]
 have ha:=h x.a.toNat (QgI _ _ x.a (by by_cases e:x.op=3∨x.op=4<;>simp [Qdc,QgZ,e,ho]) (by omega))
 have hw:M.f x.op x.c (S.getD x.a.toNat M.d) (S.getD x.b.toNat M.d)=some v:=by
  rw[ha] at hv
  by_cases e:x.op=3∨x.op=4
  ·have hb':=hb e
   rw[h x.b.toNat (QgI _ _ x.b (by simp [Qdc,e]) (by omega))] at hv
   exact hv
  ·rw[M.two _ _ _ _ (S.getD x.b.toNat M.d) (fun h=>e (.inl h)) (fun h=>e (.inr h))] at hv
   exact hv
 refine⟨S.set x.to.toNat v,by unfold Qbt;rw [hw];rfl, ?_⟩
 intro r hr
 rw[Qci (by omega),Qci (by omega)]
 by_cases he:r=x.to.toNat
 ·rw[if_pos he,if_pos he]
 ·rw[if_neg he,if_neg he]
  exact h r (QjS _ _ _ (by rw [Q3m,if_neg (fun e=>he e.1)];exact hr))
theorem QjL {base:List Bool} {n:Nat} (hb:base.length=n):∀ (code:List Ins) (R S Q:List α),(∀ x ∈ code,mayM x n=true)→R.length=n→S.length=n→runE M code R=some Q→Q1j M (QaP base code).1 R S →
  ∃ T,runE M (Qcs code (QaP base code).2) S=some T∧Q1j M base Q T
 | [],R,S,Q,_,_,_,h1,h=>by
  obtain rfl:=Option.some.inj h1
  exact⟨S,by rw [QaP,Qcs];rfl;simp,h⟩
 | x::rest,R,S,Q,hc,hR,hS,h1,h=>by
  rw[runE] at h1
  have hx:=hc x (by simp)
  have hl:=Qq9 base rest
  obtain⟨_,⟨t0,t1⟩,⟨a0,a1⟩,_⟩:=QaO hx
  cases e1:Qbt M R x with
  | none=>rw [e1] at h1;cases h1
  | some R1 =>
   rw[e1] at h1
   have hR1:R1.length=n:=by rw [Qjo M e1,hR]
   rw[QaP] at h ⊢
   by_cases hq:(QaP base rest).1.getD x.to.toNat false=true
   ·rw[if_pos hq] at h ⊢
    cases hn:nothing x with
    | true =>
     obtain⟨n1,n2⟩:=of_decide_eq_true hn
     have he:R1=R:=by
      unfold Qbt at e1
      rw[n1,M.one,Option.map_some,n2,Qrp (by omega)] at e1
      exact(Option.some.inj e1).symm
     subst he
     obtain⟨T,h3,h4⟩:=QjL hb rest R1 S Q (fun y hy=>hc y (by simp [hy])) hR1 hS h1 (by
      intro r hr
      by_cases her:r=x.to.toNat
      ·subst her
       exact h _ (by rw [n2];exact QgI _ _ x.a (by simp [QgZ,n1]) (by rw [List.length_set];omega))
      ·exact h r (QjS _ _ _ (by rw [Q3m,if_neg (fun e=>her e.1)];exact hr)))
     exact⟨T,by simp only [Qcs,hn,Bool.not_true,Bool.and_false,Bool.false_eq_true,if_false];exact h3,h4⟩
    | false =>
     obtain⟨S1,h5,h6⟩:=Q9Q M hx (by rw [hl,hb]) hR hS e1 h
     obtain⟨T,h3,h4⟩:=QjL hb rest R1 S1 Q (fun y hy=>hc y (by simp [hy])) hR1 (by rw [Qjo M h5,hS]) h1 h6
     exact⟨T,by simp only [Qcs,hn,Bool.not_false,Bool.and_true,if_true];rw [runE,h5];exact h3,h4⟩
   ·rw[if_neg hq] at h ⊢
    obtain⟨T,h3,h4⟩:=QjL hb rest R1 S Q (fun y hy=>hc y (by simp [hy])) hR1 hS h1 (by
     intro r hr
     have her:r≠x.to.toNat:=fun e=>hq (by rw [← e];exact hr)
     unfold Qbt at e1
     obtain⟨v,_,rfl⟩:=Option.map_eq_some_iff.1 e1
     rw[Qci (by omega),if_neg her]
     exact h r hr)
    exact⟨T,by simp only [Qcs,Bool.false_and,Bool.false_eq_true,if_false];exact h3,h4⟩
theorem Q5R {p:Pg} (hr:Qax p=true):QhT M p (QeG p):=by
 obtain⟨n,e,en,g1,g2,_,_,_,_,go,gc⟩:=QaQ hr
 intro I hI hG R hR
 rw[en] at hR
 have hb:(QbB n p.outs).length=n:=by simp [QbB,Qbr]
 obtain⟨T,h1,h2⟩:=QjL M hb p.code _ _ R gc (QcB M (by omega)) (QcB M (I:=I) (n:=n) (by omega)) hR (fun r _=>rfl)
 refine⟨T, ?_, ?_⟩
 ·show runE M (Qcs p.code (QaP (QbB p.regs.toNat p.outs) p.code).2) (iniV M I p.regs.toNat)=some T
  rw[en]
  exact h1
 ·show List.map _ p.outs=_
  refine List.map_congr_left fun r hr=>?_
  obtain⟨r0,r1⟩:=go r hr
  exact(h2 r.toNat (QgI _ _ r hr (by simp;omega))).symm
theorem Q5N {p:Pg} (hr:Qax p=true):QhT M p (Qbo p):=by
 obtain⟨n,e,en,g1,g2,_,_,_,_,_,_⟩:=QaQ hr
 intro I hI hG R hR
 have hin:(Qbo p).ins=p.ins:=by rw [QjM (pgOk hr)];rfl
 obtain⟨m,em,emn,k1,k2,_⟩:=QaQ (Qkz hr)
 obtain⟨Q,h1,h2⟩:=Q4Q (M:=M) hr (R0:=iniV M I p.regs.toNat) (Q0:=iniV M I (Qbo p).regs.toNat) (z:=M.d) (R:=R) (QcB M (by omega)) (QcB M (by omega))
  (fun r h=>by rw [Qyv M (by omega),Qyv M (by omega)]) (fun r h1 h2=>Qkv M (by omega)) (fun r h1 h2=>Qkv M (by omega)) hR
 exact⟨Q,h1,h2⟩
end
theorem Qup {p:Pg} (hr:Qax p=true):Qax (QiR p)=true:=by
 obtain⟨n,e,en,_⟩:=QaQ hr
 unfold QiR
 rw[en]
 exact Qy5 (by rw [← e];exact hr)
structure Comes (p q:Pg):Prop where
 right:Qax q=true
 ins:q.ins=p.ins
 code:q.code.length≤p.code.length
 outs:q.outs.length=p.outs.length
 same:∀ L,QhT (QbX L) p q
theorem Comes.refl {p:Pg} (hr:Qax p=true):Comes p p:=⟨hr,rfl,Nat.le_refl _,rfl,fun L=>QhT.refl _ p⟩
theorem Comes.then_ {p q r:Pg} (h:Comes p q) (hr:Qax r=true) (hi:r.ins=q.ins) (hc:r.code.length≤q.code.length) (ho:r.outs.length=q.outs.length) (hs:∀ L,QhT (QbX L) q r):Comes p r :=
 ⟨hr,hi.trans h.ins,Nat.le_trans hc h.code,ho.trans h.outs,fun L=>(h.same L).trans _ h.ins (hs L)⟩
theorem Comes.fold {p q:Pg} (h:Comes p q):Comes p (Q5k q):=h.then_ (QyI h.right) rfl (QxA _) rfl (fun L=>Q52 _ (QFN L) h.right)
theorem Qjt (q:Pg):(QiR q).code.length≤q.code.length∧(QiR q).outs.length=q.outs.length:=by
 have hf:=Qcc (startS q.ins q.regs.toNat) q.code q.code.length
 exact⟨hf.2.2.2.2,Qdk _ _⟩
theorem Comes.share {p q:Pg} (h:Comes p q):Comes p (QiR q):=h.then_ (Qup h.right) rfl (Qjt q).1 (Qjt q).2 (fun L=>Qzh _ h.right)
theorem Comes.dead {p q:Pg} (h:Comes p q):Comes p (QeG q):=h.then_ (Qy4 h.right) rfl (Qha _ _) rfl (fun L=>Q5R _ h.right)
theorem Comes.pack {p q:Pg} (h:Comes p q):Comes p (Qbo q):=by
 obtain⟨h1,h2,h3⟩:=Qgt h.right
 exact h.then_ (Qkz h.right) h3 h1 h2 (fun L=>Q5N _ h.right)
end Go.Proofs.Sw
/- What the listed table of math/bits gives: its 64 cells. -/
namespace Go.Proofs.YtiiannaficbjeaaDoor.tab
open Go.ChangeShapes Go.WideShapes Go.ChangeAt Go.RowKit Go.Ab
def QrU:List Int:=[0,1,56,2,57,49,28,3,61,58,42,50,38,29,17,4,62,47,59,36,45,43,51,22,53,39,33,30,24,18,12,5,63,55,48,27,60,41,37,16,46,35,44,21,52,32,23,11,54,26,40,15,34,20,31,10,25,14,19,9,13,8,7,6]
instance tables:Globals:={ gl:=fun g=>if g=1 then some (QrU.map (IV.int .u8)) else none }
def QyY:List (String × DataW Unit):=[("math/bits.deBruijn32tab",Rows.laid_math_bits_deBruijn32tab),("math/bits.deBruijn64tab",Rows.laid_math_bits_deBruijn64tab)]
theorem g64:Tryd.prog.globalNamed "math/bits.deBruijn64tab"=some 1:=by kernel_rfl
theorem Q6N {H:Type} {enc:TypeId × Value→H} {P:Program} {w:World} {base:Nat} {spare:Nat→Bool} {held:Bool} {fuel:Nat} {t e:TypeId} {n:Nat} {k:IntKind} {cs:List Value} {ns:List Int} {ps:List MemPlace}
  (ht:P.underlying t=some (.array n e)) (he:P.underlying e=some (.int k)) (hc:P.cellsOf e=1)
  (h:DataW.trod enc P w base spare held fuel t cs=some (.agg (ns.map fun z=>.lit (.int k z)),ps)):∀ i,i<n→cs[i]?=(ns[i]?).map (Value.int k):=by
 obtain⟨xs,m,_,hx,_,hn,hel⟩:=DataW.trod_array ht h
 simp only[Prod.mk.injEq,DataW.agg.injEq] at hx
 intro i hi
 have h1:=hel i hi
 rw[hc,Nat.mul_one] at h1
 have hxi:xs[i]?=some (xs[i]'(by omega)):=List.getElem?_eq_getElem _
 rw[hxi] at h1
 obtain⟨z,e1,e2,_⟩:=DataW.trod_int he h1
 have h2:(xs.map (·.1))[i]?=(ns.map fun z=>DataW.lit (H:=H) (.int k z))[i]?:=by rw [← hx.1]
 rw[List.getElem?_map,List.getElem?_map,hxi,e2] at h2
 have hcs:cs[i]?=some (.int k z):=by
  have:=congrArg (fun l=>l[0]?) e1
  simpa [List.getElem?_take,List.getElem?_drop] using this
 rw[hcs]
 cases hns:ns[i]? with
 | none=>rw [hns] at h2;simp at h2
 | some z' =>
  rw[hns] at h2
  simp at h2
  rw[h2]
  rfl
theorem QEt {W:World} (h:laidMetH Tryd.prog QyY W):∀ (i:Nat),i<64→W.cell? ⟨1,i,none⟩=(QrU[i]?).map (Value.int .u8):=by
 rw[MakeChecks.laidMetH_plain _ _ _ (by kernel_rfl)] at h
 obtain⟨ps,⟨g0,t0,cs0,f0,p0,q0,hg0,ht0,hv0,hd0,⟨g1,t1,cs1,f1,p1,q1,hg1,ht1,hv1,hd1,_,_⟩,_⟩,_,_⟩:=h
 obtain rfl:=Option.some.inj (g64.symm.trans hg1)
 have ht:t1=175:=Option.some.inj (ht1.symm.trans (by kernel_rfl))
 subst ht
 intro i hi
 rw[World.var?_cell hg1 hv1 i]
 have:=Q6N (n:=64) (k:=.u8) (ns:=QrU) (by kernel_rfl) (e:=5) (by kernel_rfl) (by kernel_rfl) hd1 i hi
 rw[← this]
 simp
theorem Q5K {W:World} (h:laidMetH Tryd.prog QyY W):∀ (g:Nat) (cells:List IV),Globals.gl g=some cells→IRel (fun b=>b<W.heap.size) W (.iptr cells 0) (.pointer (some ⟨g,0,none⟩)):=by
 intro g cells hg
 have hg':(if g=1 then some (QrU.map (IV.int .u8)) else none)=some cells:=hg
 split at hg'
 ·rename_i e
  subst e
  injection hg' with hg'
  subst hg'
  have hcell:∀ j,j<64→W.cell? ⟨1,j,none⟩=some (.int .u8 (QrU.getD j 0)):=by
   intro j hj
   rw[QEt h j hj,List.getD_eq_getElem?_getD,List.getElem?_eq_getElem (show j<QrU.length from hj)]
   rfl
  have hb:1<W.heap.size:=by
   have h0:=hcell 0 (by decide)
   rcases Nat.lt_or_ge 1 W.heap.size with hlt | hge
   ·exact hlt
   ·simp[World.cell?,Array.getElem?_eq_none hge] at h0
  have:=IRel.iptr (S:=fun b=>b<W.heap.size) (w:=W) (cells:=QrU.map (IV.int .u8)) (off:=0) ⟨1,0,none⟩ (fun j=>.int .u8 (QrU.getD j 0))
   (fun j hj=>⟨hb,by rw [QgD];exact hcell j (by simpa [QrU] using hj)⟩)
   (fun j x hj=>by
    rw[List.getElem?_map] at hj
    obtain⟨z,hz,rfl⟩:=Option.map_eq_some_iff.1 hj
    rw[List.getD_eq_getElem?_getD,hz]
    exact .int _ _)
  rwa [QgD] at this
 ·cases hg'
theorem QAY (os:Os) (args:Array Value):laidMetH Tryd.prog QyY ((World.doorLaid Tryd.prog 4000 os).forCall (fun _ _=>0) ⟨#[],args,[]⟩).memory :=
 laidMetH_of_parts3 (fuel:=8) (laidMet_of_run' 8 (by kernel_rfl) (by kernel_rfl)) (by kernel_rfl) (by kernel_rfl)
theorem own:ownKnob Tryd.prog.godebug=none:=by kernel_rfl
theorem mixed:Tryd.prog.follows .mixedOrders=true:=by kernel_rfl
end Go.Proofs.YtiiannaficbjeaaDoor.tab
namespace Go.Proofs.Sw
open Go.Ab Go.Proofs.YtiiannaficbjeaaDoor.tab
theorem tz_ev (k:Nat) {c:Int} (h:powM c≠0):run (k+3) 87 [.c (.int .u64 (IntKind.wrap .u64 c))]=some (ii (powM c)):=by
 rcases Qh8 h with rfl | rfl | rfl | rfl | rfl | rfl | rfl | rfl | rfl<;>kernel_rfl
theorem QDN:∀ n:Nat,n<511→(IntKind.wrap .i64 (BitVec.ofInt (IntKind.bits .i64) (n+2:Int) &&& BitVec.ofInt (IntKind.bits .i64) (IntKind.wrap .i64 ((n+2:Int)-1))).toNat=0↔powM (n+2:Int)≠0):=by decide +kernel
theorem QBq (k:Nat) (c:Int) (hc:c≤512):run (k+4) 65 [ii c]=some (.tup [ii (powM c),bb (decide (powM c≠0))]):=by
 rw[run,ev65,Qaq]
 by_cases h2:c<2
 ·have hp:powM c=0:=by
   by_cases h:powM c≠0
   ·rcases Qh8 h with rfl | rfl | rfl | rfl | rfl | rfl | rfl | rfl | rfl<;>omega
   ·simpa using h
  simp only[Tryd.f65,ii,bb,h2,hp,FT,seval]
 ·have ha:=QDN (c-2).toNat (by omega)
  rw[show (((c-2).toNat:Int)+2)=c by omega] at ha
  by_cases hp:powM c≠0
  ·have ha':=ha.2 hp
   have ht:=tz_ev k hp
   simp only[ii,run] at ht
   simp only[Tryd.f65,ii,bb,h2,ha',ht,FT,seval]
   simp[hp]
  ·have ha':¬ _:=fun h=>hp (ha.1 h)
   simp only[Tryd.f65,ii,bb,h2,ha',FT,seval]
   simp_all
theorem Qis (k:Nat) (o t a c:Int):run (k+1) 66 [ii o,ii t,ii a,ii c]=some (aI o t a 0 c):=by
 rw[run,ev66,Qaq]
 simp only[Tryd.f66,aI,ii,bb,FT,seval]
theorem QzF (k:Nat) (o t a b c:Int) (hc:c≤512):run (k+6) 37 [aI o t a b c]=some (encI (QcT ⟨o,t,a,b,c⟩)):=by
 rw[run,ev37,Qaq]
 have hp:=QBq (k+1) c hc
 simp only[ii,bb,run] at hp
 simp only[Tryd.f37,aI,ii,bb,hp,Qis,FT,seval]
 repeat' (first
  | (rw [QcO];split<;>simp only [*,Qis,aI,ii,FT,seval])
  | (rw [QaN];split<;>simp only [*,Qis,aI,ii,FT,seval])
  | (split<;>simp only [*,Qis,aI,ii,FT,seval]))
 all_goals simp_all [QcT]
theorem QhP (k:Nat) (c:Int):run (k+1) 88 [ii c]=some (bb (fits c)):=by
 rw[run,ev88,Qaq]
 simp only[Tryd.f88,ii,bb,FT,seval]
 repeat' (first
  | (rw [QcO];split<;>simp only [*,FT,seval])
  | (rw [QaN];split<;>simp only [*,FT,seval])
  | (split<;>simp only [*,FT,seval]))
 all_goals simp [fits, *]
def tri (x:Option (Int × Int)):AV:=match x with
 | some (o,c)=>.tup [ii o,ii c,bb true]
 | none=>.tup [ii 0,ii 0,bb false]
theorem Qys (k:Nat) (f c s d:Int) (c1:-512≤c) (c2:c≤512) (d1:-512≤d) (d2:d≤512) (hd:s=6→d≠0) (hc:f=5→c≠0) :
  run (k+2) 67 [ii f,ii c,ii s,ii d]=some (tri (together f c s d)):=by
 have hm:=Q9h c1 c2 d1 d2
 have q1:=Qex (d:=d) c1 c2
 have q2:=Qex (d:=c) d1 d2
 have w1:IntKind.wrap .i64 (c * d)=c * d:=wrap64 (by omega) (by omega)
 have w2:IntKind.wrap .i64 (0-c)=-c:=by rw [wrap64 (by omega) (by omega)];omega
 have w3:IntKind.wrap .i64 (0-d)=-d:=by rw [wrap64 (by omega) (by omega)];omega
 have w4:IntKind.wrap .i64 (c+d)=c+d:=wrap64 (by omega) (by omega)
 have w5:IntKind.wrap .i64 (c-d)=c-d:=wrap64 (by omega) (by omega)
 have w6:IntKind.wrap .i64 (d-c)=d-c:=wrap64 (by omega) (by omega)
 have w7:IntKind.wrap .i64 (c.tdiv d)=c.tdiv d:=wrap64 (by omega) (by omega)
 have w8:IntKind.wrap .i64 (d.tdiv c)=d.tdiv c:=wrap64 (by omega) (by omega)
 rw[run,ev67,Qaq]
 simp only[Tryd.f67,ii,bb,QhP,w1,w2,w3,w4,w5,w6,w7,w8,FT,seval]
 clear hm q1 q2 c1 c2 d1 d2
 repeat' (first
  | (rw [Qaf Tryd.f67 19 QD7];rotate_left;rfl;simp only [*, w1,w2,w3,w4,w5,w6,w7,w8,QhP,EVd,List.getElem?_nil,Nat.reducePow,Nat.reduceDiv,Nat.reduceMod,FT,seval])
  | (rw [Qaf Tryd.f67 21 QDF];rotate_left;rfl;simp only [*, w1,w2,w3,w4,w5,w6,w7,w8,QhP,EVd,List.getElem?_nil,Nat.reducePow,Nat.reduceDiv,Nat.reduceMod,FT,seval])
  | (rw [QcO];split<;>simp only [*, w1,w2,w3,w4,w5,w6,w7,w8,QhP,FT,seval])
  | (rw [QaN];split<;>simp only [*, w1,w2,w3,w4,w5,w6,w7,w8,QhP,FT,seval])
  | (split<;>simp only [*, w1,w2,w3,w4,w5,w6,w7,w8,QhP,FT,seval]))
 all_goals (first | (simp [together,tri, *];done) | skip)
theorem QyU {f c s d o x:Int} (c1:-512≤c) (c2:c≤512) (d1:-512≤d) (d2:d≤512) (h:together f c s d=some (o,x)) (e1:f=7→0≤c∧(s=8→0≤d)):x≤512:=by
 have q1:=Qex (d:=d) c1 c2
 have q2:=Qex (d:=c) d1 d2
 unfold together fits at h
 repeat' (split at h<;>first | (simp only [Option.some.injEq,Prod.mk.injEq,reduceCtorEq] at h) | skip)
 all_goals (try simp only [decide_eq_true_eq] at *)
 all_goals omega
abbrev zIn:Ins:=⟨0,0,0,0,0⟩
def duo (x:Option Ins):AV:=match x with
 | some i=>.tup [encI i,bb true]
 | none=>.tup [encI zIn,bb false]
structure Two (a b:Ins):Prop where
 c1:-512≤a.c
 c2:a.c≤512
 d1:-512≤b.c
 d2:b.c≤512
 hd:b.op=6→b.c≠0
 hc:a.op=5→a.c≠0
 e1:a.op=7→0≤a.c∧(b.op=8→0≤b.c)
theorem QD5 (k:Nat) (o t a b c o' t' a' b' c':Int) (h:Two ⟨o,t,a,b,c⟩ ⟨o',t',a',b',c'⟩) :
  run (k+7) 38 [aI o t a b c,aI o' t' a' b' c']=some (duo (QfU ⟨o,t,a,b,c⟩ ⟨o',t',a',b',c'⟩)):=by
 have ht:=Qys (k+4) o c o' c' h.c1 h.c2 h.d1 h.d2 h.hd h.hc
 have hl:=@QyU o c o' c'
 rw[run,ev38,Qaq]
 simp only[run,ii,bb] at ht
 cases hx:together o c o' c' with
 | none =>
  simp only[hx,tri,ii,bb] at ht
  simp only[Tryd.f38,aI,ii,bb,ht,FT,seval]
  clear h hl
  repeat' (first
  | (rw [QcO];split<;>simp only [*,ht,FT,seval])
  | (rw [QaN];split<;>simp only [*,ht,FT,seval])
  | (split<;>simp only [*,ht,FT,seval]))
  all_goals simp [QfU,duo,hx, *]
 | some x =>
  obtain⟨z,y⟩:=x
  simp only[hx,tri,ii,bb] at ht
  have hp:=fun w=>QzF k z w a 0 y (hl h.c1 h.c2 h.d1 h.d2 hx h.e1)
  simp only[run,aI,ii,encI] at hp
  simp only[Tryd.f38,aI,ii,bb,ht,Qis,hp,FT,seval]
  clear h hl
  repeat' (first
  | (rw [QcO];split<;>simp only [*,ht,Qis,hp,FT,seval])
  | (rw [QaN];split<;>simp only [*,ht,Qis,hp,FT,seval])
  | (split<;>simp only [*,ht,Qis,hp,FT,seval]))
  all_goals simp [QfU,duo,hx, *]
end Go.Proofs.Sw
