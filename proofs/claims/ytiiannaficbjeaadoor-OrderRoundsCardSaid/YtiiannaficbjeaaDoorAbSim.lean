/- A part of the proof: an interpreter on abstract values, proved right for every program; no condition. -/
import Derived.Test.YtiiannaficbjeaaDoorAbRun
namespace Go.Ab
set_option linter.unusedVariables false
set_option linter.unusedSimpArgs false
set_option linter.unusedSectionVars false
def upd (g:Nat→AV) (i:Nat) (x:AV):Nat→AV:=fun j=>if j=i then x else g j
noncomputable def PT.of:Nat→(Nat→AV)→PT
 | 0,_=>.nil
 | d+1,g=>.node (g 0) (PT.of d fun m=>g (2 * m+1)) (PT.of d fun m=>g (2 * m+2))
theorem PT.get_of:∀ (d:Nat) (g:Nat→AV) (i:Nat),i+1<2 ^ d→(PT.of d g).get i=g i
 | 0,_,i,h=>by simp at h
 | d+1,g,i,h=>by
  have hp:2 ^ (d+1)=2 * 2 ^ d:=by rw [Nat.pow_succ];omega
  rw[PT.of,PT.get_node]
  split
  ·rename_i e;rw [e]
  ·split
   ·rw[PT.get_of d _ _ (by omega)];congr 1;omega
   ·rw[PT.get_of d _ _ (by omega)];congr 1;omega
theorem PT.set_of (x:AV):∀ (d:Nat) (g:Nat→AV) (i:Nat),(PT.of d g).set x i=PT.of d (upd g i x)
 | 0,_,i=>rfl
 | d+1,g,i=>by
  rw[PT.of,PT.set_node,PT.of]
  split
  ·rename_i e
   subst e
   rfl
  ·split
   ·rw[PT.set_of x d]
    have h1:upd g i x 0=g 0:=by unfold upd;rw [if_neg (by omega)]
    have h2:upd (fun m=>g (2 * m+1)) ((i-1) / 2) x=fun m=>upd g i x (2 * m+1):=by
     funext m
     unfold upd
     by_cases e:m=(i-1) / 2
     ·rw[if_pos e,if_pos (by omega)]
     ·rw[if_neg e,if_neg (by omega)]
    have h3:(fun m=>upd g i x (2 * m+2))=fun m=>g (2 * m+2):=by
     funext m
     unfold upd
     rw[if_neg (by omega)]
    rw[h1,h2,h3]
   ·rw[PT.set_of x d]
    have h1:upd g i x 0=g 0:=by unfold upd;rw [if_neg (by omega)]
    have h2:upd (fun m=>g (2 * m+2)) ((i-1) / 2) x=fun m=>upd g i x (2 * m+2):=by
     funext m
     unfold upd
     by_cases e:m=(i-1) / 2
     ·rw[if_pos e,if_pos (by omega)]
     ·rw[if_neg e,if_neg (by omega)]
    have h3:(fun m=>upd g i x (2 * m+1))=fun m=>g (2 * m+1):=by
     funext m
     unfold upd
     rw[if_neg (by omega)]
    rw[h1,h2,h3]
theorem PT.full_of:∀ d,PT.full d=PT.of d fun _=>.unk
 | 0=>rfl
 | d+1=>by rw [PT.full,PT.of,PT.full_of d]
theorem PT.all_of (p:AV→Bool):∀ (d:Nat) (g:Nat→AV),(∀ i,i+1<2 ^ d→p (g i)=true)→(PT.of d g).all p=true
 | 0,_,_=>rfl
 | d+1,g,h=>by
  have hp:2 ^ (d+1)=2 * 2 ^ d:=by rw [Nat.pow_succ];omega
  have h0:1≤2 ^ d:=Nat.one_le_two_pow
  have h1:=h 0 (by omega)
  have h2:=PT.all_of p d (fun m=>g (2 * m+1)) (fun i hi=>h _ (by omega))
  have h3:=PT.all_of p d (fun m=>g (2 * m+2)) (fun i hi=>h _ (by omega))
  show Bool.rec (motive:=fun _=>Bool) false (Bool.rec (motive:=fun _=>Bool) false ((PT.of d fun m=>g (2 * m+2)).all p) ((PT.of d fun m=>g (2 * m+1)).all p)) (p (g 0))=true
  rw[h1,h2,h3]
abbrev Ass:=List (Nat × AV)
def asc:Ass→Nat→AV
 | [],_=>.unk
 | (i,x)::l,j=>if j=i then x else asc l j
theorem Q8S {i:Nat} {x:AV} {l:Ass}:asc ((i,x)::l) i=x:=if_pos rfl
theorem Q3W {i j:Nat} {x:AV} {l:Ass} (h:(j == i)=false):asc ((i,x)::l) j=asc l j:=if_neg (by simpa using h)
theorem Q7o {i:Nat}:asc [] i=.unk:=rfl
noncomputable def fr (n:Nat) (l:Ass):Fr:=⟨n,PT.of (Nat.log2 n+1) fun i=>if i<n then asc l i else .unk⟩
theorem QBS {n i:Nat} (h:i<n):i+1<2 ^ (Nat.log2 n+1):=by
 have:=@Nat.lt_log2_self n
 omega
theorem QgQ {n t:Nat} {l:Ass} (h:t<n):(fr n l).get t=asc l t:=by
 show (PT.of _ _).get t=_
 rw[PT.get_of _ _ _ (QBS h),if_pos h]
theorem Qx0 {n t:Nat} {l:Ass} {x:AV} (h:t<n):(fr n l).set t x=fr n ((t,x)::l):=by
 rw[Fr.set_eq,if_pos (show t<(fr n l).n from h)]
 unfold fr
 show Fr.mk n ((PT.of _ _).set x t)=_
 rw[PT.set_of]
 congr 2
 funext i
 show (if i=t then x else if i<n then asc l i else .unk)=if i<n then (if i=t then x else asc l i) else .unk
 by_cases e:i=t
 ·subst e;rw [if_pos rfl,if_pos h,if_pos rfl]
 ·rw[if_neg e,if_neg e]
theorem QGg {n:Nat} {l l':Ass} (h:∀ i,i<n→asc l i=asc l' i):fr n l=fr n l':=by
 unfold fr
 congr 2
 funext i
 by_cases e:i<n
 ·rw[if_pos e,if_pos e,h i e]
 ·rw[if_neg e,if_neg e]
theorem QCo {p:AV→Bool} {n:Nat} {l:Ass} (hu:p .unk=true) (h:∀ i,i<n→p (asc l i)=true):(fr n l).t.all p=true:=by
 refine PT.all_of _ _ _ fun i _=>?_
 by_cases e:i<n
 ·rw[if_pos e];exact h i e
 ·rw[if_neg e];exact hu
theorem Q7H {n:Nat} {args:List AV}:Qst n args=Qao (fr (args.length+(n-args.length)) []) 0 args:=by
 unfold Qst
 congr 1
 unfold fr
 rw[PT.full_of]
 congr 2
 funext i
 simp[asc]
theorem Q3e {F:Fr} {i:Nat}:Qao F i []=F:=rfl
theorem QsH {n i:Nat} {l:Ass} {x:AV} {xs:List AV} (h:i<n):Qao (fr n l) i (x::xs)=Qao (fr n ((i,x)::l)) (i+1) xs:=by
 rw[Qao,Qx0 h]
def keep (l:Ass):List Nat→Ass
 | []=>[]
 | i::is=>(i,asc l i)::keep l is
theorem Q28 (l:Ass):∀ (is:List Nat) (j:Nat),asc (keep l is) j=if is.contains j then asc l j else .unk
 | [],j=>by simp [keep,asc]
 | i::is,j=>by
  rw[keep,asc,Q28 l is j]
  by_cases e:j=i
  ·subst e;simp
  ·rw[if_neg e];simp [e]
theorem Qkb {n:Nat}:∀ (cl:List Nat) (l:Ass),∃ l',QaJ (fr n l) cl=fr n l'∧∀ j,j<n→asc l' j=if cl.contains j then .unk else asc l j
 | [],l=>⟨l,rfl,fun j _=>by simp⟩
 | t::ts,l=>by
  rw[QaJ]
  by_cases h:t<n
  ·rw[Qx0 h]
   obtain⟨l',e,h2⟩:=Qkb ts ((t,.unk)::l)
   refine⟨l',e,fun j hj=>?_⟩
   rw[h2 j hj,asc]
   by_cases e:j=t
   ·subst e;simp
   ·simp[e]
  ·rw[Fr.set_eq,if_neg (show ¬ t<(fr n l).n from h)]
   obtain⟨l',e,h2⟩:=Qkb ts l
   refine⟨l',e,fun j hj=>?_⟩
   rw[h2 j hj]
   have:j≠t:=by omega
   simp[this]
def QzO (n:Nat) (live cl:List Nat):Bool:=(List.range n).all fun i=>live.contains i != cl.contains i
theorem Q5v {n:Nat} {live cl:List Nat} {l:Ass} (h:QzO n live cl=true):QaJ (fr n l) cl=fr n (keep l live):=by
 obtain⟨l',e,h2⟩:=Qkb (n:=n) cl l
 rw[e]
 refine QGg fun i hi=>?_
 rw[h2 i hi,Q28]
 unfold QzO at h
 have:=List.all_eq_true.1 h i (List.mem_range.2 hi)
 cases h1:live.contains i<;>cases h3:cl.contains i<;>rw [h1,h3] at this<;>first | rfl | cases this
theorem Qc8 {n:Nat} {F:Fr} {H:Heap} (h:H.length=n):trim n F H=H:=by
 unfold trim
 split
 ·rw[← h,List.take_length]
 ·rfl
theorem QbA {n:Nat} {F:Fr} {H:Heap} (h1:F.t.all (AV.under n)=true) (h2:(H.take n).all (AObj.under n)=true):trim n F H=H.take n:=by
 unfold trim
 rw[if_pos ⟨h1,h2⟩]
theorem Qyu {p:AV→Bool} (hu:p .unk=true):∀ (l:Ass) (i:Nat),(l.all fun e=>p e.2)=true→p (asc l i)=true
 | [],_,_=>hu
 | (j,x)::l,i,h=>by
  rw[List.all_cons,Bool.and_eq_true] at h
  rw[asc]
  split
  ·exact h.1
  ·exact Qyu hu l i h.2
theorem QgE {n N:Nat} {l:Ass} {H:Heap} (h1:(l.all fun e=>AV.under n e.2)=true) (h2:(H.take n).all (AObj.under n)=true):trim n (fr N l) H=H.take n :=
 QbA (QCo rfl fun i _=>Qyu rfl l i h1) h2
theorem Q8O {n:Nat} {x:IV}:AV.under n (.c x)=true:=rfl
theorem Qxg {n id off:Nat}:AV.under n (.ptr id off)=decide (id<n):=rfl
theorem Qsw {n id off len ext sz:Nat}:AV.under n (.hsl id off len ext sz)=decide (id<n):=rfl
theorem QwH {n:Nat}:AV.under n .unk=true:=rfl
theorem Qvx {n:Nat} {cs:List AV}:AV.under n (.agg cs)=cs.all (AV.under0 n):=rfl
theorem Q10 {n:Nat} {x:IV}:AV.under0 n (.c x)=true:=rfl
theorem Qnc {n id off:Nat}:AV.under0 n (.ptr id off)=decide (id<n):=rfl
theorem QmX {n id off len ext sz:Nat}:AV.under0 n (.hsl id off len ext sz)=decide (id<n):=rfl
theorem Qi9 {n:Nat} {t:TypeId} {cs:List AV}:AObj.under n (.cells t cs)=cs.all (AV.under n):=rfl
theorem Qng {n:Nat} {t:TypeId} {fz:Bool} {cs:List IV}:AObj.under n (.row fz t cs)=true:=rfl
def QsL (x:Option Out) (f:Fr→Heap→Option Out):Option Out :=
 match x with
 | some (.norm F H)=>f F H
 | r=>r
theorem QpZ {F:Fr} {H:Heap} {f:Fr→Heap→Option Out}:QsL (some (.norm F H)) f=f F H:=rfl
theorem Qq5 {id:Nat} {F:Fr} {H:Heap} {f:Fr→Heap→Option Out}:QsL (some (.exit id F H)) f=some (.exit id F H):=rfl
theorem Qwx {F:Fr} {H:Heap} {f:Fr→Heap→Option Out}:QsL (some (.ret F H)) f=some (.ret F H):=rfl
theorem Qop {f:Fr→Heap→Option Out}:QsL none f=none:=rfl
def QvJ (v:AV) (f g:Fr→Heap→Option Out) (F:Fr) (H:Heap):Option Out :=
 match v with
 | .c (.bool true)=>f F H
 | .c (.bool false)=>g F H
 | _=>none
theorem Qq7 {f g:Fr→Heap→Option Out} {F:Fr} {H:Heap}:QvJ (.c (.bool true)) f g F H=f F H:=rfl
theorem QlZ {f g:Fr→Heap→Option Out} {F:Fr} {H:Heap}:QvJ (.c (.bool false)) f g F H=g F H:=rfl
theorem Qth {b:Bool} {f g:Fr→Heap→Option Out} {F:Fr} {H:Heap}:QvJ (.c (.bool !b)) f g F H=QvJ (.c (.bool b)) g f F H:=by cases b<;>rfl
theorem QcO {p:Prop} [Decidable p] {f g:Fr→Heap→Option Out} {F:Fr} {H:Heap}:QvJ (.c (.bool (decide p))) f g F H=if p then f F H else g F H:=by by_cases h:p<;>simp [h,QvJ]
theorem QaN {b:Bool} {f g:Fr→Heap→Option Out} {F:Fr} {H:Heap}:QvJ (.c (.bool b)) f g F H=if b=true then f F H else g F H:=by cases b<;>rfl
def Qpk (id:Nat) (x:Option Out):Option Out :=
 match x with
 | some (.exit id' F' H')=>if id'=id then some (.norm F' H') else some (.exit id' F' H')
 | r=>r
theorem Ql1 {id:Nat} {F:Fr} {H:Heap}:Qpk id (some (.norm F H))=some (.norm F H):=rfl
theorem Qkf {id id':Nat} {F:Fr} {H:Heap}:Qpk id (some (.exit id' F H))=if id'=id then some (.norm F H) else some (.exit id' F H):=rfl
theorem Qqt {id:Nat} {F:Fr} {H:Heap}:Qpk id (some (.ret F H))=some (.ret F H):=rfl
theorem Qml {id:Nat}:Qpk id none=none:=rfl
def regO (x:Option (Fr × Heap)):Option Out :=
 match x with
 | some (F,H)=>some (.norm F H)
 | none=>none
theorem QsU {F:Fr} {H:Heap}:regO (some (F,H))=some (.norm F H):=rfl
theorem QwE:regO none=none:=rfl
section
variable [Globals] {P:Program} {cx:Cx}
noncomputable def Qz1 (P:Program) (cx:Cx) (r:Nat) (ops:Array Oper) (os:List Oper) (i:Nat) (x:Option (Fr × Heap)):Option (Fr × Heap) :=
 match x with
 | some (F,H)=>Qd9 P cx r ops os i F H
 | none=>none
theorem Qlu {r:Nat} {ops:Array Oper} {i:Nat} {F:Fr} {H:Heap}:Qd9 P cx r ops [] i F H=some (F,H):=rfl
theorem Qj1 {r:Nat} {ops:Array Oper} {o:Oper} {os:List Oper} {i:Nat} {F:Fr} {H:Heap} :
  Qd9 P cx r ops (o::os) i F H=Qz1 P cx r ops os (i+1) (Qfg P cx r ops i o F H):=by
 rw[Qd9]
 cases Qfg P cx r ops i o F H<;>rfl
theorem Qjd {r:Nat} {ops:Array Oper} {os:List Oper} {i:Nat} {F:Fr} {H:Heap}:Qz1 P cx r ops os i (some (F,H))=Qd9 P cx r ops os i F H:=rfl
theorem Qjy {r:Nat} {ops:Array Oper} {os:List Oper} {i:Nat}:Qz1 P cx r ops os i none=none:=rfl
theorem QeK {id:Nat} {ops:Array Oper} {F:Fr} {H:Heap}:Qad P cx (.region id ops false) F H=regO (Qd9 P cx id ops ops.toList 0 F H):=by
 simp only[Qad,Bool.false_eq_true,if_false]
 cases Qd9 P cx id ops ops.toList 0 F H<;>rfl
theorem Qhb {F:Fr} {H:Heap}:Qad P cx .skip F H=some (.norm F H):=rfl
theorem QfY {l:Nat} {F:Fr} {H:Heap}:Qad P cx (.label l) F H=some (.norm F H):=rfl
theorem QiB {F:Fr} {H:Heap}:Qad P cx .ret F H=some (.ret F H):=rfl
theorem Qho {id:Nat} {F:Fr} {H:Heap}:Qad P cx (.exit id) F H=some (.exit id F H):=rfl
theorem Qgm {b:Code} {F:Fr} {H:Heap}:Qad P cx (.scope b) F H=Qad P cx b F H:=rfl
theorem Qiu {a b:Code} {F:Fr} {H:Heap}:Qad P cx (.seq a b) F H=QsL (Qad P cx a F H) (Qad P cx b):=by
 simp only[Qad,QsL]
 split<;>simp_all
theorem Qhe {c:Operand} {a b:Code} {F:Fr} {H:Heap}:Qad P cx (.cond c a b) F H=QvJ (Qa2 F c) (Qad P cx a) (Qad P cx b) F H:=by
 simp only[Qad]
 rfl
theorem Qgn {id:Nat} {b:Code} {F:Fr} {H:Heap}:Qad P cx (.block id b) F H=Qpk id (Qad P cx b F H):=by
 simp only[Qad,Qpk]
 split<;>simp_all
theorem Q67 {f:Fr→Heap→Option Out} {cl:List Nat} {n k:Nat} {F:Fr} {H:Heap} :
  iter f cl [] n (k+1) F H=QsL (f (QaJ F cl) (trim n (QaJ F cl) H)) (iter f cl [] n k):=by
 rw[iter]
 simp only[Q8R]
 rcases f (QaJ F cl) (trim n (QaJ F cl) H) with _ | o
 ·rfl
 ·cases o<;>rfl
noncomputable def Q5f (dst:Option Tmp) (F:Fr) (x:Option (AV × Heap)):Option (Fr × Heap) :=
 match x with
 | some (v,H)=>some (setD F dst v,H)
 | none=>none
theorem Qn4 {dst:Option Tmp} {F:Fr} {v:AV} {H:Heap}:Q5f dst F (some (v,H))=some (setD F dst v,H):=rfl
theorem Qo1 {dst:Option Tmp} {F:Fr}:Q5f dst F none=none:=rfl
theorem Qx9 {n d:Nat} {l:Ass} {v:AV} (h:d<n):setD (fr n l) (some d) v=fr n ((d,v)::l):=Qx0 h
theorem Qu3 {F:Fr} {v:AV}:setD F none v=F:=rfl
theorem QlL {r:Nat} {ops:Array Oper} {i:Nat} {F:Fr} {H:Heap} {dst:Option Tmp} {op:Op} {type:TypeId} {pos:String} {after:Array Edge} :
  Qfg P cx r ops i ⟨dst,op,type,pos,after,none⟩ F H=Q5f dst F (QaH P cx r i F H ⟨dst,op,type,pos,after,none⟩):=by
 simp only[Qfg,QbS,Q5f]
 cases QaH P cx r i F H ⟨dst,op,type,pos,after,none⟩<;>rfl
noncomputable def Qsf (v:AV) (want:Bool) (x:Option (Fr × Heap)) (y:Fr) (H:Heap):Option (Fr × Heap) :=
 match v with
 | .c (.bool b)=>if b=want then x else some (y,H)
 | .tup []=>some (y,H)
 | _=>none
theorem QkG {b:Bool} {x:Option (Fr × Heap)} {y:Fr} {H:Heap}:Qsf (.c (.bool b)) true x y H=if b=true then x else some (y,H):=rfl
theorem Qi4 {b:Bool} {x:Option (Fr × Heap)} {y:Fr} {H:Heap}:Qsf (.c (.bool b)) false x y H=if b=true then some (y,H) else x:=by cases b<;>rfl
theorem Q2n {α:Type} {b:Bool} {x y:α}:(if (!b)=true then x else y)=if b=true then y else x:=by cases b<;>rfl
theorem Qps {want:Bool} {x:Option (Fr × Heap)} {y:Fr} {H:Heap}:Qsf (.tup []) want x y H=some (y,H):=rfl
noncomputable def QwM (F:Fr):Option Oper→AV
 | some ⟨some d,_,_,_,_,_⟩=>F.get d
 | _=>.unk
theorem Qmb {F:Fr} {d:Tmp} {op:Op} {type:TypeId} {pos:String} {after:Array Edge} {g:Option (Nat × Bool)}:QwM F (some ⟨some d,op,type,pos,after,g⟩)=F.get d:=rfl
theorem QiU {r:Nat} {ops:Array Oper} {i:Nat} {F:Fr} {H:Heap} {dst:Option Tmp} {op:Op} {type:TypeId} {pos:String} {after:Array Edge} {j:Nat} {want:Bool} :
  Qfg P cx r ops i ⟨dst,op,type,pos,after,some (j,want)⟩ F H=Qsf (QwM F ops[j]?) want (Q5f dst F (QaH P cx r i F H ⟨dst,op,type,pos,after,some (j,want)⟩)) (setD F dst (.tup [])) H:=by
 simp only[Qfg,QbS,Q5f,Qsf,QwM]
 rcases h:ops[j]? with _ | o
 ·simp
 ·obtain⟨d,op',t',p',a',g'⟩:=o
  cases d with
  | none=>simp
  | some d =>
   simp only[Option.bind_some]
   cases hv:F.get d with
   | c x =>
    cases x with
    | bool b =>
     by_cases e:b=want
     ·subst e
      simp
      cases QaH P cx r i F H ⟨dst,op,type,pos,after,some (j,b)⟩<;>rfl
     ·have:(b == want)=false:=by simpa using e
      simp[this,e]
    | _=>simp
   | tup vs=>cases vs<;>simp
   | _=>simp
def valO (H:Heap) (x:Option AV):Option (AV × Heap) :=
 match x with
 | some v=>some (v,H)
 | none=>none
theorem QsJ {H:Heap} {v:AV}:valO H (some v)=some (v,H):=rfl
theorem QtL {H:Heap}:valO H none=none:=rfl
def Q6x (cx:Cx) (r i:Nat) (v:AV) (args:List AV) (H:Heap):Option (AV × Heap) :=
 match v with
 | .yld id=>cx.round id args H
 | .c (.fn g)=>QbP cx r i g args H
 | .clo g first captured=>QbP cx r i g (first++args++captured) H
 | _=>none
theorem Q0R {r i:Nat} {g:FuncId} {args:List AV} {H:Heap}:Q6x cx r i (.c (.fn g)) args H=QbP cx r i g args H:=rfl
theorem Qsp {r i:Nat} {g:FuncId} {a b:List AV} {args:List AV} {H:Heap}:Q6x cx r i (.clo g a b) args H=QbP cx r i g (a++args++b) H:=rfl
theorem Qwb {r i id:Nat} {args:List AV} {H:Heap}:Q6x cx r i (.yld id) args H=cx.round id args H:=rfl
theorem Q5g {r i:Nat} {g:FuncId} {args args':List AV} {H H1 H':Heap} {v:AV} (hfr:cx.hints.framed g=false) (hr:cx.hints.raw cx.fn r i=false) (hk:cx.hints.keep cx.fn r i=false) (ha:args.all AV.pure=false) (hz:Qbi H args=some (args',H1))
  (hc:cx.call g args' []=some (v,H')) (hs:v.scalar=true):QbP cx r i g args H=some (v,H):=by
 unfold QbP QdV
 rw[if_neg (by rw [hfr];simp),if_neg (by rw [hr];simp),if_neg (by rw [hk];simp),if_neg (by rw [ha];simp),hz]
 simp[hc,hs]
section
variable {r i:Nat} {F:Fr} {H:Heap} {dst:Option Tmp} {type:TypeId} {pos:String} {after:Array Edge} {guard:Option (Nat × Bool)}
theorem QxR {x:Operand}:QaH P cx r i F H ⟨dst,.move x,type,pos,after,guard⟩=some (Qa2 F x,H):=rfl
theorem QlX {x:Operand}:QaH P cx r i F H ⟨dst,.assign x,type,pos,after,guard⟩=some (Qa2 F x,H):=rfl
def QBw (c a b:AV):Option AV :=
 match c with
 | .c (.bool t)=>some (if t=true then a else b)
 | _=>none
theorem Qor {t:Bool} {a b:AV}:QBw (.c (.bool t)) a b=some (if t=true then a else b):=rfl
theorem Quv {c a b:Operand}:QaH P cx r i F H ⟨dst,.pick c a b,type,pos,after,guard⟩=valO H (QBw (Qa2 F c) (Qa2 F a) (Qa2 F b)):=by
 simp only[QaH,Qa0,QbF,Qba,QaG]
 have:∀ x:Option AV,(match x with | some v=>some (v,H) | none=>(none:Option (FuncId × List AV)).bind fun c=>QbP cx r i c.1 c.2 H)=valO H x:=by
  intro x;cases x<;>rfl
 exact this (QBw _ _ _)
theorem QuJ {t:TypeId} {x:Operand}:QaH P cx r i F H ⟨dst,.load t x,type,pos,after,guard⟩=valO H (QaK P H t (Qa2 F x)):=by
 simp only[QaH,Qa0,QbF,Qba,QaG,valO];split<;>simp_all
theorem Qhp {x:Operand}:QaH P cx r i F H ⟨dst,.nilCheck x,type,pos,after,guard⟩=valO H (QdH (Qa2 F x)):=by
 simp only[QaH,Qa0,QbF,Qba,QaG,valO];split<;>simp_all
theorem Qo2 {op:BinOp} {t yt:TypeId} {x y:Operand}:QaH P cx r i F H ⟨dst,.binOp op t x y yt,type,pos,after,guard⟩=valO H (binA P H op t (Qa2 F x) (Qa2 F y)):=by
 simp only[QaH,Qa0,QbF,Qba,QaG,valO];split<;>simp_all
theorem Qvt {op:UnOp} {t:TypeId} {x:Operand}:QaH P cx r i F H ⟨dst,.unOp op t x,type,pos,after,guard⟩=valO H (unA op (Qa2 F x)):=by
 simp only[QaH,Qa0,QbF,Qba,QaG,valO];split<;>simp_all
theorem QiP {s d:TypeId} {x:Operand}:QaH P cx r i F H ⟨dst,.convert s d x,type,pos,after,guard⟩=valO H (Qke P s d (Qa2 F x)):=by
 simp only[QaH,Qa0,QbF,Qba,QaG,valO];split<;>simp_all
theorem Qgf {s:TypeId} {x:Operand} {f:Nat}:QaH P cx r i F H ⟨dst,.fieldAddr s x f,type,pos,after,guard⟩=valO H (Qa3 P s (Qa2 F x) f):=by
 simp only[QaH,Qa0,QbF,Qba,QaG,valO];split<;>simp_all
theorem Qpa {s:TypeId} {x:Operand} {f:Nat}:QaH P cx r i F H ⟨dst,.field s x f,type,pos,after,guard⟩=valO H (QoM P s (Qa2 F x) f):=by
 simp only[QaH,Qa0,QbF,Qba,QaG,valO];split<;>simp_all
theorem Qgb {t:TypeId} {x y:Operand}:QaH P cx r i F H ⟨dst,.indexAddr t x y,type,pos,after,guard⟩=valO H (Qa9 P H t (Qa2 F x) (Qa2 F y)):=by
 simp only[QaH,Qa0,QbF,Qba,QaG,valO];split<;>simp_all
theorem Qqo {t:TypeId} {x y:Operand}:QaH P cx r i F H ⟨dst,.index t x y,type,pos,after,guard⟩=valO H (QpE P t (Qa2 F x) (Qa2 F y)):=by
 simp only[QaH,Qa0,QbF,Qba,QaG,valO];split<;>simp_all
theorem Qpv {t:TypeId} {x:Operand} {lo hi mx:Option Operand}:QaH P cx r i F H ⟨dst,.slice t x lo hi mx,type,pos,after,guard⟩=valO H (Qfo P H t (Qa2 F x) (lo.map (Qa2 F)) (hi.map (Qa2 F)) (mx.map (Qa2 F))):=by
 simp only[QaH,Qa0,QbF,Qba,QaG,valO];split<;>simp_all
theorem QpP {t:TypeId} {ps:Array (Nat × Operand)}:QaH P cx r i F H ⟨dst,.build t ps,type,pos,after,guard⟩=valO H (QbD P t (ps.toList.map fun p=>(p.1,Qa2 F p.2))):=by
 simp only[QaH,Qa0,QbF,Qba,QaG,valO];split<;>simp_all
def QjR (v:AV) (i:Nat):Option AV :=
 match v with
 | .tup vs=>vs[i]?
 | _=>none
theorem Qjn {t:Operand} {j:Nat}:QaH P cx r i F H ⟨dst,.extract t j,type,pos,after,guard⟩=valO H (QjR (Qa2 F t) j):=by
 simp only[QaH,Qa0,QbF,Qba,QaG,valO,QjR]
 cases Qa2 F t<;>simp
 split<;>simp_all
theorem QiX {vs:List AV} {j:Nat}:QjR (.tup vs) j=vs[j]?:=rfl
theorem QgH {f:FuncId} {a b:Array Operand}:QaH P cx r i F H ⟨dst,.makeFunc (.func f) a b,type,pos,after,guard⟩ =
  some (if a.size=0∧b.size=0 then .c (.fn f) else .clo f (a.toList.map (Qa2 F)) (b.toList.map (Qa2 F)),H):=by
 simp only[QaH,Qa0]
theorem QnL {t:TypeId}:QaH P cx r i F H ⟨dst,.alloc t,type,pos,after,guard⟩=Qel P H (cx.hints.slot cx.fn r i) t:=by
 simp only[QaH,Qa0,QbF,Qba,QaG];split<;>simp_all
theorem QlU {t:TypeId} {H:Heap}:Qel P H none t=Qdt P H t:=rfl
theorem Q1D {t:TypeId} {x:Operand}:QaH P cx r i F H ⟨dst,.box t x,type,pos,after,guard⟩=boxA H t (Qa2 F x):=by
 simp only[QaH,Qa0,QbF,Qba,QaG];split<;>simp_all
def unkO (x:Option Heap):Option (AV × Heap) :=
 match x with
 | some H=>some (.unk,H)
 | none=>none
theorem Qtw {H:Heap}:unkO (some H)=some (.unk,H):=rfl
theorem QoS {t:TypeId} {a x:Operand}:QaH P cx r i F H ⟨dst,.store t a x,type,pos,after,guard⟩=unkO (QgU P H t (Qa2 F a) (Qa2 F x)):=by
 simp only[QaH,Qa0,QbF,Qba,QaG,unkO]
 cases QgU P H t (Qa2 F a) (Qa2 F x)<;>simp
def numO (x:Option (Nat × Heap)):Option (AV × Heap) :=
 match x with
 | some r=>some (.c (.int .i64 r.1),r.2)
 | none=>none
theorem Qtl {r:Nat × Heap}:numO (some r)=some (.c (.int .i64 r.1),r.2):=rfl
def tupO (x:Option Heap):Option (AV × Heap) :=
 match x with
 | some H=>some (.tup [],H)
 | none=>none
theorem Qwh {H:Heap}:tupO (some H)=some (.tup [],H):=rfl
theorem Qgd {t:TypeId} {l c:Operand}:QaH P cx r i F H ⟨dst,.makeSlice t l c,type,pos,after,guard⟩=QaU P H (cx.hints.slot cx.fn r i) t (Qa2 F l) (Qa2 F c):=by
 simp only[QaH,Qa0,QbF,Qba,QaG];split<;>simp_all
theorem Qf4 {t:TypeId} {n:Nat} {ps:Array (Nat × Operand)}:QaH P cx r i F H ⟨dst,.buildSlice t n ps,type,pos,after,guard⟩=QaI P H t n (ps.toList.map fun p=>(p.1,Qa2 F p.2)):=by
 simp only[QaH,Qa0,QbF,Qba,QaG];split<;>simp_all
theorem Q3M {x:Operand} {t:TypeId}:QaH P cx r i F H ⟨dst,.call ⟨.builtin .len,#[x],#[t]⟩,type,pos,after,guard⟩=valO H (lenA P t (Qa2 F x)):=by
 simp only[QaH,Qa0,QbF,Qba,QaG,valO];split<;>simp_all
theorem QjZ {x y:Operand} {t:TypeId}:QaH P cx r i F H ⟨dst,.call ⟨.builtin .append,#[x,y],#[t,t]⟩,type,pos,after,guard⟩=Qed P H (cx.hints.slot cx.fn r i) t (Qa2 F x) (Qa2 F y):=by
 simp only[QaH,Qa0,QbF,Qba,QaG,if_true];split<;>simp_all
theorem Qoz {x:Operand} {t:TypeId}:QaH P cx r i F H ⟨dst,.call ⟨.builtin .clear,#[x],#[t]⟩,type,pos,after,guard⟩=tupO (Qua P H t (Qa2 F x)):=by
 simp only[QaH,Qa0,QbF,Qba,QaG,tupO]
 cases Qua P H t (Qa2 F x)<;>simp
theorem QtR {x y:Operand} {t t2:TypeId}:QaH P cx r i F H ⟨dst,.call ⟨.builtin .copy,#[x,y],#[t,t2]⟩,type,pos,after,guard⟩=numO (Q7L P H t (Qa2 F x) (Qa2 F y)):=by
 simp only[QaH,Qa0,QbF,Qba,QaG,numO]
 cases Q7L P H t (Qa2 F x) (Qa2 F y)<;>simp
theorem Qll {t:TypeId} {x k:Operand} {ok:Bool}:QaH P cx r i F H ⟨dst,.lookup t x k ok,type,pos,after,guard⟩=valO H (QbJ P H t (Qa2 F x) (Qa2 F k) ok):=by
 simp only[QaH,Qa0,QbF,Qba,QaG,valO];split<;>simp_all
theorem Qir {t:TypeId}:QaH P cx r i F H ⟨dst,.makeMap t none,type,pos,after,guard⟩=some (.hmap H.length,H++[.map t []]):=by
 simp only[QaH,Qa0,QbF,Qba,QaG,QjW,Option.map_none]
theorem QfX {t:TypeId} {m k x:Operand}:QaH P cx r i F H ⟨dst,.mapUpdate t m k x,type,pos,after,guard⟩=unkO (Qd2 P H t (Qa2 F m) (Qa2 F k) (Qa2 F x)):=by
 simp only[QaH,Qa0,QbF,Qba,QaG,unkO]
 cases Qd2 P H t (Qa2 F m) (Qa2 F k) (Qa2 F x)<;>simp
theorem Q3h {x:Operand} {t:TypeId}:QaH P cx r i F H ⟨dst,.call ⟨.builtin .cap,#[x],#[t]⟩,type,pos,after,guard⟩=valO H (capA P H t (Qa2 F x)):=by
 simp only[QaH,Qa0,QbF,Qba,QaG,valO];split<;>simp_all
theorem Q4I {x y:Operand} {ts:Array TypeId}:QaH P cx r i F H ⟨dst,.call ⟨.builtin .min,#[x,y],ts⟩,type,pos,after,guard⟩=valO H (Qlc Q4Y (Qa2 F x) [Qa2 F y]):=by
 simp only[QaH,Qa0,QbF,Qba,QaG,valO];split<;>simp_all
theorem Q4k {x y:Operand} {ts:Array TypeId}:QaH P cx r i F H ⟨dst,.call ⟨.builtin .max,#[x,y],ts⟩,type,pos,after,guard⟩=valO H (Qlc Q5p (Qa2 F x) [Qa2 F y]):=by
 simp only[QaH,Qa0,QbF,Qba,QaG,valO];split<;>simp_all
theorem Qhw {t:TypeId} {m k:Operand}:QaH P cx r i F H ⟨dst,.mapEntry t m k,type,pos,after,guard⟩=Qc4 P H t (Qa2 F m) (Qa2 F k):=by
 simp only[QaH,Qa0,QbF,Qba,QaG]
 cases Qc4 P H t (Qa2 F m) (Qa2 F k)<;>simp
theorem QeU {t:TypeId} {m s x:Operand}:QaH P cx r i F H ⟨dst,.entryStore t m s x,type,pos,after,guard⟩=unkO (Qb9 H (Qa2 F m) (Qa2 F s) (Qa2 F x)):=by
 simp only[QaH,Qa0,QbF,Qba,QaG,unkO]
 cases Qb9 H (Qa2 F m) (Qa2 F s) (Qa2 F x)<;>simp
theorem QwF {f:Operand} {args:Array Operand} {ts:Array TypeId}:QaH P cx r i F H ⟨dst,.call ⟨.value f,args,ts⟩,type,pos,after,guard⟩=Q6x cx r i (Qa2 F f) (args.toList.map (Qa2 F)) H:=by
 simp only[QaH,Qa0,QbF,Qba,QaG,Q6x]
 cases Qa2 F f<;>simp
 rename_i x
 cases x<;>simp
end
theorem Qwi {n t:Nat} {l:Ass} (h:t<n):Qa2 (fr n l) (.tmp t)=asc l t:=QgQ h
theorem Qkq {F:Fr} {v:Value}:Qa2 F (.const v)=ofValue v:=rfl
theorem Qpo {F:Fr} {f:FuncId}:Qa2 F (.func f)=.c (.fn f):=rfl
theorem QkH {k:IntKind} {n:Int}:ofValue (.int k n)=.c (.int k n):=rfl
theorem Qi8 {b:Bool}:ofValue (.bool b)=.c (.bool b):=rfl
theorem QlF {s:ByteArray}:ofValue (.string s)=.c (.str s):=rfl
theorem Qip:ofValue (.pointer none)=.c .nilp:=rfl
theorem Qi3:ofValue (.slice none 0 0)=.c (.slice [] 0 true (some 0)):=rfl
theorem QiZ:ofValue (.map none)=.c .nilmap:=rfl
theorem Qiw:ofValue .nilFunc=.c .nilfn:=rfl
theorem Q7K {H:Heap} {t:TypeId} {k k':IntKind} {a b:Int} (h:k=k'):binA P H .eql t (.c (.int k a)) (.c (.int k' b))=some (.c (.bool (decide (a=b)))):=by
 subst h;simp [binA,Qey,BEq.beq]
theorem Q7y {H:Heap} {t:TypeId} {k k':IntKind} {a b:Int} (h:k=k'):binA P H .neq t (.c (.int k a)) (.c (.int k' b))=some (.c (.bool (!decide (a=b)))):=by
 subst h;simp [binA,Qey,bne,BEq.beq]
theorem Q8V {H:Heap} {t:TypeId} {k k':IntKind} {a b:Int} (h:k=k'):binA P H .lss t (.c (.int k a)) (.c (.int k' b))=some (.c (.bool (decide (a<b)))):=by
 subst h;simp [binA,Qey]
theorem QAt {H:Heap} {t:TypeId} {k k':IntKind} {a b:Int} (h:k=k'):binA P H .leq t (.c (.int k a)) (.c (.int k' b))=some (.c (.bool (decide (a≤b)))):=by
 subst h;simp [binA,Qey]
theorem Q97 {H:Heap} {t:TypeId} {k k':IntKind} {a b:Int} (h:k=k'):binA P H .gtr t (.c (.int k a)) (.c (.int k' b))=some (.c (.bool (decide (b<a)))):=by
 subst h;simp [binA,Qey]
theorem Q8z {H:Heap} {t:TypeId} {k k':IntKind} {a b:Int} (h:k=k'):binA P H .geq t (.c (.int k a)) (.c (.int k' b))=some (.c (.bool (decide (b≤a)))):=by
 subst h;simp [binA,Qey]
theorem Q1Q {H:Heap} {t:TypeId} {k k':IntKind} {a b:Int} (h:k=k'):binA P H .add t (.c (.int k a)) (.c (.int k' b))=some (.c (.int k (k.wrap (a+b)))):=by
 subst h;simp [binA,Qey]
theorem Q30 {H:Heap} {t:TypeId} {k k':IntKind} {a b:Int} (h:k=k'):binA P H .sub t (.c (.int k a)) (.c (.int k' b))=some (.c (.int k (k.wrap (a-b)))):=by
 subst h;simp [binA,Qey]
theorem Q3J {H:Heap} {t:TypeId} {k k':IntKind} {a b:Int} (h:k=k'):binA P H .mul t (.c (.int k a)) (.c (.int k' b))=some (.c (.int k (k.wrap (a * b)))):=by
 subst h;simp [binA,Qey]
theorem Q1g {H:Heap} {t:TypeId} {k k':IntKind} {a b:Int} (h:k=k'):binA P H .quo t (.c (.int k a)) (.c (.int k' b))=if b=0 then none else some (.c (.int k (k.wrap (a.tdiv b)))):=by
 subst h;simp [binA,Qey];split<;>simp
theorem Q09 {H:Heap} {t:TypeId} {k k':IntKind} {a b:Int} (h:k=k'):binA P H .rem t (.c (.int k a)) (.c (.int k' b))=if b=0 then none else some (.c (.int k (a.tmod b))):=by
 subst h;simp [binA,Qey];split<;>simp
theorem Q0u {H:Heap} {t:TypeId} {k k':IntKind} {a b:Int} (h:k=k'):binA P H .and t (.c (.int k a)) (.c (.int k' b))=some (.c (.int k (k.wrap (BitVec.ofInt k.bits a &&& BitVec.ofInt k.bits b).toNat))):=by
 subst h;simp [binA,Qey]
theorem Q6X {b:Bool}:unA .not (.c (.bool b))=some (.c (.bool !b)):=rfl
theorem Q9t {k:IntKind} {n:Int}:unA .neg (.c (.int k n))=some (.c (.int k (k.wrap (0-n)))):=rfl
theorem wrap64 {n:Int} (h1:-9223372036854775808≤n) (h2:n≤9223372036854775807):IntKind.wrap .i64 n=n:=by
 have e:(2 ^ IntKind.bits .i64:Int)=18446744073709551616:=by decide
 have e2:(2 ^ (IntKind.bits .i64-1):Int)=9223372036854775808:=by decide
 have e3:IntKind.signed .i64=true:=rfl
 unfold IntKind.wrap
 simp only[e,e2,e3,Bool.true_and,decide_eq_true_eq]
 split<;>omega
theorem QBt {L:Nat} {F:Fr} {H:Heap} (h:L≤H.length):∃ H',trim L F H=H'∧L≤H'.length∧∀ i,i<L→H'[i]?=H[i]?:=by
 unfold trim
 split
 ·exact⟨_,rfl,by simp;omega,fun i hi=>by rw [List.getElem?_take_of_lt hi]⟩
 ·exact⟨_,rfl,h,fun _ _=>rfl⟩
def cellAt (o:Option AObj) (off:Nat):Option AV :=
 match o with
 | some (.cells _ cs)=>cs[off]?
 | _=>none
theorem Qki {t:TypeId} {cs:List AV} {off:Nat}:cellAt (some (.cells t cs)) off=cs[off]?:=rfl
def Qia (o:Option AObj) (off n:Nat):Option AV :=
 match o with
 | some (.cells _ cs)=>(Qbb cs off n).map .agg
 | _=>none
theorem Qjs {t:TypeId} {cs:List AV} {off n:Nat}:Qia (some (.cells t cs)) off n=(Qbb cs off n).map .agg:=rfl
theorem Qeb {α:Type} {cs:List α} {off n:Nat}:Qbb cs off n=if off+n≤cs.length then some ((cs.drop off).take n) else none:=rfl
theorem Qjl {id off n:Nat}:QaC (.ptr id off) n=some (.ptr id (off+n)):=rfl
theorem QgK {id off ext n:Nat}:QaC (.eptr id off ext) n=some (.eptr id (off+n) ext):=rfl
theorem QgV {cells:List IV} {off n:Nat}:QaC (.c (.iptr cells off)) n=some (.c (.iptr cells (off+n))):=rfl
theorem Qht {id off:Nat}:QdH (.ptr id off)=some (.ptr id off):=rfl
theorem Qgp {cells:List IV} {off:Nat}:QdH (.c (.iptr cells off))=some (.c (.iptr cells off)):=rfl
theorem Q2b {x:IV}:(AV.c x).kcells=[.c x]:=rfl
theorem Qqb {cs:List AV}:(AV.agg cs).kcells=cs:=rfl
theorem QhM {id off len ext sz:Nat}:(AV.hsl id off len ext sz).kcells=[.hsl id off len ext sz]:=rfl
theorem QnH {id off:Nat}:(AV.ptr id off).kcells=[.ptr id off]:=rfl
theorem Q0f {x:IV}:(AV.c x).isCell=true:=rfl
theorem QpO {id off len ext sz:Nat}:(AV.hsl id off len ext sz).isCell=true:=rfl
theorem Qqf {id off:Nat}:(AV.ptr id off).isCell=true:=rfl
theorem Qoe {id:Nat}:(AV.yld id).isCell=true:=rfl
theorem QpF {f:FuncId} {a b:List AV}:(AV.clo f a b).isCell=true:=rfl
theorem Q79 {H:Heap} {e:TypeId} {x:AV} (h:x.kcells.all AV.isCell=true):boxA H e x=some (.ptr H.length 0,H++[.cells e x.kcells]):=if_pos h
def putO (H:Heap) (id off:Nat) (vs:List AV) (o:Option AObj):Option Heap :=
 match o with
 | some (.cells e cs)=>(Qbh cs off vs).map fun cs'=>H.set id (.cells e cs')
 | _=>none
theorem QtM {H:Heap} {id off:Nat} {vs cs:List AV} {e:TypeId}:putO H id off vs (some (.cells e cs))=(Qbh cs off vs).map fun cs'=>H.set id (.cells e cs'):=rfl
theorem Qow {H:Heap} {t:TypeId} {id off:Nat} {x:AV} (hs:Qb0 P t=some x.kcells.length) (hc:x.kcells.all AV.isCell=true) :
  QgU P H t (.ptr id off) x=putO H id off x.kcells H[id]?:=by
 unfold QgU putO
 rw[if_pos hs]
 simp only[hc,if_true]
 cases H[id]? with
 | none=>rfl
 | some o=>cases o<;>rfl
theorem Qjh {α:Type} {cs:List α} {off:Nat} {x:α}:Qbh cs off [x]=if off<cs.length then some (cs.set off x) else none:=rfl
theorem QiI {α:Type} {cs l:List α} {off:Nat} {x y:α}:Qbh cs off (x::y::l)=if off+(x::y::l).length≤cs.length then some (cs.take off++(x::y::l)++cs.drop (off+(x::y::l).length)) else none:=rfl
def QeM (H:Heap) (sz:Nat) (x:AV) (lo hi:Option AV):Option AV :=
 match x with
 | .c (.slice cells len nl cap)=>(Qcp len hi).bind fun h=>(Qcp 0 lo).bind fun l =>
  if l≤h∧h≤len∧cells.length=len * sz then some (.c (.slice ((cells.drop (l * sz)).take ((h-l) * sz)) (h-l) nl (cap.map (· - l)))) else none
 | .hsl id off len ext sz'=>match lo,hi with
  | none,some (.cw true id2 off2 ext2 sz2)=>if id2=id∧off2=off∧ext2=ext∧sz2=sz'∧sz'=sz∧0<sz∧(rowOf H id ext).isSome=true then some (.cw false id off ext sz') else none
  | _,_=>(Qcp len hi).bind fun h=>(Qcp 0 lo).bind fun l =>
   if l≤h∧off+h * sz≤ext∧h≤len∧sz'=sz∧(rowOf H id ext).isSome=true then
    some (if l=h∧l≠0 then .c (.slice [] 0 false none) else .hsl id (off+l * sz) (h-l) ext sz)
   else none
 | _=>none
theorem Qtd {H:Heap} {sz id off len ext:Nat} (hs:0<sz) (hr:(rowOf H id ext).isSome=true):QeM H sz (.hsl id off len ext sz) none (some (.cw true id off ext sz))=some (.cw false id off ext sz):=by
 show (if _ then _ else _)=_
 rw[if_pos ⟨rfl,rfl,rfl,rfl,rfl,hs,hr⟩]
def apO (e:TypeId) (sz by_:Nat) (sl:Option Nat) (s:AV) (H:Heap) (x:Option (List IV × Nat)):Option (AV × Heap) :=
 x.bind fun r =>
  match s with
  | .c (.slice cells len nl cap) =>
   if r.2=0 then some (.c (.slice cells len nl cap),H) else
   match cap with
   | some c=>if c<len+r.2∧(len+r.2) * by_≤roomBytes∧cells.length=len * sz then
     match QbV H sl with
     | some s=>some (.hsl s 0 (len+r.2) ((len+r.2) * sz) sz,H.set s (.row false e (cells++r.1)))
     | none=>some (.hsl H.length 0 (len+r.2) ((len+r.2) * sz) sz,H++[.row false e (cells++r.1)])
    else none
   | none=>none
  | .hsl id off len ext sz'=>(rowOf H id ext).bind fun q =>
   if r.2=0 then some (.hsl id off len ext sz',H) else
   if off=0∧sz'=sz∧len * sz≤ext∧(len+r.2) * by_≤roomBytes∧q.1=e∧Qcd H id=true then
    if (len+r.2) * sz≤ext then some (.hsl id 0 (len+r.2) ext sz,H.set id (.row false e (q.2.take (len * sz)++r.1++q.2.drop ((len+r.2) * sz))))
    else some (.hsl id 0 (len+r.2) ((len+r.2) * sz) sz,H.set id (.row false e (q.2.take (len * sz)++r.1)))
   else none
  | _=>none
theorem QDQ {e:TypeId} {sz by_ m:Nat} {nl:Bool} {H:Heap} {cs:List IV} (h:0<m) (hb:m * by_≤roomBytes) :
  apO e sz by_ none (.c (.slice [] 0 nl (some 0))) H (some (cs,m))=some (.hsl H.length 0 m (m * sz) sz,H++[.row false e cs]):=by
 simp only[apO,Option.bind_some,QbV]
 rw[if_neg (by omega),if_pos ⟨by omega,by simpa using hb,by simp⟩]
 simp
theorem Qma {e:TypeId} {sz by_ m len id:Nat} {sl:Option Nat} {H:Heap} {cells cs:List IV} (h:0<m) (hb:(len+m) * by_≤roomBytes) (hs:0<sz) (hr:H[id]?=some (.row false e cells)) (hl:cells.length=len * sz) :
  apO e sz by_ sl (.hsl id 0 len (len * sz) sz) H (some (cs,m))=some (.hsl id 0 (len+m) ((len+m) * sz) sz,H.set id (.row false e (cells++cs))):=by
 have h1:rowOf H id (len * sz)=some (e,cells):=by unfold rowOf;rw [hr];simp [hl]
 have h2:Qcd H id=true:=by unfold Qcd;rw [hr]
 have h3:¬ (len+m) * sz≤len * sz:=by
  have:=(Nat.mul_lt_mul_right hs).2 (show len<len+m by omega)
  omega
 simp only[apO,Option.bind_some,h1]
 rw[if_neg (by omega)]
 simp only[h2,hb,h3,true_and,and_true,Nat.le_refl,if_true,if_false]
 rw[← hl,List.take_length]
theorem QBr {e:TypeId} {sz by_:Nat} {sl:Option Nat} {cells:List IV} {len:Nat} {nl:Bool} {cap:Option Nat} {H:Heap} {cs:List IV} :
  apO e sz by_ sl (.c (.slice cells len nl cap)) H (some (cs,0))=some (.c (.slice cells len nl cap),H):=by simp [apO]
def rowO (o:Option AObj) (ext:Nat):Option (TypeId × List IV) :=
 match o with
 | some (.row _ t cs)=>if cs.length=ext then some (t,cs) else none
 | _=>none
theorem QoC {H:Heap} {id ext:Nat}:rowOf H id ext=rowO H[id]? ext:=rfl
theorem Qui {fz:Bool} {t:TypeId} {cs:List IV} {ext:Nat}:rowO (some (.row fz t cs)) ext=if cs.length=ext then some (t,cs) else none:=rfl
theorem Qrf {H:Heap} {id ext:Nat} {fz:Bool} {t:TypeId} {cells:List IV} (hr:H[id]?=some (.row fz t cells)) (hl:cells.length=ext):rowOf H id ext=some (t,cells):=by
 unfold rowOf;rw [hr];simp [hl]
def finV (H:Heap) (x:Option (List AV)):Option (AV × Heap) :=
 match x with
 | some [v]=>some (v,H)
 | some vs=>some (.tup vs,H)
 | none=>none
theorem Q3t {H:Heap} {v:AV}:finV H (some [v])=some (v,H):=rfl
theorem Q34 {H:Heap}:finV H (some [])=some (.tup [],H):=rfl
theorem QuV {H:Heap} {v v2:AV} {vs:List AV}:finV H (some (v::v2::vs))=some (.tup (v::v2::vs),H):=rfl
noncomputable def Qas (P:Program) (rs:List ResultVar) (x:Option Out):Option (AV × Heap) :=
 match x with
 | some (.norm F H)=>finV H (Qcu P F H rs)
 | some (.ret F H)=>finV H (Qcu P F H rs)
 | _=>none
theorem Qjv {rs:List ResultVar} {F:Fr} {H:Heap}:Qas P rs (some (.norm F H))=finV H (Qcu P F H rs):=rfl
theorem QlW {rs:List ResultVar} {F:Fr} {H:Heap}:Qas P rs (some (.ret F H))=finV H (Qcu P F H rs):=rfl
def QHj (x:Option AV) (y:Option (List AV)):Option (List AV):=x.bind fun v=>y.map fun vs=>v::vs
theorem Qoq {v:AV} {vs:List AV}:QHj (some v) (some vs)=some (v::vs):=rfl
theorem QiJ {F:Fr} {H:Heap}:Qcu P F H []=some []:=rfl
theorem Qh2 {F:Fr} {H:Heap} {r:ResultVar} {rs:List ResultVar}:Qcu P F H (r::rs)=QHj (QhK P F H r) (Qcu P F H rs):=rfl
theorem Qln {n t:Nat} {l:Ass} {H:Heap} (h:t<n):QhK P (fr n l) H (.tmp t)=some (asc l t):=by rw [QhK,QgQ h]
theorem Qjp {n a:Nat} {t:TypeId} {l:Ass} {H:Heap} (h:a<n):QhK P (fr n l) H (.cell a t)=QaK P H t (asc l a):=by rw [QhK,QgQ h]
noncomputable def cxG (P:Program) (h:Hints) (k:Nat) (f:FuncId) (ar:Option Nat):Cx:=⟨h,f,k,fun g=>Qav P h k (.fn g),fun i=>Qav P h k (.round i),ar⟩
theorem Qto {h:Hints} {k:Nat} {ar:Option Nat} {f:FuncId}:(cxG P h k f ar).hints=h:=rfl
theorem QBC {h:Hints} {k:Nat} {ar:Option Nat} {f:FuncId}:(cxG P h k f ar).fn=f:=rfl
theorem QxM {h:Hints} {k:Nat} {ar:Option Nat} {f id:Nat} {args:List AV} {H:Heap}:(cxG P h k f ar).round id args H=Qav P h k (.round id) args H:=rfl
theorem Q49 {h:Hints} {k:Nat} {ar:Option Nat} {f g:FuncId} {args:List AV} {H:Heap}:(cxG P h k f ar).call g args H=Qav P h k (.fn g) args H:=rfl
noncomputable def QaE (m:Nat) (x:Option (AV × Heap)):Option (AV × Heap):=x.map (trimV m)
theorem QhC {m:Nat} {v:AV} {H:Heap}:QaE m (some (v,H))=some (trimV m (v,H)):=rfl
theorem Qap (n:Nat) {h:Hints} {k f:Nat} {fn:Func} {c:Code} {args:List AV} {H:Heap} (hf:P.funcs[f]?=some fn) (hb:fn.body=some c) (hn:(fn.name == "runtime.NumGoroutine")=false) (hN:args.length+(fn.ntmps-args.length)=n) (hs:h.special f=false:=by rfl) :
  Qav P h (k+1) (.fn f) args H=QaE H.length (Qas P fn.results.toList (Qad P (cxG P h k f none) c (Qao (fr n []) 0 args) (H++List.replicate (h.slots f) .slot))):=by
 subst hN
 rw[Qav,if_neg (by rw [hs];simp),hf]
 simp only[hb,hn,if_true]
 rw[Qyf,Q7H]
 have:∀ (F':Fr) (H':Heap),((QdQ P fn F' H').map fun v=>(v,H'))=finV H' (Qcu P F' H' fn.results.toList):=by
  intro F' H'
  rw[QdQ]
  rcases Qcu P F' H' fn.results.toList with _ | vs
  ·rfl
  ·rcases vs with _ | ⟨v,_ | ⟨v2,vs⟩⟩<;>rfl
 unfold Qas QaE
 simp only[cxG]
 cases Qad P ⟨h,f,k,fun g=>Qav P h k (.fn g),fun i=>Qav P h k (.round i),none⟩ c (Qao (fr (args.length+(fn.ntmps-args.length)) []) 0 args) (H++List.replicate (h.slots f) .slot) with
 | none=>rfl
 | some o=>cases o<;>simp [this]
def ans (x:Option (AV × Heap)):Option AV:=x.bind fun r=>(frzR r.2 r.1).map fun s=>s.1
theorem QFr {x:IV} {H:Heap}:ans (some (.c x,H))=some (.c x):=rfl
theorem Q7c {f:FuncId} {a b:List AV} {H:Heap}:ans (some (.clo f a b,H))=none:=rfl
theorem Q0h {H:Heap}:ans (some (.tup [],H))=some (.tup []):=rfl
theorem Q2t {m:Nat} {H:Heap} {x:AV} (hx:x.under0 m=true):frz (H.take m) x=(frz H x).map fun r=>(r.1,r.2.take m):=by
 cases x with
 | c y=>rfl
 | hsl id off len ext sz =>
  have hlt:id<m:=of_decide_eq_true hx
  have hr:rowOf (H.take m) id ext=rowOf H id ext:=by unfold rowOf;rw [List.getElem?_take_of_lt hlt]
  show ((rowOf (H.take m) id ext).bind _)=((rowOf H id ext).bind _).map _
  rw[hr]
  cases rowOf H id ext with
  | none=>rfl
  | some r =>
   simp only[Option.bind_some]
   split
   ·simp only[Option.map_some,List.take_set]
   ·rfl
 | _=>rfl
theorem Qtn {m:Nat}:∀ {xs:List AV} {H:Heap},(xs.all (AV.under0 m))=true→frzs (H.take m) xs=(frzs H xs).map fun r=>(r.1,r.2.take m)
 | [],_,_=>rfl
 | x::xs,H,hx=>by
  rw[List.all_cons,Bool.and_eq_true] at hx
  simp only[frzs]
  rw[Q2t hx.1]
  cases frz H x with
  | none=>rfl
  | some r =>
   simp only[Option.map_some,Option.bind_some]
   rw[Qtn hx.2]
   cases frzs r.2 xs<;>rfl
theorem Qs0 {m:Nat} {H:Heap} {x:AV} (hx:x.under m=true):frzV (H.take m) x=(frzV H x).map fun r=>(r.1,r.2.take m):=by
 have one:∀ y:AV,y.under0 m=true→((frz (H.take m) y).map fun r=>(AV.c r.1,r.2))=((frz H y).map fun r=>(AV.c r.1,r.2)).map fun r=>(r.1,r.2.take m):=by
  intro y hy
  rw[Q2t hy]
  cases frz H y<;>rfl
 cases x with
 | agg cs =>
  show (frzs (H.take m) cs).map _=((frzs H cs).map _).map _
  rw[Qtn hx]
  cases frzs H cs<;>rfl
 | c y=>exact one (.c y) rfl
 | hsl id off len ext sz=>exact one (.hsl id off len ext sz) hx
 | cw=>rfl
 | unk=>rfl
 | tup vs=>rfl
 | ptr=>rfl
 | eptr=>rfl
 | hmap=>rfl
 | yld=>rfl
 | clo=>rfl
theorem Qk2 {m:Nat}:∀ {xs:List AV} {H:Heap},(xs.all (AV.under m))=true→Qbi (H.take m) xs=(Qbi H xs).map fun r=>(r.1,r.2.take m)
 | [],_,_=>rfl
 | x::xs,H,hx=>by
  rw[List.all_cons,Bool.and_eq_true] at hx
  simp only[Qbi]
  rw[Qs0 hx.1]
  cases frzV H x with
  | none=>rfl
  | some r =>
   simp only[Option.map_some,Option.bind_some]
   rw[Qk2 hx.2]
   cases Qbi r.2 xs<;>rfl
theorem Qaq {m:Nat} {x:Option (AV × Heap)}:ans (QaE m x)=ans x:=by
 rcases x with _ | ⟨v,H⟩
 ·rfl
 ·rw[QhC]
  unfold trimV
  split
  ·rename_i h
   have hv:=h.1
   show ((frzR (H.take m) v).map fun s=>s.1)=(frzR H v).map fun s=>s.1
   cases v with
   | tup vs =>
    show ((Qbi (H.take m) vs).map fun r=>(AV.tup r.1,r.2)).map _=((Qbi H vs).map fun r=>(AV.tup r.1,r.2)).map _
    rw[Qk2 hv]
    cases Qbi H vs<;>rfl
   | _ =>
    simp only[frzR]
    rw[Qs0 (by simpa only [AV.underV] using hv),Option.map_map]
    rfl
  ·rfl
theorem Q8w {id off len ext sz:Nat} {H:Heap}:ans (some (.hsl id off len ext sz,H))=(rowOf H id ext).bind fun r=>if off+len * sz≤ext then some (.c (.slice ((r.2.drop off).take (len * sz)) len false none)) else none:=by
 unfold ans frzR frzV frz
 simp only[Option.bind_some]
 cases rowOf H id ext with
 | none=>rfl
 | some q=>simp only [Option.bind_some];split<;>rfl
def ansO (a:Option AV) (x:Option (AV × Heap)) (H:Heap):Option (AV × Heap) :=
 match a with
 | some v=>some (v,H)
 | none=>x
theorem Qs8 {x:Option (AV × Heap)} {H:Heap}:ansO none x H=x:=rfl
theorem Qwn {v:AV} {x:Option (AV × Heap)} {H:Heap}:ansO (some v) x H=some (v,H):=rfl
theorem Q4Z {r i:Nat} {g:FuncId} {args:List AV} {H:Heap} (hfr:cx.hints.framed g=false) (hr:cx.hints.raw cx.fn r i=false) (hk:cx.hints.keep cx.fn r i=false) (ha:args.all AV.pure=true) :
  QbP cx r i g args H=ansO (ans (cx.call g args [])) (cx.call g args H) H:=by
 unfold QbP QdV
 rw[if_neg (by rw [hfr];simp),if_neg (by rw [hr];simp),if_neg (by rw [hk];simp),if_pos ha]
 unfold ans ansO
 rcases cx.call g args [] with _ | ⟨v,H'⟩
 ·rfl
 ·simp only[Option.bind_some]
  cases frzR H' v<;>rfl
theorem Qol {H:Heap}:Qbi H []=some ([],H):=rfl
def frz2 (x:Option (AV × Heap)) (f:Heap→Option (List AV × Heap)):Option (List AV × Heap):=x.bind fun r=>(f r.2).bind fun s=>some (r.1::s.1,s.2)
theorem Qtj {v:AV} {H:Heap} {f:Heap→Option (List AV × Heap)}:frz2 (some (v,H)) f=(f H).bind fun s=>some (v::s.1,s.2):=rfl
theorem Qlo {H:Heap} {x:AV} {xs:List AV}:Qbi H (x::xs)=frz2 (frzV H x) (fun H=>Qbi H xs):=rfl
theorem Q2U {H:Heap} {x:IV}:frzV H (.c x)=some (.c x,H):=rfl
theorem QjC {H:Heap} {id off len ext sz:Nat}:frzV H (.hsl id off len ext sz)=(frz H (.hsl id off len ext sz)).map fun r=>(.c r.1,r.2):=rfl
theorem QjJ {H:Heap} {cs:List AV}:frzV H (.agg cs)=(frzs H cs).map fun r=>(.agg (r.1.map .c),r.2):=rfl
theorem Q3V {H:Heap}:frzs H []=some ([],H):=rfl
theorem Quu {H:Heap} {x:IV} {xs:List AV}:frzs H (.c x::xs)=(frzs H xs).bind fun s=>some (x::s.1,s.2):=rfl
theorem Q3Q {H:Heap} {id off len ext sz:Nat} {xs:List AV}:frzs H (.hsl id off len ext sz::xs)=(frz H (.hsl id off len ext sz)).bind fun r=>(frzs r.2 xs).bind fun s=>some (r.1::s.1,s.2):=rfl
theorem QhW {H:Heap} {id off len ext sz:Nat}:frz H (.hsl id off len ext sz)=(rowOf H id ext).bind fun r=>if off+len * sz≤ext then some (.slice ((r.2.drop off).take (len * sz)) len false none,H.set id (.row true r.1 r.2)) else none:=rfl
def IV.strict:IV→Bool
 | .slice _ _ _ _=>false
 | .iptr _ _=>false
 | _=>true
def AV.strict0:AV→Bool
 | .c x=>x.strict
 | _=>false
def AV.strict1:AV→Bool
 | .c x=>x.strict
 | .agg cs=>cs.all AV.strict0
 | _=>false
def AV.strict:AV→Bool
 | .tup vs=>vs.all AV.strict1
 | x=>x.strict1
theorem Qdw {x:IV}:(AV.c x).strict=x.strict:=rfl
theorem Qcv {cs:List AV}:(AV.agg cs).strict=cs.all AV.strict0:=rfl
theorem Qpp {vs:List AV}:(AV.tup vs).strict=vs.all AV.strict1:=rfl
theorem Qu8 {x:IV}:(AV.c x).strict1=x.strict:=rfl
theorem QlV {cs:List AV}:(AV.agg cs).strict1=cs.all AV.strict0:=rfl
theorem QcI {x:IV}:(AV.c x).strict0=x.strict:=rfl
theorem Qpu {k:IntKind} {n:Int}:(IV.int k n).strict=true:=rfl
theorem Qcg {b:Bool}:(IV.bool b).strict=true:=rfl
theorem QnY {b:ByteArray}:(IV.str b).strict=true:=rfl
theorem Qpy {H:Heap} {x:AV} {r:IV × Heap} (h:frz H x=some r) (hs:r.1.strict=true):x=.c r.1∧r.2=H∧r.1.scalar=true:=by
 cases x with
 | c y =>
  simp only[frz,Option.some.injEq] at h
  subst h
  refine⟨rfl,rfl, ?_⟩
  cases y<;>first | rfl | cases hs
 | hsl id off len ext sz =>
  rw[QhW] at h
  obtain⟨q,_,h⟩:=Option.bind_eq_some_iff.1 h
  split at h
  ·injection h with h;subst h;cases hs
  ·cases h
 | _=>cases h
theorem Qm8:∀ {H:Heap} {cs:List AV} {r:List IV × Heap},frzs H cs=some r→(r.1.all IV.strict)=true→cs=r.1.map .c∧r.2=H∧cs.all AV.scalar0=true
 | H,[],r,h,_=>by simp only [frzs,Option.some.injEq] at h;subst h;exact ⟨rfl,rfl,rfl⟩
 | H,x::xs,r,h,hs=>by
  rw[frzs] at h
  obtain⟨q,h1,h⟩:=Option.bind_eq_some_iff.1 h
  obtain⟨s,h2,h⟩:=Option.bind_eq_some_iff.1 h
  injection h with h
  subst h
  rw[List.all_cons,Bool.and_eq_true] at hs
  obtain⟨e1,e2,e3⟩:=Qpy h1 hs.1
  obtain⟨e4,e5,e6⟩:=Qm8 h2 hs.2
  subst e1
  refine⟨by rw [e4];rfl,by rw [e5,e2], ?_⟩
  rw[List.all_cons,e6,Bool.and_true]
  exact e3
theorem Qm7 {H:Heap} {x:AV} {r:AV × Heap} (h:frzV H x=some r) (hs:r.1.strict1=true):x=r.1∧r.2=H∧x.scalar1=true:=by
 have one:∀ {y:AV} {s:AV × Heap},((frz H y).map fun r=>(AV.c r.1,r.2))=some s→s.1.strict1=true→y=s.1∧s.2=H∧y.scalar1=true:=by
  intro y s h hs
  obtain⟨q,h1,rfl⟩:=Option.map_eq_some_iff.1 h
  obtain⟨e1,e2,e3⟩:=Qpy h1 hs
  subst e1
  exact⟨rfl,e2,e3⟩
 cases x with
 | agg cs =>
  obtain⟨q,h1,rfl⟩:=Option.map_eq_some_iff.1 h
  have:q.1.all IV.strict=true:=by
   have h2:(q.1.map AV.c).all AV.strict0=true:=hs
   rw[List.all_map] at h2
   exact h2
  obtain⟨e1,e2,e3⟩:=Qm8 h1 this
  subst e1
  exact⟨rfl,e2,e3⟩
 | c y=>exact one h hs
 | hsl id off len ext sz=>exact one h hs
 | _=>cases h
theorem QgX:∀ {H:Heap} {xs:List AV} {r:List AV × Heap},Qbi H xs=some r→r.1.all AV.strict1=true→xs=r.1∧r.2=H∧xs.all AV.scalar1=true
 | H,[],r,h,_=>by simp only [Qbi,Option.some.injEq] at h;subst h;exact ⟨rfl,rfl,rfl⟩
 | H,x::xs,r,h,hs=>by
  rw[Qbi] at h
  obtain⟨q,h1,h⟩:=Option.bind_eq_some_iff.1 h
  obtain⟨s,h2,h⟩:=Option.bind_eq_some_iff.1 h
  injection h with h
  subst h
  rw[List.all_cons,Bool.and_eq_true] at hs
  obtain⟨e1,e2,e3⟩:=Qm7 h1 hs.1
  obtain⟨e4,e5,e6⟩:=QgX h2 hs.2
  subst e1
  refine⟨by rw [e4],by rw [e5,e2], ?_⟩
  rw[List.all_cons,e6,Bool.and_true]
  exact e3
theorem QnJ {x:Option (AV × Heap)} {v:AV} (h:ans x=some v) (hs:v.strict=true):∃ H,x=some (v,H)∧v.scalar=true:=by
 obtain⟨⟨u,H⟩,rfl,h⟩:=Option.bind_eq_some_iff.1 h
 obtain⟨s,h1,rfl⟩:=Option.map_eq_some_iff.1 h
 have two:∀ (y:AV),frzV H y=some s→(∀ vs,y≠.tup vs)→s.1.strict=true→y=s.1∧y.scalar=true:=by
  intro y hy hne hs
  have hs1:s.1.strict1=true:=by
   cases y with
   | agg cs =>
    rw[QjJ] at hy
    obtain⟨q,_,rfl⟩:=Option.map_eq_some_iff.1 hy
    exact hs
   | c z =>
    rw[Q2U] at hy
    injection hy with hy
    subst hy
    exact hs
   | hsl id off len ext sz =>
    rw[QjC] at hy
    obtain⟨q,_,rfl⟩:=Option.map_eq_some_iff.1 hy
    exact hs
   | _=>cases hy
  obtain⟨e1,e2,e3⟩:=Qm7 hy hs1
  refine⟨e1, ?_⟩
  cases y with
  | tup vs=>exact absurd rfl (hne vs)
  | _=>exact e3
 by_cases hu:∃ vs,u=.tup vs
 ·obtain⟨vs,rfl⟩:=hu
  obtain⟨q,h2,rfl⟩:=Option.map_eq_some_iff.1 (show (Qbi H vs).map (fun r=>(AV.tup r.1,r.2))=some s from h1)
  obtain⟨e1,e2,e3⟩:=QgX h2 hs
  subst e1
  exact⟨H,rfl,e3⟩
 ·have h2:frzV H u=some s:=by
   have h1':frzR H u=some s:=h1
   cases u with
   | tup vs=>exact absurd ⟨vs,rfl⟩ hu
   | _=>exact h1'
  obtain⟨e1,e2⟩:=two u h2 (fun vs h=>hu ⟨vs,h⟩) hs
  exact⟨H,by rw [e1],e1 ▸ e2⟩
def Qih (cx:Cx) (r i:Nat) (g:FuncId) (args:List AV) (H:Heap):Option (AV × Heap):=QbP cx r i g args H
def frzD (a:Option AV) (H:Heap) (x:Option (AV × Heap)):Option (AV × Heap) :=
 match a with
 | some v=>if v.strict=true then some (v,H) else x
 | none=>x
theorem Qkd {v:AV} {H:Heap} {x:Option (AV × Heap)}:frzD (some v) H x=if v.strict=true then some (v,H) else x:=rfl
def frzC (call:List AV→Option (AV × Heap)) (raw:Option (AV × Heap)) (a:Option (List AV × Heap)) (H:Heap) (x:Option (AV × Heap)):Option (AV × Heap) :=
 match a with
 | some a=>frzD (ans (call a.1)) H x
 | none=>raw
theorem QlC {call:List AV→Option (AV × Heap)} {raw:Option (AV × Heap)} {H:Heap} {x:Option (AV × Heap)}:frzC call raw none H x=raw:=rfl
theorem QuB {call:List AV→Option (AV × Heap)} {raw:Option (AV × Heap)} {as:List AV} {H H1:Heap} {x:Option (AV × Heap)}:frzC call raw (some (as,H1)) H x=frzD (ans (call as)) H x:=rfl
theorem Qzq {r i:Nat} {g:FuncId} {args:List AV} {H:Heap} (hfr:cx.hints.framed g=false) (hr:cx.hints.raw cx.fn r i=false) (hk:cx.hints.keep cx.fn r i=false) (ha:args.all AV.pure=false) :
  QbP cx r i g args H=frzC (fun as=>cx.call g as []) (cx.call g args H) (Qbi H args) H (Qih cx r i g args H):=by
 cases hz:Qbi H args with
 | none =>
  rw[QlC]
  unfold QbP QdV
  rw[if_neg (by rw [hfr];simp),if_neg (by rw [hr];simp),if_neg (by rw [hk];simp),if_neg (by rw [ha];simp),hz]
  rfl
 | some a =>
  show _=frzD (ans (cx.call g a.1 [])) H _
  cases hv:ans (cx.call g a.1 []) with
  | none=>rfl
  | some v =>
   rw[Qkd]
   split
   ·rename_i hs
    obtain⟨H',e,hsc⟩:=QnJ hv hs
    exact Q5g hfr hr hk ha hz e hsc
   ·rfl
theorem QCS {x:IV}:(AV.c x).pure=true:=rfl
theorem Q3g {cs:List AV}:(AV.agg cs).pure=cs.all AV.pure0:=rfl
theorem Q7A {x:IV}:(AV.c x).pure0=true:=rfl
def QmL (r:Nat):Code→Option (Array Oper)
 | .region id ops _=>if id=r then some ops else none
 | .seq a b=>(QmL r a).or (QmL r b)
 | .cond _ a b=>(QmL r a).or (QmL r b)
 | .block _ b=>QmL r b
 | .loop b=>QmL r b
 | .scope b=>QmL r b
 | .rangeFunc _ _ a b=>(QmL r a).or (QmL r b)
 | _=>none
def opsOf (fn:Func) (r:Nat):Array Oper:=match fn.body with
 | some c=>(QmL r c).getD #[]
 | none=>#[]
def Qaw (fn:Func) (r:Nat) (ms:List Nat):Bool:=QrC (opsOf fn r)&&decide (QuF (opsOf fn r).toList []=ms)
noncomputable def Qzl (P:Program) (ms:List Nat) (F:Fr) (H:Heap) (x:Option (List Rec)):Option (Fr × Heap) :=
 match x with
 | some rs=>if Qds ms rs 0 [] false=true∧Qb6 P ms H rs rs 0=true then some (QkY rs F,QhE rs H) else none
 | none=>none
theorem Qil {ms:List Nat} {F:Fr} {H:Heap} {rs:List Rec}:Qzl P ms F H (some rs)=if Qds ms rs 0 [] false=true∧Qb6 P ms H rs rs 0=true then some (QkY rs F,QhE rs H) else none:=rfl
theorem Qaf (fn:Func) (r:Nat) {ms:List Nat} (hd:Qaw fn r ms=true) {ops:Array Oper} {F:Fr} {H:Heap} (ho:opsOf fn r=ops) :
  Qad P cx (.region r ops true) F H=regO (Qzl P ms F H (Qca P cx r ops ops.toList 0 F H)):=by
 subst ho
 unfold Qaw at hd
 rw[Bool.and_eq_true,decide_eq_true_eq] at hd
 simp only[Qad,if_true,Qhq,hd.1]
 rw[hd.2]
 unfold Qzl
 rcases Qca P cx r (opsOf fn r) (opsOf fn r).toList 0 F H with _ | rs
 ·rfl
 ·simp only[Option.bind_some]
  split<;>rfl
noncomputable def QeS (P:Program) (cx:Cx) (r i:Nat) (ρ:Operand→AV) (o:Oper):Option AV :=
 match Qb2 P ρ o with
 | some v=>some v
 | none=>QdO cx r i ρ o
noncomputable def QBf (P:Program) (cx:Cx) (r:Nat) (ops:Array Oper) (o:Oper) (os:List Oper) (i:Nat) (F:Fr) (H:Heap) (x:Option (AV × Heap)):Option (List Rec) :=
 match x with
 | some s=>(Qca P cx r ops os (i+1) (setD F o.dst s.1) s.2).map (⟨o,s.1,true,true,false,F,H,s.2⟩ :: ·)
 | none=>none
noncomputable def Q6I (P:Program) (cx:Cx) (r:Nat) (ops:Array Oper) (o:Oper) (os:List Oper) (i:Nat) (F:Fr) (H:Heap) (x:Option AV) (y:Option (AV × Heap)):Option (List Rec) :=
 match x with
 | some v=>(Qca P cx r ops os (i+1) (setD F o.dst v) H).map (⟨o,v,false,true,true,F,H,H⟩ :: ·)
 | none=>QBf P cx r ops o os i F H y
noncomputable def Q6f (P:Program) (cx:Cx) (r:Nat) (ops:Array Oper) (o:Oper) (os:List Oper) (i:Nat) (F:Fr) (H:Heap) (x y:Option AV) (z:Option (AV × Heap)):Option (List Rec) :=
 match x with
 | some v=>(Qca P cx r ops os (i+1) (setD F o.dst v) H).map (⟨o,v,false,true,false,F,H,H⟩ :: ·)
 | none=>Q6I P cx r ops o os i F H y z
noncomputable def QEa (P:Program) (cx:Cx) (r:Nat) (ops:Array Oper) (o:Oper) (os:List Oper) (i:Nat) (F:Fr) (H:Heap):Option (List Rec) :=
 (Qca P cx r ops os (i+1) (setD F o.dst (.tup [])) H).map (⟨o,.tup [],false,false,false,F,H,H⟩ :: ·)
noncomputable def Q90 (v:AV) (want:Bool) (x y:Option (List Rec)):Option (List Rec) :=
 match v with
 | .c (.bool b)=>if b=want then x else y
 | .tup []=>y
 | _=>none
section
variable {r:Nat} {ops:Array Oper} {i:Nat} {F:Fr} {H:Heap} {dst:Option Tmp} {op:Op} {type:TypeId} {pos:String} {after:Array Edge} {os:List Oper} {guard:Option (Nat × Bool)}
theorem Qpe {v:AV} {H':Heap}:QBf P cx r ops ⟨dst,op,type,pos,after,guard⟩ os i F H (some (v,H'))=(Qca P cx r ops os (i+1) (setD F dst v) H').map (⟨⟨dst,op,type,pos,after,guard⟩,v,true,true,false,F,H,H'⟩ :: ·):=rfl
theorem QnS {v:AV} {y:Option (AV × Heap)}:Q6I P cx r ops ⟨dst,op,type,pos,after,guard⟩ os i F H (some v) y=(Qca P cx r ops os (i+1) (setD F dst v) H).map (⟨⟨dst,op,type,pos,after,guard⟩,v,false,true,true,F,H,H⟩ :: ·):=rfl
theorem QoF {y:Option (AV × Heap)}:Q6I P cx r ops ⟨dst,op,type,pos,after,guard⟩ os i F H none y=QBf P cx r ops ⟨dst,op,type,pos,after,guard⟩ os i F H y:=rfl
theorem Qo5 {v:AV} {y:Option AV} {z:Option (AV × Heap)}:Q6f P cx r ops ⟨dst,op,type,pos,after,guard⟩ os i F H (some v) y z=(Qca P cx r ops os (i+1) (setD F dst v) H).map (⟨⟨dst,op,type,pos,after,guard⟩,v,false,true,false,F,H,H⟩ :: ·):=rfl
theorem QpH {y:Option AV} {z:Option (AV × Heap)}:Q6f P cx r ops ⟨dst,op,type,pos,after,guard⟩ os i F H none y z=Q6I P cx r ops ⟨dst,op,type,pos,after,guard⟩ os i F H y z:=rfl
theorem Q4r:QEa P cx r ops ⟨dst,op,type,pos,after,guard⟩ os i F H=(Qca P cx r ops os (i+1) (setD F dst (.tup [])) H).map (⟨⟨dst,op,type,pos,after,guard⟩,.tup [],false,false,false,F,H,H⟩ :: ·):=rfl
theorem Qoy {b:Bool} {x y:Option (List Rec)}:Q90 (.c (.bool b)) true x y=if b=true then x else y:=rfl
theorem Qkj {b:Bool} {x y:Option (List Rec)}:Q90 (.c (.bool b)) false x y=if b=true then y else x:=by cases b<;>rfl
theorem QvR {want:Bool} {x y:Option (List Rec)}:Q90 (.tup []) want x y=y:=rfl
theorem Qqy:Qca P cx r ops [] i F H=some []:=rfl
theorem QGL (o:Oper):(match Qa0 P (Qa2 F) H o with
   | some v=>(Qca P cx r ops os (i+1) (setD F o.dst v) H).map (⟨o,v,false,true,false,F,H,H⟩ :: ·)
   | none=>match (match Qb2 P (Qa2 F) o with | some v=>some v | none=>QdO cx r i (Qa2 F) o) with
    | some v=>(Qca P cx r ops os (i+1) (setD F o.dst v) H).map (⟨o,v,false,true,true,F,H,H⟩ :: ·)
    | none=>match QcU P cx r i F H o with
     | some s=>(Qca P cx r ops os (i+1) (setD F o.dst s.1) s.2).map (⟨o,s.1,true,true,false,F,H,s.2⟩ :: ·)
     | none=>none)=Q6f P cx r ops o os i F H (Qa0 P (Qa2 F) H o) (QeS P cx r i (Qa2 F) o) (QaH P cx r i F H o):=by
 unfold Q6f
 cases Qa0 P (Qa2 F) H o with
 | some v=>rfl
 | none =>
  unfold Q6I QeS QBf QcU
  simp only
  cases Qb2 P (Qa2 F) o with
  | some v=>rfl
  | none=>cases QdO cx r i (Qa2 F) o<;>rfl
theorem QkC:Qca P cx r ops (⟨dst,op,type,pos,after,none⟩ :: os) i F H =
  Q6f P cx r ops ⟨dst,op,type,pos,after,none⟩ os i F H (Qa0 P (Qa2 F) H ⟨dst,op,type,pos,after,none⟩) (QeS P cx r i (Qa2 F) ⟨dst,op,type,pos,after,none⟩) (QaH P cx r i F H ⟨dst,op,type,pos,after,none⟩):=by
 rw[← QGL,Qca]
 rfl
theorem Qiy {j:Nat} {want:Bool}:Qca P cx r ops (⟨dst,op,type,pos,after,some (j,want)⟩ :: os) i F H =
  Q90 (QwM F ops[j]?) want (Q6f P cx r ops ⟨dst,op,type,pos,after,some (j,want)⟩ os i F H (Qa0 P (Qa2 F) H ⟨dst,op,type,pos,after,some (j,want)⟩) (QeS P cx r i (Qa2 F) ⟨dst,op,type,pos,after,some (j,want)⟩) (QaH P cx r i F H ⟨dst,op,type,pos,after,some (j,want)⟩))
   (QEa P cx r ops ⟨dst,op,type,pos,after,some (j,want)⟩ os i F H):=by
 rw[← QGL,Qca]
 simp only[QbS,Q90,QwM,QEa]
 rcases h:ops[j]? with _ | o
 ·simp
 ·obtain⟨d,op',t',p',a',g'⟩:=o
  cases d with
  | none=>simp
  | some d =>
   simp only[Option.bind_some]
   cases hv:F.get d with
   | c x =>
    cases x with
    | bool b =>
     by_cases e:b=want
     ·subst e
      simp
      rfl
     ·have:(b == want)=false:=by simpa using e
      simp[this,e]
    | _=>simp
   | tup vs=>cases vs<;>simp
   | _=>simp
end
section
variable {ρ:Operand→AV} {H:Heap} {dst:Option Tmp} {type:TypeId} {pos:String} {after:Array Edge} {guard:Option (Nat × Bool)} {r i:Nat}
theorem QwQ {x:Operand}:Qa0 P ρ H ⟨dst,.move x,type,pos,after,guard⟩=some (ρ x):=rfl
theorem Qmc {x:Operand}:Qa0 P ρ H ⟨dst,.assign x,type,pos,after,guard⟩=some (ρ x):=rfl
theorem QsW {c a b:Operand}:Qa0 P ρ H ⟨dst,.pick c a b,type,pos,after,guard⟩=QBw (ρ c) (ρ a) (ρ b):=rfl
theorem QuG {t:TypeId} {x:Operand}:Qa0 P ρ H ⟨dst,.load t x,type,pos,after,guard⟩=QaK P H t (ρ x):=rfl
theorem QgW {x:Operand}:Qa0 P ρ H ⟨dst,.nilCheck x,type,pos,after,guard⟩=QdH (ρ x):=rfl
theorem Qqa {op:BinOp} {t yt:TypeId} {x y:Operand}:Qa0 P ρ H ⟨dst,.binOp op t x y yt,type,pos,after,guard⟩=binA P H op t (ρ x) (ρ y):=rfl
theorem Qwq {op:UnOp} {t:TypeId} {x:Operand}:Qa0 P ρ H ⟨dst,.unOp op t x,type,pos,after,guard⟩=unA op (ρ x):=rfl
theorem Qio {s d:TypeId} {x:Operand}:Qa0 P ρ H ⟨dst,.convert s d x,type,pos,after,guard⟩=Qke P s d (ρ x):=rfl
theorem QfW {s:TypeId} {x:Operand} {f:Nat}:Qa0 P ρ H ⟨dst,.fieldAddr s x f,type,pos,after,guard⟩=Qa3 P s (ρ x) f:=rfl
theorem Qqr {s:TypeId} {x:Operand} {f:Nat}:Qa0 P ρ H ⟨dst,.field s x f,type,pos,after,guard⟩=QoM P s (ρ x) f:=rfl
theorem Qgo {t:TypeId} {x y:Operand}:Qa0 P ρ H ⟨dst,.indexAddr t x y,type,pos,after,guard⟩=Qa9 P H t (ρ x) (ρ y):=rfl
theorem Qnb {t:TypeId} {x y:Operand}:Qa0 P ρ H ⟨dst,.index t x y,type,pos,after,guard⟩=QpE P t (ρ x) (ρ y):=rfl
theorem Qom {t:TypeId} {x:Operand} {lo hi mx:Option Operand}:Qa0 P ρ H ⟨dst,.slice t x lo hi mx,type,pos,after,guard⟩=Qfo P H t (ρ x) (lo.map ρ) (hi.map ρ) (mx.map ρ):=rfl
theorem Qnk {t:TypeId} {ps:Array (Nat × Operand)}:Qa0 P ρ H ⟨dst,.build t ps,type,pos,after,guard⟩=QbD P t (ps.toList.map fun p=>(p.1,ρ p.2)):=rfl
theorem QiE {t:Operand} {j:Nat}:Qa0 P ρ H ⟨dst,.extract t j,type,pos,after,guard⟩=QjR (ρ t) j:=rfl
theorem Qhg {f:FuncId} {a b:Array Operand}:Qa0 P ρ H ⟨dst,.makeFunc (.func f) a b,type,pos,after,guard⟩=some (if a.size=0∧b.size=0 then .c (.fn f) else .clo f (a.toList.map ρ) (b.toList.map ρ)):=rfl
theorem Q2m {x:Operand} {t:TypeId}:Qa0 P ρ H ⟨dst,.call ⟨.builtin .len,#[x],#[t]⟩,type,pos,after,guard⟩=lenA P t (ρ x):=rfl
theorem Qkh {x y:Operand} {t t2:TypeId}:Qa0 P ρ H ⟨dst,.call ⟨.builtin .append,#[x,y],#[t,t2]⟩,type,pos,after,guard⟩=none:=rfl
theorem Qmt {t:TypeId} {x k:Operand} {ok:Bool}:Qa0 P ρ H ⟨dst,.lookup t x k ok,type,pos,after,guard⟩=QbJ P H t (ρ x) (ρ k) ok:=rfl
theorem Qim {t:TypeId} {x:Option Operand}:Qa0 P ρ H ⟨dst,.makeMap t x,type,pos,after,guard⟩=none:=rfl
theorem Qgk {t:TypeId} {m k x:Operand}:Qa0 P ρ H ⟨dst,.mapUpdate t m k x,type,pos,after,guard⟩=none:=rfl
theorem Q4t {x:Operand} {t:TypeId}:Qa0 P ρ H ⟨dst,.call ⟨.builtin .cap,#[x],#[t]⟩,type,pos,after,guard⟩=capA P H t (ρ x):=rfl
theorem Q1z {x y:Operand} {ts:Array TypeId}:Qa0 P ρ H ⟨dst,.call ⟨.builtin .min,#[x,y],ts⟩,type,pos,after,guard⟩=Qlc Q4Y (ρ x) [ρ y]:=rfl
theorem Qz6 {x y:Operand} {ts:Array TypeId}:Qa0 P ρ H ⟨dst,.call ⟨.builtin .max,#[x,y],ts⟩,type,pos,after,guard⟩=Qlc Q5p (ρ x) [ρ y]:=rfl
theorem Q0o {k k2:IntKind} {a b:Int}:Qlc Q4Y (.c (.int k a)) [.c (.int k2 b)]=some (.c (.int k (if b<a then b else a))):=rfl
theorem Q0j {k k2:IntKind} {a b:Int}:Qlc Q5p (.c (.int k a)) [.c (.int k2 b)]=some (.c (.int k (if b > a then b else a))):=rfl
theorem QgY {t:TypeId} {m k:Operand}:Qa0 P ρ H ⟨dst,.mapEntry t m k,type,pos,after,guard⟩=none:=rfl
theorem Qf3 {t:TypeId} {m s x:Operand}:Qa0 P ρ H ⟨dst,.entryStore t m s x,type,pos,after,guard⟩=none:=rfl
theorem Qws {x y:Operand} {t t2:TypeId}:Qa0 P ρ H ⟨dst,.call ⟨.builtin .copy,#[x,y],#[t,t2]⟩,type,pos,after,guard⟩=none:=rfl
theorem QvN {f:Operand} {args:Array Operand} {ts:Array TypeId}:Qa0 P ρ H ⟨dst,.call ⟨.value f,args,ts⟩,type,pos,after,guard⟩=none:=rfl
theorem Qob {t:TypeId}:Qa0 P ρ H ⟨dst,.alloc t,type,pos,after,guard⟩=none:=rfl
theorem Q0B {t:TypeId} {x:Operand}:Qa0 P ρ H ⟨dst,.box t x,type,pos,after,guard⟩=none:=rfl
theorem Qp8 {t:TypeId} {a x:Operand}:Qa0 P ρ H ⟨dst,.store t a x,type,pos,after,guard⟩=none:=rfl
theorem Qga {t:TypeId} {l c:Operand}:Qa0 P ρ H ⟨dst,.makeSlice t l c,type,pos,after,guard⟩=none:=rfl
theorem QeZ {t:TypeId} {n:Nat} {ps:Array (Nat × Operand)}:Qa0 P ρ H ⟨dst,.buildSlice t n ps,type,pos,after,guard⟩=none:=rfl
theorem Qou {t:TypeId}:QeS P cx r i ρ ⟨dst,.alloc t,type,pos,after,guard⟩=none:=rfl
theorem Q3F {t:TypeId} {x:Operand}:QeS P cx r i ρ ⟨dst,.box t x,type,pos,after,guard⟩=none:=rfl
theorem Qnt {t:TypeId} {a x:Operand}:QeS P cx r i ρ ⟨dst,.store t a x,type,pos,after,guard⟩=none:=rfl
theorem Qgj {t:TypeId} {l c:Operand}:QeS P cx r i ρ ⟨dst,.makeSlice t l c,type,pos,after,guard⟩=none:=rfl
theorem Qmm {x y:Operand} {t t2:TypeId}:QeS P cx r i ρ ⟨dst,.call ⟨.builtin .append,#[x,y],#[t,t2]⟩,type,pos,after,guard⟩=none:=rfl
theorem QiM {t:TypeId} {x:Option Operand}:QeS P cx r i ρ ⟨dst,.makeMap t x,type,pos,after,guard⟩=none:=rfl
theorem Qgi {t:TypeId} {m k x:Operand}:QeS P cx r i ρ ⟨dst,.mapUpdate t m k x,type,pos,after,guard⟩=none:=rfl
theorem Qh5 {t:TypeId} {m k:Operand}:QeS P cx r i ρ ⟨dst,.mapEntry t m k,type,pos,after,guard⟩=none:=rfl
theorem Qff {t:TypeId} {m s x:Operand}:QeS P cx r i ρ ⟨dst,.entryStore t m s x,type,pos,after,guard⟩=none:=rfl
theorem QvT {x y:Operand} {t t2:TypeId}:QeS P cx r i ρ ⟨dst,.call ⟨.builtin .copy,#[x,y],#[t,t2]⟩,type,pos,after,guard⟩=none:=rfl
def Q7i (v:AV):AV:=if v.pure=true then v else .unk
theorem Q7h {x:IV}:Q7i (.c x)=.c x:=rfl
theorem QsA {cs:List AV} (h:cs.all AV.pure0=true):Q7i (.agg cs)=.agg cs:=if_pos h
theorem Qf5 {t:TypeId} {n:Nat} {ps:Array (Nat × Operand)}:QeS P cx r i ρ ⟨dst,.buildSlice t n ps,type,pos,after,guard⟩=ans (QaI P [] t n (ps.toList.map fun p=>(p.1,Q7i (ρ p.2)))):=by
 show (match ans (QaI P [] t n (ps.toList.map fun p=>(p.1,Q7i (ρ p.2)))) with | some v=>some v | none=>none)=_
 cases ans (QaI P [] t n (ps.toList.map fun p=>(p.1,Q7i (ρ p.2))))<;>rfl
noncomputable def Qr5 (cx:Cx) (r i:Nat) (v:AV) (args:List AV):Option AV :=
 match v with
 | .c (.fn g)=>if args.all AV.pure=true∧cx.hints.raw cx.fn r i=false∧cx.hints.keep cx.fn r i=false∧cx.hints.framed g=false then ans (cx.call g args []) else none
 | .clo g first captured=>if (first++args++captured).all AV.pure=true∧cx.hints.raw cx.fn r i=false∧cx.hints.keep cx.fn r i=false∧cx.hints.framed g=false then ans (cx.call g (first++args++captured) []) else none
 | _=>none
theorem QBu {g:FuncId} {args:List AV} (hfr:cx.hints.framed g=false) (ha:args.all AV.pure=true) (hr:cx.hints.raw cx.fn r i=false) (hk:cx.hints.keep cx.fn r i=false):Qr5 cx r i (.c (.fn g)) args=ans (cx.call g args []):=if_pos ⟨ha,hr,hk,hfr⟩
theorem Q5I {g:FuncId} {args:List AV} (hk:cx.hints.keep cx.fn r i=true):Qr5 cx r i (.c (.fn g)) args=none:=if_neg (fun h=>by rw [hk] at h;cases h.2.2.1)
theorem Qsk {f:Operand} {args:Array Operand} {ts:Array TypeId}:QeS P cx r i ρ ⟨dst,.call ⟨.value f,args,ts⟩,type,pos,after,guard⟩=Qr5 cx r i (ρ f) (args.toList.map ρ):=by
 simp only[QeS,Qb2,QdO,QaG,Qr5]
 cases ρ f with
 | c x=>cases x<;>rfl
 | _=>rfl
end
section
variable {q q':Rec} {rs:List Rec} {ms:List Nat}
theorem Qn9 {o:Oper} {v:AV} {run free:Bool} {F:Fr} {G G':Heap} {j:Nat} {es:List Nat} {f:Bool}:Qds ms (⟨o,v,true,run,free,F,G,G'⟩ :: rs) j es f=if (QaD ⟨o,v,true,run,free,F,G,G'⟩).isNone=true then (es.all (fun i=>(ms.getD j 0).testBit i)&&Qds ms rs (j+1) (j::es) true) else (!f&&Qds ms rs (j+1) (j::es) f):=by rw [Qds];rfl
theorem QsO {o:Oper} {v:AV} {run free:Bool} {F:Fr} {G G':Heap} {j:Nat} {es:List Nat} {f:Bool}:Qds ms (⟨o,v,false,run,free,F,G,G'⟩ :: rs) j es f=Qds ms rs (j+1) es f:=by rw [Qds];rfl
theorem Qqj {j:Nat} {es:List Nat} {f:Bool}:Qds ms [] j es f=true:=rfl
theorem Qn3 {m k:Nat}:QdB m [] k=true:=rfl
theorem Qqm {o:Oper} {v:AV} {run free:Bool} {F:Fr} {G G':Heap} {m k:Nat}:QdB m (⟨o,v,true,run,free,F,G,G'⟩ :: rs) k=((!(QaD ⟨o,v,true,run,free,F,G,G'⟩).isNone || !m.testBit k)&&QdB m rs (k+1)):=by rw [QdB];rfl
theorem QwO {o:Oper} {v:AV} {run free:Bool} {F:Fr} {G G':Heap} {m k:Nat}:QdB m (⟨o,v,false,run,free,F,G,G'⟩ :: rs) k=QdB m rs (k+1):=by rw [QdB];rfl
theorem Qlt {j k:Nat}:readAll P ms q j [] k=true:=rfl
theorem QlH {o:Oper} {v:AV} {run free:Bool} {F:Fr} {G G':Heap} {j k:Nat}:readAll P ms q j (⟨o,v,true,run,free,F,G,G'⟩ :: rs) k=((if (QaD ⟨o,v,true,run,free,F,G,G'⟩).isNone=true then (ms.getD k 0).testBit j || !QdB (ms.getD j 0) rs (k+1) || sameAt P q G' else true)&&readAll P ms q j rs (k+1)):=by rw [readAll];rfl
theorem Qqd {o:Oper} {v:AV} {run free:Bool} {F:Fr} {G G':Heap} {j k:Nat}:readAll P ms q j (⟨o,v,false,run,free,F,G,G'⟩ :: rs) k=readAll P ms q j rs (k+1):=by rw [readAll];rfl
theorem Qjq {dst:Option Tmp} {e:TypeId} {type:TypeId} {pos:String} {after:Array Edge} {guard:Option (Nat × Bool)} {s a:Nat} {run free:Bool} {F:Fr} {G G':Heap}:(QaD ⟨⟨dst,.alloc e,type,pos,after,guard⟩,.ptr s a,true,run,free,F,G,G'⟩).isNone=(QfP s G[s]? G'[s]?).isNone:=rfl
theorem QgP {s:Nat} {e:TypeId} {cs:List AV}:(QfP s (some .slot) (some (.cells e cs))).isNone=false:=rfl
theorem Qhl {s:Nat} {x:Option AObj}:(QfP s none x).isNone=true:=rfl
theorem Qnj {dst:Option Tmp} {e:TypeId} {x:Operand} {type:TypeId} {pos:String} {after:Array Edge} {guard:Option (Nat × Bool)} {v:AV} {run free:Bool} {F:Fr} {G G':Heap}:(QaD ⟨⟨dst,.box e x,type,pos,after,guard⟩,v,true,run,free,F,G,G'⟩).isNone=true:=rfl
theorem Qi0 {dst:Option Tmp} {t:TypeId} {a x:Operand} {type:TypeId} {pos:String} {after:Array Edge} {guard:Option (Nat × Bool)} {v:AV} {run free:Bool} {F:Fr} {G G':Heap}:(QaD ⟨⟨dst,.store t a x,type,pos,after,guard⟩,v,true,run,free,F,G,G'⟩).isNone=true:=rfl
theorem Qeq {dst:Option Tmp} {t:TypeId} {n:Nat} {ps:Array (Nat × Operand)} {type:TypeId} {pos:String} {after:Array Edge} {guard:Option (Nat × Bool)} {v:AV} {run free:Bool} {F:Fr} {G G':Heap}:(QaD ⟨⟨dst,.buildSlice t n ps,type,pos,after,guard⟩,v,true,run,free,F,G,G'⟩).isNone=true:=rfl
theorem QkB {dst:Option Tmp} {c:Call} {type:TypeId} {pos:String} {after:Array Edge} {guard:Option (Nat × Bool)} {v:AV} {run free:Bool} {F:Fr} {G G':Heap}:(QaD ⟨⟨dst,.call c,type,pos,after,guard⟩,v,true,run,free,F,G,G'⟩).isNone=true:=rfl
theorem Qgh {dst:Option Tmp} {t:TypeId} {x:Option Operand} {type:TypeId} {pos:String} {after:Array Edge} {guard:Option (Nat × Bool)} {v:AV} {run free:Bool} {F:Fr} {G G':Heap}:(QaD ⟨⟨dst,.makeMap t x,type,pos,after,guard⟩,v,true,run,free,F,G,G'⟩).isNone=true:=rfl
theorem QeD {dst:Option Tmp} {t:TypeId} {m k x:Operand} {type:TypeId} {pos:String} {after:Array Edge} {guard:Option (Nat × Bool)} {v:AV} {run free:Bool} {F:Fr} {G G':Heap}:(QaD ⟨⟨dst,.mapUpdate t m k x,type,pos,after,guard⟩,v,true,run,free,F,G,G'⟩).isNone=true:=rfl
theorem Qfe {dst:Option Tmp} {t:TypeId} {m k:Operand} {type:TypeId} {pos:String} {after:Array Edge} {guard:Option (Nat × Bool)} {v:AV} {run free:Bool} {F:Fr} {G G':Heap}:(QaD ⟨⟨dst,.mapEntry t m k,type,pos,after,guard⟩,v,true,run,free,F,G,G'⟩).isNone=true:=rfl
theorem Qei {dst:Option Tmp} {t:TypeId} {m k x:Operand} {type:TypeId} {pos:String} {after:Array Edge} {guard:Option (Nat × Bool)} {v:AV} {run free:Bool} {F:Fr} {G G':Heap}:(QaD ⟨⟨dst,.entryStore t m k x,type,pos,after,guard⟩,v,true,run,free,F,G,G'⟩).isNone=true:=rfl
theorem Qxk {dst:Option Tmp} {t:TypeId} {l c:Operand} {type:TypeId} {pos:String} {after:Array Edge} {guard:Option (Nat × Bool)} {s a b d e:Nat} {run free:Bool} {F:Fr} {G G':Heap}:(QaD ⟨⟨dst,.makeSlice t l c,type,pos,after,guard⟩,.hsl s a b d e,true,run,free,F,G,G'⟩).isNone=(looseAt s G[s]? G'[s]?).isNone:=rfl
theorem Qin {s:Nat} {e:TypeId} {cs:List IV}:(looseAt s (some .slot) (some (.row false e cs))).isNone=false:=rfl
theorem Qjx {s:Nat} {x:Option AObj}:(looseAt s none x).isNone=true:=rfl
theorem Qje {H:Heap} {all:List Rec} {j:Nat}:Qb6 P ms H all [] j=true:=rfl
theorem QgT {o:Oper} {v:AV} {F:Fr} {G G' H:Heap} {all:List Rec} {j:Nat}:Qb6 P ms H all (⟨o,v,false,true,false,F,G,G'⟩ :: rs) j=(((!QdB (ms.getD j 0) all 0 || sameAt P ⟨o,v,false,true,false,F,G,G'⟩ H)&&readAll P ms ⟨o,v,false,true,false,F,G,G'⟩ j all 0)&&Qb6 P ms H all rs (j+1)):=by rw [Qb6];rfl
theorem QiC {o:Oper} {v:AV} {run free:Bool} {F:Fr} {G G' H:Heap} {all:List Rec} {j:Nat}:Qb6 P ms H all (⟨o,v,true,run,free,F,G,G'⟩ :: rs) j=Qb6 P ms H all rs (j+1):=by rw [Qb6];rfl
theorem Qhc {o:Oper} {v:AV} {run:Bool} {F:Fr} {G G' H:Heap} {all:List Rec} {j:Nat}:Qb6 P ms H all (⟨o,v,false,run,true,F,G,G'⟩ :: rs) j=Qb6 P ms H all rs (j+1):=by rw [Qb6];simp
theorem QiO {o:Oper} {v:AV} {free:Bool} {F:Fr} {G G' H:Heap} {all:List Rec} {j:Nat}:Qb6 P ms H all (⟨o,v,false,false,free,F,G,G'⟩ :: rs) j=Qb6 P ms H all rs (j+1):=by rw [Qb6];simp
def eqO (x:Option AV) (v:AV):Bool :=
 match x with
 | some y=>AV.eqb y v
 | none=>false
theorem Q02 {y v:AV}:eqO (some y) v=AV.eqb y v:=rfl
theorem QxI {o:Oper} {v:AV} {eff run free:Bool} {F:Fr} {G G' K:Heap}:sameAt P ⟨o,v,eff,run,free,F,G,G'⟩ K=eqO (Qa0 P (Qa2 F) K o) v:=rfl
theorem QwN {F:Fr}:QkY [] F=F:=rfl
theorem QnD {dst:Option Tmp} {op:Op} {type:TypeId} {pos:String} {after:Array Edge} {guard:Option (Nat × Bool)} {v:AV} {eff run free:Bool} {F F0:Fr} {G G':Heap}:QkY (⟨⟨dst,op,type,pos,after,guard⟩,v,eff,run,free,F0,G,G'⟩ :: rs) F=QkY rs (setD F dst v):=rfl
theorem Qxd {H:Heap}:QhE [] H=H:=rfl
theorem QuK {o:Oper} {v:AV} {run free:Bool} {F:Fr} {G G' H:Heap}:QhE (⟨o,v,true,run,free,F,G,G'⟩ :: rs) H=QhE rs G':=rfl
theorem Q0t {o:Oper} {v:AV} {run free:Bool} {F:Fr} {G G' H:Heap}:QhE (⟨o,v,false,run,free,F,G,G'⟩ :: rs) H=QhE rs H:=rfl
end
def QBZ (H:Heap) (s:Nat):AV × Heap→Option (AV × Heap)
 | (.hsl _ a b d e,[o])=>some (.hsl s a b d e,H.set s o)
 | _=>none
theorem Qvm {H:Heap} {s i a b d e:Nat} {o:AObj}:QBZ H s (.hsl i a b d e,[o])=some (.hsl s a b d e,H.set s o):=rfl
def Q7n (H:Heap) (s:Nat) (r:AV × Heap):Option (AV × Heap) :=
 match r with
 | (.ptr _ a,[o])=>some (.ptr s a,H.set s o)
 | _=>none
theorem QoV {H:Heap} {s i a:Nat} {o:AObj}:Q7n H s (.ptr i a,[o])=some (.ptr s a,H.set s o):=rfl
theorem Qkw {P:Program} {H:Heap} {s:Nat} {t:TypeId} (hs:H[s]?=some .slot):Qel P H (some s) t=(Qdt P [] t).bind (Q7n H s):=by
 have h1:QbV H (some s)=some s:=by simp [QbV,hs]
 unfold Qel Qdt
 rw[h1]
 cases zeroCells P t<;>rfl
theorem QfZ {P:Program} {H:Heap} {s:Nat} {t:TypeId} {x y:AV} (hs:H[s]?=some .slot):QaU P H (some s) t x y=(QaU P [] none t x y).bind (QBZ H s):=by
 have h1:QbV H (some s)=some s:=by simp [QbV,hs]
 have h2:QbV [] none=none:=rfl
 unfold QaU
 split
 ·rename_i l c
  rcases QbM P t with _ | e
  ·rfl
  simp only[Option.bind_some]
  rcases Qb0 P e with _ | sz
  ·rfl
  simp only[Option.bind_some]
  rcases Qux P e with _ | by_
  ·rfl
  simp only[Option.bind_some]
  rcases zeroCells P e with _ | z
  ·rfl
  simp only[Option.bind_some,h1,h2]
  split<;>rfl
 ·rfl
structure Tab where
 loops:List (Nat × Nat × Nat × List Nat)
 keeps:List (Nat × Nat × Nat)
 slots:List (Nat × Nat × Nat × Nat)
 nslots:List (Nat × Nat)
 frames:List Nat
 fslots:List (Nat × Nat × Nat × List Nat)
 specials:List Nat
 spoils:List (Nat × Nat)
 fzs:List (Nat × Nat × List Nat)
 fzrs:List Nat:=[]
def fzB:List (Nat × Nat × List Nat)→Nat→Nat→List Nat
 | [],_,_=>[]
 | (a,b,c)::l,f,r=>if ((a == f)&&(b == r))=true then c else fzB l f r
def QAb:List (Nat × Nat)→Nat→Nat→Bool
 | [],_,_=>false
 | (a,b)::l,f,r=>((a == f)&&(b == r)) || QAb l f r
def Qan:List (Nat × Nat × Nat × List Nat)→Nat→Nat→Nat→List Nat
 | [],_,_,_=>[]
 | (a,b,c,d)::l,f,r,i=>if ((a == f)&&((b == r)&&(c == i)))=true then d else Qan l f r i
def Qat:List (Nat × Nat × Nat)→Nat→Nat→Nat→Bool
 | [],_,_,_=>false
 | (a,b,c)::l,f,r,i=>((a == f || a == f+1000000)&&((b == r)&&(c == i))) || Qat l f r i
def rawB:List (Nat × Nat × Nat)→Nat→Nat→Nat→Bool
 | [],_,_,_=>false
 | (a,b,c)::l,f,r,i=>((a == f+1000000)&&((b == r)&&(c == i))) || rawB l f r i
theorem Qlh:∀ {l:List (Nat × Nat × Nat)} {f r i:Nat},Qat l f r i=false→rawB l f r i=false
 | [],_,_,_,_=>rfl
 | (a,b,c)::l,f,r,i,h=>by
  rw[Qat,Bool.or_eq_false_iff] at h
  rw[rawB,Qlh h.2,Bool.or_false]
  have h1:=h.1
  by_cases e:(a == f+1000000)=true
  ·rw[e,Bool.or_true,Bool.true_and] at h1
   rw[e,Bool.true_and];exact h1
  ·have e':(a == f+1000000)=false:=by simpa using e
   rw[e'];rfl
def Qa5:List (Nat × Nat × Nat × Nat)→Nat→Nat→Nat→Option Nat
 | [],_,_,_=>none
 | (a,b,c,d)::l,f,r,i=>if ((a == f)&&((b == r)&&(c == i)))=true then some d else Qa5 l f r i
def QCe:List (Nat × Nat)→Nat→Nat
 | [],_=>0
 | (a,n)::l,f=>if (a == f)=true then n else QCe l f
def Qac (tab:Tab):Hints where
 clear:=fun f r=>match tab.loops.find? fun e=>e.1 == f&&e.2.1 == r with
  | some e=>(List.range e.2.2.1).filter fun i=>!e.2.2.2.contains i
  | none=>[]
 keep:=fun f r i=>Qat tab.keeps f r i
 raw:=fun f r i=>rawB tab.keeps f r i
 slots:=fun f=>QCe tab.nslots f
 slot:=fun f r i=>Qa5 tab.slots f r i
 framed:=fun g=>inB tab.frames g
 fslots:=fun f r i=>Qan tab.fslots f r i
 special:=fun f=>inB tab.specials f
 spoil:=fun f r=>QAb tab.spoils f r
 fz:=fun f r=>fzB tab.fzs f r
 fzr:=fun f=>inB tab.fzrs f
theorem Q6B {tab:Tab} {f r i:Nat}:(Qac tab).slot f r i=Qa5 tab.slots f r i:=rfl
theorem QCB {tab:Tab} {f r i:Nat}:(Qac tab).raw f r i=rawB tab.keeps f r i:=rfl
theorem Q99 (n:Nat) (live:List Nat):QzO n live ((List.range n).filter fun i=>!live.contains i)=true:=by
 unfold QzO
 rw[List.all_eq_true]
 intro i hi
 have hn:=List.mem_range.1 hi
 cases h:live.contains i
 ·have:((List.range n).filter fun i=>!live.contains i).contains i=true:=by
   rw[List.contains_iff_mem,List.mem_filter]
   exact⟨hi,by rw [h];rfl⟩
  rw[this];rfl
 ·have:((List.range n).filter fun i=>!live.contains i).contains i=false:=by
   rw[Bool.eq_false_iff]
   intro hc
   rw[List.contains_iff_mem,List.mem_filter,h] at hc
   cases hc.2
  rw[this];rfl
def Qae (r:Nat):Code→Option Code
 | .seq a b=>(Qae r a).or (Qae r b)
 | .cond _ a b=>(Qae r a).or (Qae r b)
 | .block _ b=>Qae r b
 | .loop b=>if Qab b=some r then some b else Qae r b
 | .scope b=>Qae r b
 | .rangeFunc _ _ a b=>(Qae r a).or (Qae r b)
 | _=>none
def Qag (fn:Func) (r:Nat):Code:=match fn.body with
 | some c=>(Qae r c).getD .skip
 | none=>.skip
noncomputable def Q5U (P:Program) (tab:Tab) (kf:Nat) (ar:Option Nat) (b:Code) (f n:Nat) (live:List Nat) (m k:Nat) (F:Fr) (H:Heap):Option Out :=
 iter (Qad P (cxG P (Qac tab) kf f ar) b) ((List.range n).filter fun i=>!live.contains i) [] m k F H
noncomputable def Qar (P:Program) (tab:Tab) (kf:Nat) (ar:Option Nat) (b:Code) (f n:Nat) (live:List Nat) (m k:Nat) (l:Ass) (H:Heap):Option Out:=Q5U P tab kf ar b f n live m k (fr n l) H
theorem Q25 {tab:Tab} {kf:Nat} {ar:Option Nat} {b:Code} {f n m k:Nat} {live:List Nat} {l:Ass} {H:Heap}:Q5U P tab kf ar b f n live m k (fr n l) H=Qar P tab kf ar b f n live m k l H:=rfl
theorem Qaa {tab:Tab} {kf:Nat} {ar:Option Nat} {b:Code} {f n m k:Nat} {live:List Nat} {l:Ass} {H:Heap} :
  Qar P tab kf ar b f n live m (k+1) l H=QsL (Qad P (cxG P (Qac tab) kf f ar) b (fr n (keep l live)) (trim m (fr n (keep l live)) H)) (Q5U P tab kf ar b f n live m k):=by
 rw[Qar,Q5U,Q67,Q5v (Q99 n live)]
 rfl
theorem Qgg {b:Code} {F:Fr} {H:Heap} (h:Qh7 cx.around H.length=true) (hsp:(if ((Qab b).map (cx.hints.spoil cx.fn)).getD false=true then Qju P b F H else none)=none):Qad P cx (.loop b) F H=iter (Qad P cx b) (((Qab b).map (cx.hints.clear cx.fn)).getD []) (((Qab b).map (cx.hints.fz cx.fn)).getD []) H.length cx.fuel F H:=by
 simp only[Qad,hsp]
 rw[if_pos h]
theorem Qai (B:Code) {r:Nat} {tab:Tab} {kf f n:Nat} {ar:Option Nat} {live:List Nat} {b:Code} {l:Ass} {H:Heap} (ht:(tab.loops.find? fun e=>e.1 == f&&e.2.1 == r)=some (f,r,n,live)) (hb:Qab b=some r) (hl:B=b) (ha:Qh7 ar H.length=true) (hsp:QAb tab.spoils f r=false:=by rfl) (hfz:fzB tab.fzs f r=[]:=by rfl) :
  Qad P (cxG P (Qac tab) kf f ar) (.loop b) (fr n l) H=Qar P tab kf ar B f n live H.length kf l H:=by
 subst hl
 rw[Qgg ha (by rw [hb,if_neg (by rw [show ((some r).map ((cxG P (Qac tab) kf f ar).hints.spoil (cxG P (Qac tab) kf f ar).fn)).getD false=QAb tab.spoils f r from rfl,hsp];simp)]),Qar,Q5U,hb]
 have e1:((some r).map ((cxG P (Qac tab) kf f ar).hints.clear (cxG P (Qac tab) kf f ar).fn)).getD []=(List.range n).filter fun i=>!live.contains i:=by
  show (Qac tab).clear f r=_
  unfold Qac
  simp only[ht]
 have e2:((some r).map ((cxG P (Qac tab) kf f ar).hints.fz (cxG P (Qac tab) kf f ar).fn)).getD []=[]:=hfz
 rw[e1,e2]
 rfl
noncomputable def QGr (P:Program) (tab:Tab) (kf:Nat) (ar:Option Nat) (b:Code) (f n:Nat) (live fz:List Nat) (m k:Nat) (F:Fr) (H:Heap):Option Out :=
 iter (Qad P (cxG P (Qac tab) kf f ar) b) ((List.range n).filter fun i=>!live.contains i) fz m k F H
noncomputable def loopZ (P:Program) (tab:Tab) (kf:Nat) (ar:Option Nat) (b:Code) (f n:Nat) (live fz:List Nat) (m k:Nat) (l:Ass) (H:Heap):Option Out:=QGr P tab kf ar b f n live fz m k (fr n l) H
theorem Q2k {tab:Tab} {kf:Nat} {ar:Option Nat} {b:Code} {f n m k:Nat} {live fz:List Nat} {l:Ass} {H:Heap}:QGr P tab kf ar b f n live fz m k (fr n l) H=loopZ P tab kf ar b f n live fz m k l H:=rfl
def Q8D (t:Option TypeDesc) (e:TypeId):Bool :=
 match t with
 | some (.slice e')=>e' == e
 | _=>false
def Qek (P:Program) (B:Code) (k s x:Nat) (ws:List Nat) (n sz:Nat) (e:TypeId):Bool :=
 match Q0H B with
 | some q=>Nat.beq q.k k&&Nat.beq q.s s&&Nat.beq q.x x&&decide (q.writes=ws)&&Q8D (P.underlying q.t) e&&decide (Qb0 P e=some sz)&&decide (Qb0 P q.et=some sz)&&Qmu P sz (Q8n P q.mid q.v)&&ws.all (fun t=>Nat.blt t n)&&Qcb (s::ws)&&(Nat.blt s n&&Nat.blt k n)
 | none=>false
theorem QrV:∀ (d:Nat) (g:Nat→AV) (i:Nat),i+1<2 ^ d→(PT.of d g).has i=true
 | 0,_,i,h=>by simp at h
 | d+1,g,i,h=>by
  have hp:2 ^ (d+1)=2 * 2 ^ d:=by rw [Nat.pow_succ];omega
  rw[PT.of,PT.has_node]
  split
  ·rfl
  ·split
   ·exact QrV d _ _ (by omega)
   ·exact QrV d _ _ (by omega)
theorem ok_fr {n t:Nat} {l:Ass} (h:t<n):(fr n l).ok t=true:=by
 unfold Fr.ok
 rw[Bool.and_eq_true]
 exact⟨QcZ.2 h,QrV _ _ _ (QBS h)⟩
theorem Qee (B:Code) {tab:Tab} {kf f r n k s x sz:Nat} {ar:Option Nat} {ws:List Nat} {e:TypeId} {b:Code} {l:Ass} {H:Heap} (hf:Qek P B k s x ws n sz e=true) (hs:QAb tab.spoils f r=true) (hr:Qab B=some r)
  {id off ext:Nat} {n0:Int} {t:TypeId} {cs:List IV} (hb:B=b) (h1:asc l s=.cw false id off ext sz) (h2:asc l k=.c (.int .i64 n0)) (h0:0≤n0) (h3:H[id]?=some (.row false t cs)) (h4:cs.length=ext) :
  Qad P (cxG P (Qac tab) kf f ar) (.loop b) (fr n l) H=some (.exit x (QaJ (fr n l) ws) (H.set id .dead)):=by
 subst hb
 unfold Qek at hf
 split at hf<;>first | (cases hf;done) | skip
 rename_i q hq
 simp only[Bool.and_eq_true,decide_eq_true_eq] at hf
 obtain⟨⟨⟨⟨⟨⟨⟨⟨⟨⟨e1,e2⟩,e3⟩,e4⟩,e5⟩,e6⟩,e7⟩,e8⟩,e9⟩,e10⟩,e11,e12⟩:=hf
 have e1:=Nat.eq_of_beq_eq_true e1
 have e2:=Nat.eq_of_beq_eq_true e2
 have e3:=Nat.eq_of_beq_eq_true e3
 subst e1
 subst e2
 subst e3
 subst e4
 have hu:P.underlying q.t=some (.slice e):=by
  unfold Q8D at e5
  split at e5
  ·rename_i e' he
   rw[he,eq_of_beq e5]
  ·cases e5
 have key:Qju P B (fr n l) H=some (.exit q.x (QaJ (fr n l) q.writes) (H.set id .dead)):=by
  rw[Qju,hq]
  simp only[Option.bind_some]
  rw[QgQ (QcZ.1 e11),QgQ (QcZ.1 e12),h1,h2,hu]
  simp only[h3]
  rw[if_pos ⟨h4,h0,e6,e7,e8,List.all_eq_true.2 fun d hd=>ok_fr (QcZ.1 (List.all_eq_true.1 e9 d hd)),e10⟩]
 have hh:((Qab B).map ((cxG P (Qac tab) kf f ar).hints.spoil (cxG P (Qac tab) kf f ar).fn)).getD false=true:=by rw [hr];exact hs
 simp only[Qad,hh,if_true,key]
theorem Qls (B:Code) {tab:Tab} {kf f r n k s x sz:Nat} {ar:Option Nat} {ws live:List Nat} {e:TypeId} {b:Code} {l:Ass} {H:Heap} (hf:Qek P B k s x ws n sz e=true)
  (ht:(tab.loops.find? fun e=>e.1 == f&&e.2.1 == r)=some (f,r,n,live)) {iv:IV} (h1:asc l s=.c iv) (hb:Qab b=some r) (hl:B=b) (ha:Qh7 ar H.length=true) (hfz:fzB tab.fzs f r=[]:=by rfl) :
  Qad P (cxG P (Qac tab) kf f ar) (.loop b) (fr n l) H=Qar P tab kf ar B f n live H.length kf l H:=by
 subst hl
 unfold Qek at hf
 split at hf<;>first | (cases hf;done) | skip
 rename_i q hq
 simp only[Bool.and_eq_true,decide_eq_true_eq] at hf
 obtain⟨⟨⟨⟨⟨⟨⟨⟨⟨⟨e1,e2⟩,e3⟩,e4⟩,e5⟩,e6⟩,e7⟩,e8⟩,e9⟩,e10⟩,e11,e12⟩:=hf
 have e2:=Nat.eq_of_beq_eq_true e2
 subst e2
 have key:Qju P B (fr n l) H=none:=by
  rw[Qju,hq]
  simp only[Option.bind_some]
  rw[QgQ (QcZ.1 e11),h1]
 rw[Qgg ha (by rw [key];split<;>rfl),Qar,Q5U,hb]
 have e1:((some r).map ((cxG P (Qac tab) kf f ar).hints.clear (cxG P (Qac tab) kf f ar).fn)).getD []=(List.range n).filter fun i=>!live.contains i:=by
  show (Qac tab).clear f r=_
  unfold Qac
  simp only[ht]
 have e2:((some r).map ((cxG P (Qac tab) kf f ar).hints.fz (cxG P (Qac tab) kf f ar).fn)).getD []=[]:=hfz
 rw[e1,e2]
 rfl
theorem QsB {F:Fr}:QaJ F []=F:=rfl
theorem Qpx {n t:Nat} {l:Ass} {ts:List Nat} (h:t<n):QaJ (fr n l) (t::ts)=QaJ (fr n ((t,.unk)::l)) ts:=by rw [QaJ,Qx0 h]
theorem QnV {tab:Tab} {kf f r i:Nat} {ar:Option Nat} {g:FuncId} {args:List AV} {H:Heap} (hf:inB tab.frames g=false) (hk:Qat tab.keeps f r i=false) (ha:args.all AV.pure=true) :
  QbP (cxG P (Qac tab) kf f ar) r i g args H=ansO (ans (Qav P (Qac tab) kf (.fn g) args [])) (Qav P (Qac tab) kf (.fn g) args H) H:=Q4Z hf (Qlh hk) hk ha
theorem Qoc {tab:Tab} {kf f r i:Nat} {ar:Option Nat} {g:FuncId} {args:List AV} {H:Heap} (hf:inB tab.frames g=false) (hk:Qat tab.keeps f r i=false) (ha:args.all AV.pure=false) :
  QbP (cxG P (Qac tab) kf f ar) r i g args H=frzC (fun as=>Qav P (Qac tab) kf (.fn g) as []) (Qav P (Qac tab) kf (.fn g) args H) (Qbi H args) H (Qih (cxG P (Qac tab) kf f ar) r i g args H):=Qzq hf (Qlh hk) hk ha
theorem QrZ {id off len ext sz:Nat}:(AV.hsl id off len ext sz).pure0=false:=rfl
theorem Q35 {id off len ext sz:Nat}:(AV.hsl id off len ext sz).pure=false:=rfl
theorem QuW {id off:Nat}:(AV.ptr id off).pure0=false:=rfl
theorem Q2g {id off:Nat}:(AV.ptr id off).pure=false:=rfl
theorem Qs5 {tab:Tab} {kf f r i:Nat} {ar:Option Nat} {g:FuncId} {args:List AV} (hf:inB tab.frames g=false) (hk:Qat tab.keeps f r i=false) (ha:args.all AV.pure=true) :
  Qr5 (cxG P (Qac tab) kf f ar) r i (.c (.fn g)) args=ans (Qav P (Qac tab) kf (.fn g) args []):=QBu hf ha (Qlh hk) hk
theorem Qvn {tab:Tab} {kf f r i:Nat} {ar:Option Nat} {g:FuncId} {args:List AV} (ha:args.all AV.pure=false) :
  Qr5 (cxG P (Qac tab) kf f ar) r i (.c (.fn g)) args=none:=if_neg (fun h=>by rw [ha] at h;cases h.1)
theorem QxQ {r i id:Nat} {args:List AV}:Qr5 cx r i (.yld id) args=none:=rfl
def Qe3 (x:Option (AV × Heap)) (H:Heap):Option (AV × Heap):=x.bind fun r=>(r.1.imp H.length).bind fun s=>(rowsOf r.2 s.2).map fun H2=>(s.1,H++H2)
theorem Qb8 {tab:Tab} {kf f r i:Nat} {ar:Option Nat} {g:FuncId} {args:List AV} {H:Heap} (hf:inB tab.frames g=false) (hk:Qat tab.keeps f r i=true) (ha:args.all AV.pure=true) (hr:rawB tab.keeps f r i=false:=by rfl) :
  QbP (cxG P (Qac tab) kf f ar) r i g args H=Qe3 (Qav P (Qac tab) kf (.fn g) args []) H:=by
 unfold QbP
 rw[if_neg (by rw [show (cxG P (Qac tab) kf f ar).hints.framed g=false from hf];simp),if_neg (by rw [show (cxG P (Qac tab) kf f ar).hints.raw (cxG P (Qac tab) kf f ar).fn r i=false from hr];simp),if_pos (show (cxG P (Qac tab) kf f ar).hints.keep (cxG P (Qac tab) kf f ar).fn r i=true from hk)]
 unfold Qhn
 rw[if_pos ha]
 rfl
def QDs (x:Option (AV × Heap)) (H:Heap):Option (AV × Heap):=x.bind fun r=>(r.1.imp H.length).bind fun s=>(rowsOf r.2 s.2).bind fun H2=>if s.1.sc=true∧H2.all AObj.sc=true then some (s.1,H++H2) else none
def QFk (call:List AV→Option (AV × Heap)) (H:Heap) (a:Option (List AV × Heap)):Option (AV × Heap):=a.bind fun a=>QDs (call a.1) H
theorem QoG {call:List AV→Option (AV × Heap)} {H H1:Heap} {as:List AV}:QFk call H (some (as,H1))=QDs (call as) H:=rfl
theorem QkO {tab:Tab} {kf f r i:Nat} {ar:Option Nat} {g:FuncId} {args:List AV} {H:Heap} (hf:inB tab.frames g=false) (hk:Qat tab.keeps f r i=true) (ha:args.all AV.pure=false) (hr:rawB tab.keeps f r i=false:=by rfl) :
  QbP (cxG P (Qac tab) kf f ar) r i g args H=QFk (fun as=>Qav P (Qac tab) kf (.fn g) as []) H (Qbi H args):=by
 unfold QbP
 rw[if_neg (by rw [show (cxG P (Qac tab) kf f ar).hints.framed g=false from hf];simp),if_neg (by rw [show (cxG P (Qac tab) kf f ar).hints.raw (cxG P (Qac tab) kf f ar).fn r i=false from hr];simp),if_pos (show (cxG P (Qac tab) kf f ar).hints.keep (cxG P (Qac tab) kf f ar).fn r i=true from hk)]
 unfold Qhn
 rw[if_neg (by rw [ha];simp)]
 rfl
theorem Qq1 {tab:Tab} {kf f r i:Nat} {ar:Option Nat} {g:FuncId} {args:List AV} {H:Heap} (hf:inB tab.frames g=false) (hr:rawB tab.keeps f r i=true) :
  QbP (cxG P (Qac tab) kf f ar) r i g args H=Qav P (Qac tab) kf (.fn g) args H:=by
 unfold QbP
 rw[if_neg (by rw [show (cxG P (Qac tab) kf f ar).hints.framed g=false from hf];simp),if_pos (show (cxG P (Qac tab) kf f ar).hints.raw (cxG P (Qac tab) kf f ar).fn r i=true from hr)]
 rfl
theorem Qcr {tab:Tab} {kf f r i:Nat} {ar:Option Nat} {g:FuncId} {args:List AV} (hk:Qat tab.keeps f r i=true) :
  Qr5 (cxG P (Qac tab) kf f ar) r i (.c (.fn g)) args=none:=Q5I hk
theorem Q42 {l:Ass}:keep l []=[]:=rfl
theorem QxN {l:Ass} {i:Nat} {is:List Nat}:keep l (i::is)=(i,asc l i)::keep l is:=rfl
end
section
variable [Globals] {P:Program} {cx:Cx}
def lv (s sz:Nat) (n:Nat):AV:=if n=0 then .c (.slice [] 0 true (some 0)) else .hsl s 0 n (n * sz) sz
def lo (e:TypeId) (n:Nat) (cells:List IV):AObj:=if n=0 then .slot else .row false e cells
theorem Qg1 {s sz:Nat}:lv s sz 0=.c (.slice [] 0 true (some 0)):=rfl
theorem Qru {e:TypeId} {cells:List IV}:lo e 0 cells=.slot:=rfl
theorem Qct {s sz n:Nat} (h:0<n):lv s sz n=.hsl s 0 n (n * sz) sz:=if_neg (by omega)
theorem Qcm {e:TypeId} {n:Nat} {cells:List IV} (h:0<n):lo e n cells=.row false e cells:=if_neg (by omega)
theorem Q6g {s sz n:Nat}:(lv s sz n).isCell=true:=by unfold lv;split<;>rfl
theorem Qtk {s sz n:Nat}:(lv s sz n).kcells=[lv s sz n]:=by unfold lv;split<;>rfl
theorem Qda {s sz n m:Nat}:AV.under m (lv s sz n)=(decide (n=0) || decide (s<m)):=by
 unfold lv;split
 ·rename_i h;simp [h];rfl
 ·rename_i h;simp [h];rfl
theorem Qx1 {s sz n m:Nat}:AV.underA m (lv s sz n)=(decide (n=0) || decide (s<m)):=by
 unfold lv;split
 ·rename_i h;simp [h];rfl
 ·rename_i h;simp [h];rfl
theorem Qvk {s sz n m:Nat}:AV.under0 m (lv s sz n)=(decide (n=0) || decide (s<m)):=by
 unfold lv;split
 ·rename_i h;simp [h];rfl
 ·rename_i h;simp [h];rfl
theorem Qcz {e:TypeId} {n m:Nat} {cells:List IV}:AObj.under m (lo e n cells)=true:=by unfold lo;split<;>rfl
theorem Qgq {e:TypeId} {sz by_ m n s:Nat} {H:Heap} {cells cs:List IV} (h:0<m) (hb:(n+m) * by_≤roomBytes) (hs:0<sz) (hH:H[s]?=some (lo e n cells)) (hl:cells.length=n * sz) :
  apO e sz by_ (some s) (lv s sz n) H (some (cs,m))=some (lv s sz (n+m),H.set s (lo e (n+m) (cells++cs))):=by
 rw[Qct (show 0<n+m by omega),Qcm (show 0<n+m by omega)]
 rcases Nat.eq_zero_or_pos n with rfl | hn
 ·have hc:cells=[]:=List.eq_nil_of_length_eq_zero (by simpa using hl)
  subst hc
  rw[Qg1]
  rw[Qru] at hH
  simp only[apO,Option.bind_some,QbV,hH]
  rw[if_neg (by omega),if_pos ⟨by omega,hb,by simp⟩]
 ·rw[Qct hn]
  rw[Qcm hn] at hH
  exact Qma h hb hs hH hl
def Qay (r:Nat):Code→Option (Array Tmp × Code × Code)
 | .seq a b=>(Qay r a).or (Qay r b)
 | .cond _ a b=>(Qay r a).or (Qay r b)
 | .block _ b=>Qay r b
 | .loop b=>Qay r b
 | .scope b=>Qay r b
 | .rangeFunc _ ps a b=>if ((Qab a).or (Qab b))=some r then some (ps,a,b) else (Qay r a).or (Qay r b)
 | _=>none
def rfOf (fn:Func) (r:Nat):Array Tmp × Code × Code:=match fn.body with
 | some c=>(Qay r c).getD (#[],.skip,.skip)
 | none=>(#[],.skip,.skip)
def rfAs (fn:Func) (r:Nat):Code:=(rfOf fn r).2.1
def rfBd (fn:Func) (r:Nat):Code:=(rfOf fn r).2.2
def Qdm (ps:Array Tmp) (as b:Code) (f:FuncId) (st:LoopState) (pend:Option Code) (F:Fr):AObj:=.loop st pend f F ps as b
theorem QcA {ps:Array Tmp} {as b:Code} {f m n:Nat} {st:LoopState} {pend:Option Code} {l:Ass} (h:(l.all fun e=>AV.under m e.2)=true):AObj.under m (Qdm ps as b f st pend (fr n l))=true :=
 QCo rfl fun i _=>Qyu rfl l i h
noncomputable def Q7m (cx:Cx) (F:Fr) (n:Nat) (g:Option (FuncId × List AV)) (H:Heap):Option Out :=
 match g with
 | some g=>(cx.call g.1 g.2 H).bind fun r=>QfL F n r.2
 | none=>none
theorem Qm4 {F:Fr} {n:Nat} {g:FuncId} {as:List AV} {H:Heap}:Q7m cx F n (some (g,as)) H=(cx.call g as H).bind fun r=>QfL F n r.2:=rfl
theorem QbI (as b:Code) {fv:Operand} {ps:Array Tmp} {as' b':Code} {F:Fr} {H:Heap} (ha:as=as') (hb:b=b') :
  Qad P cx (.rangeFunc fv ps as' b') F H=Q7m cx F H.length (QyG (Qa2 F fv) (.yld H.length)) (H++[Qdm ps as b cx.fn .ready none F]):=by
 subst ha
 subst hb
 unfold Qdm Qad Q7m
 cases QyG (Qa2 F fv) (.yld H.length)<;>rfl
theorem QsF {g:FuncId} {a b:List AV} {x:AV}:QyG (.clo g a b) x=some (g,a++[x]++b):=rfl
theorem QzN {g:FuncId} {x:AV}:QyG (.c (.fn g)) x=some (g,[x]):=rfl
def endO (F:Fr) (n:Nat) (H:Heap) (o:Option AObj):Option Out :=
 match o with
 | some (.loop st pend f F0 ps as b)=>if st=.busy then none else
  match pend with
  | none=>some (.norm F (H.set n (.loop .exhausted pend f F0 ps as b)))
  | some .ret=>some (.ret F (H.set n (.loop .exhausted pend f F0 ps as b)))
  | some (.exit id)=>some (.exit id F (H.set n (.loop .exhausted pend f F0 ps as b)))
  | some _=>none
 | _=>none
theorem QiD {F:Fr} {n:Nat} {H:Heap}:QfL F n H=endO F n H H[n]?:=rfl
theorem QoI {F F0:Fr} {n f:Nat} {ps:Array Tmp} {as b:Code} {H:Heap}:endO F n H (some (Qdm ps as b f .ready none F0))=some (.norm F (H.set n (Qdm ps as b f .exhausted none F0))):=by
 show (if LoopState.ready=.busy then none else _)=_
 rw[if_neg (by intro h;cases h)]
 rfl
theorem Qw4 {F F0:Fr} {n f:Nat} {ps:Array Tmp} {as b:Code} {H:Heap}:endO F n H (some (Qdm ps as b f .done none F0))=some (.norm F (H.set n (Qdm ps as b f .exhausted none F0))):=by
 show (if LoopState.done=.busy then none else _)=_
 rw[if_neg (by intro h;cases h)]
 rfl
theorem Q0L {F F0:Fr} {n f:Nat} {ps:Array Tmp} {as b:Code} {H:Heap}:endO F n H (some (Qdm ps as b f .done (some .ret) F0))=some (.ret F (H.set n (Qdm ps as b f .exhausted (some .ret) F0))):=by
 show (if LoopState.done=.busy then none else _)=_
 rw[if_neg (by intro h;cases h)]
 rfl
theorem QsC {F F0:Fr} {n f id:Nat} {ps:Array Tmp} {as b:Code} {H:Heap}:endO F n H (some (Qdm ps as b f .done (some (.exit id)) F0))=some (.exit id F (H.set n (Qdm ps as b f .exhausted (some (.exit id)) F0))):=by
 show (if LoopState.done=.busy then none else _)=_
 rw[if_neg (by intro h;cases h)]
 rfl
noncomputable def QwB (P:Program) (h:Hints) (k id:Nat) (args:List AV) (H:Heap) (o:Option AObj):Option (AV × Heap) :=
 match o with
 | some (.loop _ _ f F ps as b)=>if args.length=ps.size then
   match (if h.fzr f=true then Qbi H args else some (args,H)) with
   | some q=>match Qad P (cxG P h k f (some id)) as (Qep F ps.toList q.1) q.2 with
    | some (.norm F1 H1)=>match H1[id]? with
     | some (.loop .ready pend f' F' ps' as' b')=>(Qad P (cxG P h k f (some id)) b F1 (H1.set id (.loop .busy pend f' F' ps' as' b'))).bind (Qdf id)
     | _=>none
    | _=>none
   | none=>none
  else none
 | _=>none
theorem Qah {h:Hints} {k id:Nat} {args:List AV} {H:Heap}:Qav P h (k+1) (.round id) args H=QwB P h k id args H H[id]?:=rfl
noncomputable def Q0s (P:Program) (h:Hints) (k id f:Nat) (b:Code) (x:Option Out):Option (AV × Heap) :=
 match x with
 | some (.norm F1 H1)=>match H1[id]? with
  | some (.loop .ready pend f' F' ps' as' b')=>(Qad P (cxG P h k f (some id)) b F1 (H1.set id (.loop .busy pend f' F' ps' as' b'))).bind (Qdf id)
  | _=>none
 | _=>none
theorem Qam {tab:Tab} {k id:Nat} {args:List AV} {H:Heap} {ps:Array Tmp} {as b:Code} {f:Nat} {st:LoopState} {pend:Option Code} {F:Fr} (ha:args.length=ps.size) (hz:inB tab.fzrs f=false) :
  QwB P (Qac tab) k id args H (some (Qdm ps as b f st pend F))=Q0s P (Qac tab) k id f b (Qad P (cxG P (Qac tab) k f (some id)) as (Qep F ps.toList args) H):=by
 unfold QwB Qdm
 simp only
 rw[if_pos ha,if_neg (show ¬ (Qac tab).fzr f=true by rw [show (Qac tab).fzr f=inB tab.fzrs f from rfl,hz];decide)]
 rfl
noncomputable def QCx (P:Program) (h:Hints) (k id f:Nat) (as b:Code) (F:Fr) (ps:List Tmp) (x:Option (List AV × Heap)):Option (AV × Heap) :=
 match x with
 | some q=>Q0s P h k id f b (Qad P (cxG P h k f (some id)) as (Qep F ps q.1) q.2)
 | none=>none
theorem QcW {h:Hints} {k id f:Nat} {as b:Code} {F:Fr} {ps:List Tmp} {xs:List AV} {H:Heap}:QCx P h k id f as b F ps (some (xs,H))=Q0s P h k id f b (Qad P (cxG P h k f (some id)) as (Qep F ps xs) H):=rfl
theorem Qes {tab:Tab} {k id:Nat} {args:List AV} {H:Heap} {ps:Array Tmp} {as b:Code} {f:Nat} {st:LoopState} {pend:Option Code} {F:Fr} (ha:args.length=ps.size) (hz:inB tab.fzrs f=true) :
  QwB P (Qac tab) k id args H (some (Qdm ps as b f st pend F))=QCx P (Qac tab) k id f as b F ps.toList (Qbi H args):=by
 unfold QwB Qdm
 simp only
 rw[if_pos ha,if_pos (show (Qac tab).fzr f=true from hz)]
 cases Qbi H args<;>rfl
noncomputable def QDn (P:Program) (h:Hints) (k id f:Nat) (b:Code) (F1:Fr) (H1:Heap) (o:Option AObj):Option (AV × Heap) :=
 match o with
 | some (.loop .ready pend f' F' ps' as' b')=>(Qad P (cxG P h k f (some id)) b F1 (H1.set id (.loop .busy pend f' F' ps' as' b'))).bind (Qdf id)
 | _=>none
theorem Qlw {h:Hints} {k id f:Nat} {b:Code} {F1:Fr} {H1:Heap}:Q0s P h k id f b (some (.norm F1 H1))=QDn P h k id f b F1 H1 H1[id]?:=rfl
theorem Qtc {h:Hints} {k id f f':Nat} {ps:Array Tmp} {as b b2:Code} {F1 F':Fr} {H1:Heap} {pend:Option Code} :
  QDn P h k id f b2 F1 H1 (some (Qdm ps as b f' .ready pend F'))=(Qad P (cxG P h k f (some id)) b2 F1 (H1.set id (Qdm ps as b f' .busy pend F'))).bind (Qdf id):=rfl
def QjN (H:Heap) (l:Nat) (st:LoopState) (pend:Option Code) (o:Option AObj):Option Heap :=
 match o with
 | some (.loop _ _ f F ps as b)=>some (H.set l (.loop st pend f F ps as b))
 | _=>none
theorem Qmj {H:Heap} {l f:Nat} {ps:Array Tmp} {as b:Code} {st st':LoopState} {pend pend':Option Code} {F:Fr}:QjN H l st pend (some (Qdm ps as b f st' pend' F))=some (H.set l (Qdm ps as b f st pend F)):=rfl
theorem Qhf {id:Nat} {F:Fr} {H:Heap}:Qdf id (.norm F H)=(QjN H id .ready none H[id]?).map fun H'=>(.c (.bool true),H'):=rfl
theorem QiT {id:Nat} {F:Fr} {H:Heap}:Qdf id (.ret F H)=(QjN H id .done (some .ret) H[id]?).map fun H'=>(.c (.bool false),H'):=rfl
theorem Qhv {id j:Nat} {F:Fr} {H:Heap}:Qdf id (.exit j F H)=(QjN H id .done (some (.exit j)) H[id]?).map fun H'=>(.c (.bool false),H'):=rfl
theorem QoU {F:Fr} {xs:List AV}:Qep F [] xs=F:=by cases xs<;>rfl
theorem QlG {n t:Nat} {l:Ass} {x:AV} {ts:List Tmp} {xs:List AV} (h:t<n):Qep (fr n l) (t::ts) (x::xs)=Qep (fr n ((t,x)::l)) ts xs:=by
 show Qep ((fr n l).set t x) ts xs=_
 rw[Qx0 h]
end
section
variable [Globals] {P:Program} {cx:Cx}
theorem QpW {n id:Nat}:AV.under n (.hmap id)=decide (id<n):=rfl
theorem QxS {n id:Nat}:AV.under n (.yld id)=decide (id<n):=rfl
theorem QpV {n:Nat} {vs:List AV}:AV.under n (.tup vs)=vs.all (AV.underA n):=rfl
theorem Q08 {n:Nat} {x:IV}:AV.underA n (.c x)=true:=rfl
theorem Qo8 {n id off:Nat}:AV.underA n (.ptr id off)=decide (id<n):=rfl
theorem Qnv {n id off len ext sz:Nat}:AV.underA n (.hsl id off len ext sz)=decide (id<n):=rfl
theorem Qnm {n:Nat}:AV.underA n .unk=true:=rfl
theorem Qp9 {n:Nat} {cs:List AV}:AV.underA n (.agg cs)=cs.all (AV.under0 n):=rfl
theorem Qlg {n id:Nat}:AV.underA n (.hmap id)=decide (id<n):=rfl
theorem Qni {n id:Nat}:AV.underA n (.yld id)=decide (id<n):=rfl
theorem QnW {n f:Nat} {a b:List AV}:AV.underA n (.clo f a b)=(a.all (AV.under1 n)&&b.all (AV.under1 n)):=rfl
theorem Qt7 {n f:Nat} {a b:List AV}:AV.under n (.clo f a b)=(a.all (AV.under1 n)&&b.all (AV.under1 n)):=rfl
theorem QzB {n:Nat} {x:IV}:AV.under1 n (.c x)=true:=rfl
theorem Qo3 {n id off:Nat}:AV.under1 n (.ptr id off)=decide (id<n):=rfl
theorem Qpw {n id:Nat}:AV.under1 n (.yld id)=decide (id<n):=rfl
theorem Q3k {n:Nat} {x:IV}:AV.underV n (.c x)=true:=rfl
theorem QpX {n id off:Nat}:AV.underV n (.ptr id off)=decide (id<n):=rfl
theorem Qog {n id off len ext sz:Nat}:AV.underV n (.hsl id off len ext sz)=decide (id<n):=rfl
theorem Qnn {n:Nat} {cs:List AV}:AV.underV n (.agg cs)=cs.all (AV.under0 n):=rfl
theorem Ql9 {n id:Nat}:AV.underV n (.hmap id)=decide (id<n):=rfl
theorem QoD {n f:Nat} {a b:List AV}:AV.underV n (.clo f a b)=(a.all (AV.under1 n)&&b.all (AV.under1 n)):=rfl
theorem QoK {n:Nat} {vs:List AV}:AV.underV n (.tup vs)=vs.all (AV.under n):=rfl
theorem Qp6 {n:Nat} {t:TypeId} {es:List (AV × AV)}:AObj.under n (.map t es)=es.all fun e=>e.1.under n&&e.2.under n:=rfl
theorem QkP {n:Nat}:AObj.under n .slot=true:=rfl
theorem Q2Z {m:Nat} {v:AV} {H:Heap}:trimV m (v,H)=if v.underV m=true∧(H.take m).all (AObj.under m)=true then (v,H.take m) else (v,H):=rfl
theorem QuL {f:Heap→Option (List AV × Heap)}:frz2 none f=none:=rfl
theorem Q1b {H:Heap} {id off:Nat}:frzV H (.ptr id off)=none:=rfl
theorem Qse {H:Heap} {id:Nat}:frzV H (.hmap id)=none:=rfl
theorem Qvl {id:Nat}:(AV.hmap id).pure=false:=rfl
theorem Qqn {id:Nat}:(AV.yld id).kcells=[.yld id]:=rfl
theorem QnX {f:FuncId} {a b:List AV}:(AV.clo f a b).kcells=[.clo f a b]:=rfl
theorem Qle {id:Nat}:(AV.hmap id).kcells=[.hmap id]:=rfl
theorem Qkm {id:Nat}:(AV.hmap id).isCell=true:=rfl
end
section
variable [Globals] {P:Program} {cx:Cx}
def Qzz (H:Heap) (id off ext:Nat) (new:List IV) (o:Option AObj):Option Heap :=
 match o with
 | some (.row false e cs)=>if cs.length=ext then (Qbh cs off new).map fun cs'=>H.set id (.row false e cs') else none
 | _=>none
theorem Qk9 {H:Heap} {id off ext:Nat} {new cs:List IV} {e:TypeId}:Qzz H id off ext new (some (.row false e cs))=if cs.length=ext then (Qbh cs off new).map fun cs'=>H.set id (.row false e cs') else none:=rfl
theorem QkV {H:Heap} {t:TypeId} {id off ext:Nat} {x:AV} (hs:Qb0 P t=some x.kcells.length) :
  QgU P H t (.eptr id off ext) x=(frzs H x.kcells).bind fun r=>Qzz r.2 id off ext r.1 r.2[id]?:=by
 unfold QgU
 rw[if_pos hs]
 simp only
 congr 1
 funext r
 unfold rowOf Qcd Qzz
 rcases r.2[id]? with _ | o
 ·rfl
 ·cases o with
  | row fz e cs =>
   simp only
   by_cases h:cs.length=ext
   ·cases fz<;>simp [h]
   ·cases fz<;>simp [h]
  | _=>rfl
end
section
variable [Globals] {P:Program} {cx:Cx}
theorem Q1s {vs:List AV} {H:Heap}:ans (some (.tup vs,H))=(Qbi H vs).map fun r=>.tup r.1:=by
 show ((Qbi H vs).map fun r=>(AV.tup r.1,r.2)).map _=_
 cases Qbi H vs<;>rfl
theorem Q2L {cs:List AV} {H:Heap}:ans (some (.agg cs,H))=(frzs H cs).map fun r=>.agg (r.1.map .c):=by
 show ((frzs H cs).map fun r=>(AV.agg (r.1.map .c),r.2)).map _=_
 cases frzs H cs<;>rfl
theorem Qxq {H:Heap} {sz id off len ext sz':Nat}:Qj7 H sz (.hsl id off len ext sz')=(rowOf H id ext).bind fun r=>if off+len * sz≤ext∧sz'=sz then some ((r.2.drop off).take (len * sz),len) else none:=rfl
theorem QzU {H:Heap} {sz len:Nat} {cells:List IV} {nl:Bool} {cap:Option Nat}:Qj7 H sz (.c (.slice cells len nl cap))=if cells.length=len * sz then some (cells,len) else none:=rfl
def lvO (H:Heap) (s sz n:Nat) (o:Option AObj):Option (IV × Heap) :=
 if n=0 then some (.slice [] 0 true (some 0),H) else
  match o with
  | some (.row _ t cs)=>if cs.length=n * sz then some (.slice cs n false none,H.set s (.row true t cs)) else none
  | _=>none
theorem Q6Z {H:Heap} {s sz n:Nat}:frz H (lv s sz n)=lvO H s sz n H[s]?:=by
 unfold lv lvO
 split
 ·rfl
 ·rw[QhW]
  unfold rowOf
  rcases h:H[s]? with _ | o
  ·rfl
  ·cases o with
   | row fz t cs =>
    simp only
    split
    ·rename_i hl
     simp only[Option.bind_some]
     rw[if_pos (by omega)]
     simp only[List.drop_zero]
     rw[← hl,List.take_length]
    ·rfl
   | _=>rfl
theorem QBO {H:Heap} {s sz n:Nat} {e:TypeId} {cells:List IV}:lvO H s sz n (some (lo e n cells))=if cells.length=n * sz then some (.slice cells n (decide (n=0)) (if n=0 then some 0 else none),if n=0 then H else H.set s (.row true e cells)) else (if n=0 then some (.slice [] 0 true (some 0),H) else none):=by
 unfold lvO lo
 by_cases hn:n=0
 ·subst hn
  simp only[if_true]
  split
  ·rename_i h
   have:cells=[]:=List.eq_nil_of_length_eq_zero (by simpa using h)
   subst this
   rfl
  ·rfl
 ·simp[hn]
theorem Q9M {H:Heap} {s sz n:Nat}:frzV H (lv s sz n)=(frz H (lv s sz n)).map fun r=>(.c r.1,r.2):=by unfold lv;split<;>rfl
theorem Q72 {H:Heap} {s sz n:Nat} {xs:List AV}:frzs H (lv s sz n::xs)=(frz H (lv s sz n)).bind fun r=>(frzs r.2 xs).bind fun q=>some (r.1::q.1,q.2):=rfl
theorem Q6M {s sz n:Nat} {H:Heap}:ans (some (lv s sz n,H))=(frz H (lv s sz n)).map fun r=>.c r.1:=by
 have:frzR H (lv s sz n)=(frz H (lv s sz n)).map fun r=>(.c r.1,r.2):=by unfold lv;split<;>rfl
 show (frzR H (lv s sz n)).map _=_
 rw[this]
 cases frz H (lv s sz n)<;>rfl
theorem QxT {s sz n m:Nat}:AV.underV m (lv s sz n)=(decide (n=0) || decide (s<m)):=by
 unfold lv;split
 ·rename_i h;simp [h];rfl
 ·rename_i h;simp [h];rfl
theorem QcN {e:TypeId} {n sz by_:Nat} {cells cs:List IV} {X:Heap} (hb:(n+1) * by_≤roomBytes) (hs:0<sz) (hl:cells.length=n * sz) :
  apO e sz by_ (some 0) (lv 0 sz n) (lo e n cells::X) (some (cs,1))=some (lv 0 sz (n+1),lo e (n+1) (cells++cs)::X) :=
 Qgq (by omega) hb hs rfl hl
end
theorem Qa1 (N:Nat) (f:Nat→Ass→Heap→Option Out) (Inv:Nat→Ass→Heap→Prop) (Post:Option Out→Prop)
  (hstep:∀ i k l H,i≤N→Inv i l H→Post (f (k+1) l H)∨∃ l' H',i<N∧f (k+1) l H=f k l' H'∧Inv (i+1) l' H') :
  ∀ n i k l H,i+n=N→n<k→Inv i l H→Post (f k l H):=by
 intro n
 induction n with
 | zero =>
  intro i k l H hi hk hI
  obtain⟨k,rfl⟩:∃ j,k=j+1:=⟨k-1,by omega⟩
  rcases hstep i k l H (by omega) hI with h | ⟨l',H',h,_⟩
  ·exact h
  ·omega
 | succ n ih =>
  intro i k l H hi hk hI
  obtain⟨k,rfl⟩:∃ j,k=j+1:=⟨k-1,by omega⟩
  rcases hstep i k l H (by omega) hI with h | ⟨l',H',_,h,hI'⟩
  ·exact h
  ·rw[h]
   exact ih (i+1) k l' H' (by omega) (by omega) hI'
theorem QAJ {n N i:Nat} {l:Ass} {H:Heap} (hi:i<N) (h:AV.under n (asc l i)=false):trim n (fr N l) H=H:=by
 unfold trim
 split
 ·rename_i hc
  have h1:AV.under n ((fr N l).t.get i)=true:=PT.all_get (p:=AV.under n) rfl _ hc.1 i
  rw[show (fr N l).t.get i=asc l i from QgQ hi] at h1
  rw[h1] at h
  cases h
 ·rfl
theorem Qa4 {m N:Nat} {l:Ass} {H G:Heap} (hm:H.length=m) (h1:(l.all fun e=>AV.under m e.2)=true) (h2:H.all (AObj.under m)=true):trim m (fr N l) (H++G)=H:=by
 subst hm
 rw[QgE h1 (by rw [List.take_left' rfl];exact h2),List.take_left' rfl]
section
variable [Globals] {P:Program}
def Q1k (call:List AV→Heap→Option (AV × Heap)) (sl ids:List Nat) (H:Heap) (a:Option (List AV)) (H0:Option Heap):Option (AV × Heap) :=
 a.bind fun a0=>H0.bind fun H0=>(call a0 H0).bind fun r =>
  let new:=(reach 64 r.2 (Qch 0 ids++r.1.ids) []).drop ids.length
  let p:=places H new.length sl H.length
  let Hp:=H++List.replicate p.2 .slot
  if Qcb (ids++p.1)=true∧Qcb (Qch 0 ids++new)=true∧Qdb Hp p.1=true then
   Qew Hp (Qch 0 ids++new) (ids++p.1) r
  else none
def QCC (call:List AV→Heap→Option (AV × Heap)) (sl:List Nat) (H:Heap) (args:List AV) (ids:List Nat):Option (AV × Heap) :=
 Q1k call sl ids H (QhS (QbE ids) args) (pick (QbE ids) H ids)
theorem QtI {call:List AV→Heap→Option (AV × Heap)} {sl ids:List Nat} {H:Heap} {args:List AV}:QCC call sl H args ids=Q1k call sl ids H (QhS (QbE ids) args) (pick (QbE ids) H ids):=rfl
def Q6C (H:Heap) (ids new:List Nat) (v:AV) (H1:Heap) (p:List Nat × Nat):Option (AV × Heap) :=
  if Qcb (ids++p.1)=true∧Qcb (Qch 0 ids++new)=true∧Qdb (H++List.replicate p.2 .slot) p.1=true then
   Qew (H++List.replicate p.2 .slot) (Qch 0 ids++new) (ids++p.1) (v,H1)
  else none
def Q9U (H:Heap) (sl ids:List Nat) (v:AV) (H1:Heap) (new:List Nat):Option (AV × Heap):=Q6C H ids new v H1 (places H new.length sl H.length)
def frameC (H:Heap) (sl ids:List Nat) (x:Option (AV × Heap)):Option (AV × Heap) :=
 match x with
 | some (v,H1)=>Q9U H sl ids v H1 ((reach 64 H1 (Qch 0 ids++v.ids) []).drop ids.length)
 | none=>none
theorem Qk6 {call:List AV→Heap→Option (AV × Heap)} {sl ids:List Nat} {H H0:Heap} {a0:List AV}:Q1k call sl ids H (some a0) (some H0)=frameC H sl ids (call a0 H0):=by
 unfold Q1k frameC
 simp only[Option.bind_some]
 rcases call a0 H0 with _ | ⟨v,H1⟩<;>rfl
theorem Ql6 {sl ids:List Nat} {H H1:Heap} {v:AV}:frameC H sl ids (some (v,H1))=Q9U H sl ids v H1 ((reach 64 H1 (Qch 0 ids++v.ids) []).drop ids.length):=rfl
theorem Qly {sl ids:List Nat} {H:Heap}:frameC H sl ids none=none:=rfl
theorem Qwc {sl ids new:List Nat} {H H1:Heap} {v:AV}:Q9U H sl ids v H1 new=Q6C H ids new v H1 (places H new.length sl H.length):=rfl
theorem Qwe {ids new a:List Nat} {n:Nat} {H H1:Heap} {v:AV}:Q6C H ids new v H1 (a,n)=if Qcb (ids++a)=true∧Qcb (Qch 0 ids++new)=true∧Qdb (H++List.replicate n .slot) a=true then
   Qew (H++List.replicate n .slot) (Qch 0 ids++new) (ids++a) (v,H1)
  else none:=rfl
def QBY (H:Heap) (L:List Nat) (os:Option Heap) (v:Option AV):Option (AV × Heap):=os.bind fun os=>v.map fun v=>(v,Qc0 H L os)
theorem Qjk {H H1:Heap} {L0 L:List Nat} {v:AV}:Qew H L0 L (v,H1)=QBY H L (pick (through L0 L) H1 L0) (v.ren (through L0 L)):=rfl
theorem Qk4 {H os:Heap} {L:List Nat} {v:AV}:QBY H L (some os) (some v)=some (v,Qc0 H L os):=rfl
theorem Qo7 {tab:Tab} {kf f r i:Nat} {ar:Option Nat} {g:FuncId} {args:List AV} {H:Heap} (hf:inB tab.frames g=true) :
  QbP (cxG P (Qac tab) kf f ar) r i g args H=QCC (fun a H0=>Qav P (Qac tab) kf (.fn g) a H0) (Qan tab.fslots f r i) H args (reach 64 H (Qrs args) []):=by
 unfold QbP
 rw[if_pos (show (cxG P (Qac tab) kf f ar).hints.framed g=true from hf)]
 rfl
theorem Qwf {tab:Tab} {kf f r i:Nat} {ar:Option Nat} {g:FuncId} {args:List AV} (hf:inB tab.frames g=true) :
  Qr5 (cxG P (Qac tab) kf f ar) r i (.c (.fn g)) args=none:=if_neg fun h=>by
 have:=h.2.2.2
 rw[show (cxG P (Qac tab) kf f ar).hints.framed g=true from hf] at this
 cases this
end
theorem QvL {k:Nat} {H:Heap} {seen:List Nat}:reach (k+1) H [] seen=seen:=rfl
theorem Qox {k i:Nat} {H:Heap} {todo seen:List Nat}:reach (k+1) H (i::todo) seen=if inB seen i=true then reach k H todo seen else reach k H (todo++Qky H[i]?) (seen++[i]):=rfl
theorem Q6R {g:Nat}:inB [] g=false:=rfl
theorem QzK {a g:Nat} {l:List Nat}:inB (a::l) g=((a == g) || inB l g):=rfl
theorem Qt2:Qj3 []=[]:=rfl
theorem QpB {x:AV} {xs:List AV}:Qj3 (x::xs)=x.ids1++Qj3 xs:=rfl
theorem QuO:Qrb []=[]:=rfl
theorem Qqh {x:AV} {xs:List AV}:Qrb (x::xs)=x.ids0++Qrb xs:=rfl
theorem Qu5:Qrs []=[]:=rfl
theorem Qp5 {x:AV} {xs:List AV}:Qrs (x::xs)=x.idsA++Qrs xs:=rfl
section
variable {x:IV} {id off len ext sz f:Nat} {a b cs vs:List AV}
theorem QDr:(AV.c x).ids1=[]:=rfl
theorem Q4J:(AV.ptr id off).ids1=[id]:=rfl
theorem Qx6:(AV.eptr id off ext).ids1=[id]:=rfl
theorem Q0l:(AV.hsl id off len ext sz).ids1=[id]:=rfl
theorem Qwv:(AV.hmap id).ids1=[id]:=rfl
theorem QCd:(AV.c x).ids0=[]:=rfl
theorem Q0p:(AV.ptr id off).ids0=[id]:=rfl
theorem QtQ:(AV.eptr id off ext).ids0=[id]:=rfl
theorem QzS:(AV.hsl id off len ext sz).ids0=[id]:=rfl
theorem Qvb:(AV.hmap id).ids0=[id]:=rfl
theorem Qz7:(AV.clo f a b).ids0=Qj3 a++Qj3 b:=rfl
theorem QCn:(AV.c x).idsA=[]:=rfl
theorem Q2d:(AV.ptr id off).idsA=[id]:=rfl
theorem Qvz:(AV.eptr id off ext).idsA=[id]:=rfl
theorem Q4B:(AV.hsl id off len ext sz).idsA=[id]:=rfl
theorem Qxt:(AV.hmap id).idsA=[id]:=rfl
theorem Q1c:(AV.clo f a b).idsA=Qj3 a++Qj3 b:=rfl
theorem Q0Q:(AV.agg cs).idsA=Qrb cs:=rfl
theorem QFB:(AV.c x).ids=[]:=rfl
theorem Q6O:(AV.ptr id off).ids=[id]:=rfl
theorem Q9V:(AV.hsl id off len ext sz).ids=[id]:=rfl
theorem Q0J:(AV.hmap id).ids=[id]:=rfl
theorem QAi:(AV.clo f a b).ids=Qj3 a++Qj3 b:=rfl
theorem Q8C:(AV.agg cs).ids=Qrb cs:=rfl
theorem Q8P:(AV.tup vs).ids=Qrs vs:=rfl
theorem QiN {t:TypeId}:Qky (some (.cells t cs))=Qrb cs:=rfl
theorem Qq4 {fz:Bool} {t:TypeId} {cs:List IV}:Qky (some (.row fz t cs))=[]:=rfl
theorem Qqe {t:TypeId} {es:List (AV × AV)}:Qky (some (.map t es))=Qi7 es:=rfl
theorem QlP:Qky (some .dead)=[]:=rfl
theorem Qlb:Qky (some .slot)=[]:=rfl
theorem QqC:Qi7 []=[]:=rfl
variable {ρ:Nat→Option Nat}
theorem QDc:(AV.c x).ren1 ρ=some (.c x):=rfl
theorem QzJ:(AV.ptr id off).ren1 ρ=(ρ id).map fun j=>.ptr j off:=rfl
theorem QtZ:(AV.eptr id off ext).ren1 ρ=(ρ id).map fun j=>.eptr j off ext:=rfl
theorem Q4E:(AV.hsl id off len ext sz).ren1 ρ=(ρ id).map fun j=>.hsl j off len ext sz:=rfl
theorem QuR:(AV.hmap id).ren1 ρ=(ρ id).map fun j=>.hmap j:=rfl
theorem QCv:(AV.c x).ren0 ρ=some (.c x):=rfl
theorem Q1U:(AV.ptr id off).ren0 ρ=(ρ id).map fun j=>.ptr j off:=rfl
theorem Qxf:(AV.eptr id off ext).ren0 ρ=(ρ id).map fun j=>.eptr j off ext:=rfl
theorem Q3i:(AV.hsl id off len ext sz).ren0 ρ=(ρ id).map fun j=>.hsl j off len ext sz:=rfl
theorem Qxc:(AV.hmap id).ren0 ρ=(ρ id).map fun j=>.hmap j:=rfl
theorem Q14:(AV.clo f a b).ren0 ρ=(Qh6 ρ a).bind fun a'=>(Qh6 ρ b).map fun b'=>.clo f a' b':=rfl
theorem QBE:(AV.c x).renA ρ=some (.c x):=rfl
theorem Q2B:AV.unk.renA ρ=some .unk:=rfl
theorem Q2Q:(AV.ptr id off).renA ρ=(ρ id).map fun j=>.ptr j off:=rfl
theorem Qt5:(AV.eptr id off ext).renA ρ=(ρ id).map fun j=>.eptr j off ext:=rfl
theorem Qz5:(AV.hsl id off len ext sz).renA ρ=(ρ id).map fun j=>.hsl j off len ext sz:=rfl
theorem Qvc:(AV.hmap id).renA ρ=(ρ id).map fun j=>.hmap j:=rfl
theorem Q21:(AV.clo f a b).renA ρ=(Qh6 ρ a).bind fun a'=>(Qh6 ρ b).map fun b'=>.clo f a' b':=rfl
theorem QzC:(AV.agg cs).renA ρ=(Qk3 ρ cs).map .agg:=rfl
theorem QHi:(AV.c x).ren ρ=some (.c x):=rfl
theorem Q9I:AV.unk.ren ρ=some .unk:=rfl
theorem Q7p:(AV.ptr id off).ren ρ=(ρ id).map fun j=>.ptr j off:=rfl
theorem Q69:(AV.hsl id off len ext sz).ren ρ=(ρ id).map fun j=>.hsl j off len ext sz:=rfl
theorem Q4c:(AV.hmap id).ren ρ=(ρ id).map fun j=>.hmap j:=rfl
theorem Q9Y:(AV.clo f a b).ren ρ=(Qh6 ρ a).bind fun a'=>(Qh6 ρ b).map fun b'=>.clo f a' b':=rfl
theorem Q7g:(AV.agg cs).ren ρ=(Qk3 ρ cs).map .agg:=rfl
theorem QAl:(AV.tup vs).ren ρ=(QhS ρ vs).map .tup:=rfl
theorem QuT:Qh6 ρ []=some []:=rfl
theorem QoO {x:AV} {xs:List AV}:Qh6 ρ (x::xs)=(x.ren1 ρ).bind fun y=>(Qh6 ρ xs).map fun ys=>y::ys:=rfl
theorem QsY:Qk3 ρ []=some []:=rfl
theorem Qqw {x:AV} {xs:List AV}:Qk3 ρ (x::xs)=(x.ren0 ρ).bind fun y=>(Qk3 ρ xs).map fun ys=>y::ys:=rfl
theorem QwI:QhS ρ []=some []:=rfl
theorem QpL {x:AV} {xs:List AV}:QhS ρ (x::xs)=(x.renA ρ).bind fun y=>(QhS ρ xs).map fun ys=>y::ys:=rfl
theorem Qxb:QmN ρ []=some []:=rfl
theorem QoQ {t:TypeId}:(AObj.cells t cs).ren ρ=(Qk3 ρ cs).map (.cells t):=rfl
theorem Q06 {fz:Bool} {t:TypeId} {cs:List IV}:(AObj.row fz t cs).ren ρ=some (.row fz t cs):=rfl
theorem Q0O {t:TypeId} {es:List (AV × AV)}:(AObj.map t es).ren ρ=(QmN ρ es).map (.map t):=rfl
theorem Qxa:AObj.dead.ren ρ=some .dead:=rfl
theorem Qv8:AObj.slot.ren ρ=some .slot:=rfl
end
theorem QtB {i:Nat}:QbE [] i=none:=rfl
theorem Qoh {x i:Nat} {xs:List Nat}:QbE (x::xs) i=if i=x then some 0 else (QbE xs i).map (· + 1):=rfl
theorem Q3x {ρ:Nat→Option Nat} {H:Heap}:pick ρ H []=some []:=rfl
def QGS (o:Option AObj) (ρ:Nat→Option Nat) (rest:Option Heap):Option Heap :=
 match o with
 | some o=>(o.ren ρ).bind fun o'=>rest.map fun os=>o' :: os
 | none=>none
theorem Qp1 {o:AObj} {ρ:Nat→Option Nat} {rest:Option Heap}:QGS (some o) ρ rest=(o.ren ρ).bind fun o'=>rest.map fun os=>o' :: os:=rfl
theorem Qvs {ρ:Nat→Option Nat} {H:Heap} {i:Nat} {is:List Nat}:pick ρ H (i::is)=QGS H[i]? ρ (pick ρ H is):=by
 rw[pick]
 cases H[i]?<;>rfl
theorem Qmz {α:Type} {H os:List α}:Qc0 H [] os=H:=by cases os<;>rfl
theorem Qit {α:Type} {H os:List α} {i:Nat} {is:List Nat} {o:α}:Qc0 H (i::is) (o::os)=(Qc0 H is os).set i o:=rfl
theorem Qpq:Qcb []=true:=rfl
theorem Qld {x:Nat} {xs:List Nat}:Qcb (x::xs)=(!inB xs x&&Qcb xs):=rfl
theorem Qk5:Qjb (some .slot)=true:=rfl
theorem Qoj {fz:Bool} {t:TypeId} {cs:List IV}:Qjb (some (.row fz t cs))=false:=rfl
theorem QiG {t:TypeId} {cs:List AV}:Qjb (some (.cells t cs))=false:=rfl
theorem Qlq {H:Heap} {sl:List Nat} {nx:Nat}:places H 0 sl nx=([],0):=rfl
theorem QpK {H:Heap} {c nx:Nat}:places H (c+1) [] nx=(nx::(places H c [] (nx+1)).1,(places H c [] (nx+1)).2+1):=rfl
theorem Qkn {H:Heap} {c s nx:Nat} {sl:List Nat}:places H (c+1) (s::sl) nx=if Qjb H[s]?=true then (s::(places H c sl nx).1,(places H c sl nx).2) else (nx::(places H c sl (nx+1)).1,(places H c sl (nx+1)).2+1):=rfl
theorem QiL {H:Heap}:Qdb H []=true:=rfl
theorem Qhr {H:Heap} {i:Nat} {is:List Nat}:Qdb H (i::is)=(Qjb H[i]?&&Qdb H is):=rfl
theorem QoJ {a b:List Nat} {j:Nat}:through a b j=(QbE a j).bind fun p=>b[p]?:=rfl
theorem Qm1 {α:Type} {i:Nat}:Qch i ([]:List α)=[]:=rfl
theorem QiQ {α:Type} {i:Nat} {x:α} {l:List α}:Qch i (x::l)=i::Qch (i+1) l:=rfl
theorem Q47 {o:AObj}:List.replicate 0 o=[]:=rfl
theorem Q3T {o:AObj} {n:Nat}:List.replicate (n+1) o=o::List.replicate n o:=rfl
theorem J {a b c d e f g h:Prop} (q:a) (r:b) (s:c) (t:d) (u:e) (v:f) (w:g) (x:h):a∧b∧c∧d∧e∧f∧g∧h:=⟨q,r,s,t,u,v,w,x⟩
theorem EVb:type_of% (J (J (J @Qiu @Qhe @Qgn @QeK @Qhb @QfY @QiB @Qho) (J @Qgm @QpZ @Qq5 @Qwx @Qop @Ql1 @Qkf @Qqt) (J @Qml @QsU @QwE @Qlu @Qj1 @Qjd @Qjy @Qn4) (J @Qo1 @Qx9 @Qu3 @QlL @QiU @QkG @Qi4 @Q2n) (J @Qps @Qmb @QsJ @QtL @Q0R @Qsp @Qwb @QxR) (J @QlX @Quv @Qor @QuJ @Qhp @Qo2 @Qvt @QiP) (J @Qgf @Qpa @Qgb @Qqo @Qpv @QpP @Qjn @QiX) (J @QgH @QnL @Q1D @QoS @Qtw @Qgd @QfZ @Qkw)) (J (J @QlU @Qvm @QoV @Qf4 @Q3M @QjZ @QtR @Qtl) (J @Qll @Qir @QfX @Qhw @QeU @Q4I @Q4k @Q3h) (J @Qtd @QsB @Qpx @Q0o @Q0j @QwF @Qwi @QgQ) (J @Qkq @Qpo @QkH @Qi8 @QlF @Qip @Qi3 @QiZ) (J @Qiw @Q7K @Q7y @Q8V @QAt @Q97 @Q8z @Q1Q) (J @Q30 @Q3J @Q1g @Q09 @Q0u @Q6X @Q9t @Qjv) (J @QlW @Q3t @Q34 @QuV @Qoq @QiJ @Qh2 @Qln) (J @Qjp @Q8w @QoC @Qui @Option.bind_some.{0,0} @Option.isSome_some.{0} @Q3e @QsH)) (J (J @Q8S @Q3W @Q7o @QFr @Q1s @Q2L @Qxq @QzU) (J @Q6Z @QBO @Q9M @Q72 @Q6M @QxT @Q7c @Qs8) (J @Q0h @Qwn @QnV @Qoc @Qol @Qtj @QuL @Qlo) (J @Q2U @QjC @QjJ @Q1b @Qse @Q3V @Quu @Q3Q) (J @QhW @QuB @QlC @Qkd @Qdw @Qcv @Qpp @Qu8) (J @QlV @QcI @Qpu @Qcg @QnY @QrZ @Q35 @QuW) (J @Q2g @Qvl @Bool.and_false @Bool.false_and @QCS @Q3g @Q7A @QCB) (J @Bool.false_or @Bool.or_false @Bool.or_true @Bool.true_or @Qoz @Qwh @Qto @QBC)) (J (J @Q49 @QxM @Q6B @Q42 @QxN @Option.getD_some.{0} @Qc8 @QgE) (J @Q8O @Qxg @Qsw @QwH @Qvx @QpW @QxS @QpV) (J @Qt7 @Q08 @Qo8 @Qnv @Qnm @Qp9 @Qlg @Qni) (J @QnW @Qx1 @Q10 @Qnc @QmX @QzB @Qo3 @Qpw) (J @Q3k @QpX @Qog @Qnn @Ql9 @QoD @QoK @Qi9) (J @Qng @Qp6 @QkP @Qcz @Qda @Qvk @QcA @Q6g) (J @Qtk @Q25 @Q2k @QhC @Q2Z @QsF @QzN @Qm4) (J @QiD @QoI @Qw4 @Q0L @QsC @Qlw @Qtc @Qhf)) (J (J @QiT @Qhv @Qmj @QoU @QlG @Qki @Qjs @Qeb) (J @Qjl @QgK @QgV @Qht @Qgp @Q2b @Qqb @QhM) (J @QnH @Qle @Qqn @QnX @Q0f @QpO @Qqf @Qkm) (J @Qoe @QpF @Q79 @QtM @Qow @QkV @Qk9 @Qjh) (J @QiI @List.all_cons.{0} @List.all_nil.{0} @Bool.and_true @Bool.true_and @List.nil_append.{0} @List.cons_append.{0} @List.drop_zero.{0}) (J @List.take_zero.{0} @List.drop_succ_cons.{0} @List.take_succ_cons.{0} @List.take_nil.{0} @List.drop_nil.{0} @List.set_cons_zero.{0} @List.set_cons_succ.{0} @Nat.zero_add) (J @Nat.add_zero @Nat.zero_mul @List.length_cons.{0} @List.length_nil.{0} @List.map_cons.{0,0} @List.map_nil.{0,0} @List.getElem?_cons_zero.{0} @List.getElem?_cons_succ.{0}) (J @List.getElem?_toArray.{0} @List.size_toArray.{0} @Nat.lt_irrefl @Nat.mul_one @Int.toNat_natCast @decide_eq_true_eq @decide_true @decide_false)) (J (J @beq_self_eq_true.{0} @Bool.true_beq @Bool.false_beq @Bool.false_eq_true @Bool.true_eq_false @Bool.not_true @Bool.not_false @if_true.{1}) (J @if_false.{1} @ite_not.{1} @ne_eq.{1} @not_true @not_false_eq_true @Option.map_some.{0,0} @Option.map_none.{0,0} @Int.cast_ofNat_Int) (J @true_and @and_true @and_self @wrap64 @Qo7 @QtI @Qk6 @Ql6) (J @Qly @Qwc @Qwe @Qjk @Qk4 @QvL @Qox @Q6R) (J @QzK @Qt2 @QpB @QuO @Qqh @Qu5 @Qp5 @QDr) (J @Q4J @Qx6 @Q0l @Qwv @QCd @Q0p @QtQ @QzS) (J @Qvb @Qz7 @QCn @Q2d @Qvz @Q4B @Qxt @Q1c) (J @Q0Q @QFB @Q6O @Q9V @Q0J @QAi @Q8C @Q8P)) (J (J @QiN @Qq4 @Qqe @QlP @Qlb @QqC @QDc @QzJ) (J @QtZ @Q4E @QuR @QCv @Q1U @Qxf @Q3i @Qxc) (J @Q14 @QBE @Q2B @Q2Q @Qt5 @Qz5 @Qvc @Q21) (J @QzC @QHi @Q9I @Q7p @Q69 @Q4c @Q9Y @Q7g) (J @QAl @QuT @QoO @QsY @Qqw @QwI @QpL @Qxb) (J @QoQ @Q06 @Q0O @Qxa @Qv8 @QtB @Qoh @Q3x) (J @Qvs @Qp1 @Qmz @Qit @Qpq @Qld @Qk5 @Qoj) (J @QiG @Qlq @QpK @Qkn @QiL @Qhr @QoJ @Qm1)) (And.intro @QiQ (And.intro @Q47 @Q3T))) :=
 (J (J (J @Qiu @Qhe @Qgn @QeK @Qhb @QfY @QiB @Qho) (J @Qgm @QpZ @Qq5 @Qwx @Qop @Ql1 @Qkf @Qqt) (J @Qml @QsU @QwE @Qlu @Qj1 @Qjd @Qjy @Qn4) (J @Qo1 @Qx9 @Qu3 @QlL @QiU @QkG @Qi4 @Q2n) (J @Qps @Qmb @QsJ @QtL @Q0R @Qsp @Qwb @QxR) (J @QlX @Quv @Qor @QuJ @Qhp @Qo2 @Qvt @QiP) (J @Qgf @Qpa @Qgb @Qqo @Qpv @QpP @Qjn @QiX) (J @QgH @QnL @Q1D @QoS @Qtw @Qgd @QfZ @Qkw)) (J (J @QlU @Qvm @QoV @Qf4 @Q3M @QjZ @QtR @Qtl) (J @Qll @Qir @QfX @Qhw @QeU @Q4I @Q4k @Q3h) (J @Qtd @QsB @Qpx @Q0o @Q0j @QwF @Qwi @QgQ) (J @Qkq @Qpo @QkH @Qi8 @QlF @Qip @Qi3 @QiZ) (J @Qiw @Q7K @Q7y @Q8V @QAt @Q97 @Q8z @Q1Q) (J @Q30 @Q3J @Q1g @Q09 @Q0u @Q6X @Q9t @Qjv) (J @QlW @Q3t @Q34 @QuV @Qoq @QiJ @Qh2 @Qln) (J @Qjp @Q8w @QoC @Qui @Option.bind_some.{0,0} @Option.isSome_some.{0} @Q3e @QsH)) (J (J @Q8S @Q3W @Q7o @QFr @Q1s @Q2L @Qxq @QzU) (J @Q6Z @QBO @Q9M @Q72 @Q6M @QxT @Q7c @Qs8) (J @Q0h @Qwn @QnV @Qoc @Qol @Qtj @QuL @Qlo) (J @Q2U @QjC @QjJ @Q1b @Qse @Q3V @Quu @Q3Q) (J @QhW @QuB @QlC @Qkd @Qdw @Qcv @Qpp @Qu8) (J @QlV @QcI @Qpu @Qcg @QnY @QrZ @Q35 @QuW) (J @Q2g @Qvl @Bool.and_false @Bool.false_and @QCS @Q3g @Q7A @QCB) (J @Bool.false_or @Bool.or_false @Bool.or_true @Bool.true_or @Qoz @Qwh @Qto @QBC)) (J (J @Q49 @QxM @Q6B @Q42 @QxN @Option.getD_some.{0} @Qc8 @QgE) (J @Q8O @Qxg @Qsw @QwH @Qvx @QpW @QxS @QpV) (J @Qt7 @Q08 @Qo8 @Qnv @Qnm @Qp9 @Qlg @Qni) (J @QnW @Qx1 @Q10 @Qnc @QmX @QzB @Qo3 @Qpw) (J @Q3k @QpX @Qog @Qnn @Ql9 @QoD @QoK @Qi9) (J @Qng @Qp6 @QkP @Qcz @Qda @Qvk @QcA @Q6g) (J @Qtk @Q25 @Q2k @QhC @Q2Z @QsF @QzN @Qm4) (J @QiD @QoI @Qw4 @Q0L @QsC @Qlw @Qtc @Qhf)) (J (J @QiT @Qhv @Qmj @QoU @QlG @Qki @Qjs @Qeb) (J @Qjl @QgK @QgV @Qht @Qgp @Q2b @Qqb @QhM) (J @QnH @Qle @Qqn @QnX @Q0f @QpO @Qqf @Qkm) (J @Qoe @QpF @Q79 @QtM @Qow @QkV @Qk9 @Qjh) (J @QiI @List.all_cons.{0} @List.all_nil.{0} @Bool.and_true @Bool.true_and @List.nil_append.{0} @List.cons_append.{0} @List.drop_zero.{0}) (J @List.take_zero.{0} @List.drop_succ_cons.{0} @List.take_succ_cons.{0} @List.take_nil.{0} @List.drop_nil.{0} @List.set_cons_zero.{0} @List.set_cons_succ.{0} @Nat.zero_add) (J @Nat.add_zero @Nat.zero_mul @List.length_cons.{0} @List.length_nil.{0} @List.map_cons.{0,0} @List.map_nil.{0,0} @List.getElem?_cons_zero.{0} @List.getElem?_cons_succ.{0}) (J @List.getElem?_toArray.{0} @List.size_toArray.{0} @Nat.lt_irrefl @Nat.mul_one @Int.toNat_natCast @decide_eq_true_eq @decide_true @decide_false)) (J (J @beq_self_eq_true.{0} @Bool.true_beq @Bool.false_beq @Bool.false_eq_true @Bool.true_eq_false @Bool.not_true @Bool.not_false @if_true.{1}) (J @if_false.{1} @ite_not.{1} @ne_eq.{1} @not_true @not_false_eq_true @Option.map_some.{0,0} @Option.map_none.{0,0} @Int.cast_ofNat_Int) (J @true_and @and_true @and_self @wrap64 @Qo7 @QtI @Qk6 @Ql6) (J @Qly @Qwc @Qwe @Qjk @Qk4 @QvL @Qox @Q6R) (J @QzK @Qt2 @QpB @QuO @Qqh @Qu5 @Qp5 @QDr) (J @Q4J @Qx6 @Q0l @Qwv @QCd @Q0p @QtQ @QzS) (J @Qvb @Qz7 @QCn @Q2d @Qvz @Q4B @Qxt @Q1c) (J @Q0Q @QFB @Q6O @Q9V @Q0J @QAi @Q8C @Q8P)) (J (J @QiN @Qq4 @Qqe @QlP @Qlb @QqC @QDc @QzJ) (J @QtZ @Q4E @QuR @QCv @Q1U @Qxf @Q3i @Qxc) (J @Q14 @QBE @Q2B @Q2Q @Qt5 @Qz5 @Qvc @Q21) (J @QzC @QHi @Q9I @Q7p @Q69 @Q4c @Q9Y @Q7g) (J @QAl @QuT @QoO @QsY @Qqw @QwI @QpL @Qxb) (J @QoQ @Q06 @Q0O @Qxa @Qv8 @QtB @Qoh @Q3x) (J @Qvs @Qp1 @Qmz @Qit @Qpq @Qld @Qk5 @Qoj) (J @QiG @Qlq @QpK @Qkn @QiL @Qhr @QoJ @Qm1)) (And.intro @QiQ (And.intro @Q47 @Q3T)))
theorem EVc:type_of% (And.intro @Qq7 (And.intro @QlZ @Qth)) :=
 (And.intro @Qq7 (And.intro @QlZ @Qth))
theorem EVd:type_of% (And.intro (J (J @Qil @Qpe @QnS @QoF @Qo5 @QpH @Q4r @Qoy) (J @Qkj @QvR @Qqy @QkC @Qiy @QwQ @Qmc @QsW) (J @QuG @QgW @Qqa @Qwq @Qio @QfW @Qqr @Qgo) (J @Qnb @Qom @Qnk @QiE @Qhg @Q2m @Qkh @Qws) (J @Qmt @Qim @Qgk @Q1z @Qz6 @Q4t @QgY @Qf3) (J @QvN @Qob @Q0B @Qp8 @Qga @QeZ @Qou @Q3F) (J @Qnt @Qgj @Qmm @QvT @QiM @Qgi @Qh5 @Qff) (J @Q7h @QsA @Qf5 @Qs5 @Qvn @Qcr @Qwf @QxQ)) (And.intro (J @Qsk @Qn9 @Qjq @Qnj @Qi0 @Qeq @QkB @Qgh) (And.intro (J @QeD @Qfe @Qei @Qxk @Qin @Qjx @Qhl @QgP) (And.intro (J @QsO @Qqj @Qn3 @Qqm @QwO @Qlt @QlH @Qqd) (And.intro (J @Qje @QgT @QiC @Qhc @QiO @Q02 @QxI @QwN) (And.intro (J @QnD @Qxd @QuK @Q0t @AV.eqb_self @Nat.testBit_zero @Nat.testBit_eq_decide_div_mod_eq @List.getD_cons_zero.{0}) @List.getD_cons_succ.{0})))))) :=
 (And.intro (J (J @Qil @Qpe @QnS @QoF @Qo5 @QpH @Q4r @Qoy) (J @Qkj @QvR @Qqy @QkC @Qiy @QwQ @Qmc @QsW) (J @QuG @QgW @Qqa @Qwq @Qio @QfW @Qqr @Qgo) (J @Qnb @Qom @Qnk @QiE @Qhg @Q2m @Qkh @Qws) (J @Qmt @Qim @Qgk @Q1z @Qz6 @Q4t @QgY @Qf3) (J @QvN @Qob @Q0B @Qp8 @Qga @QeZ @Qou @Q3F) (J @Qnt @Qgj @Qmm @QvT @QiM @Qgi @Qh5 @Qff) (J @Q7h @QsA @Qf5 @Qs5 @Qvn @Qcr @Qwf @QxQ)) (And.intro (J @Qsk @Qn9 @Qjq @Qnj @Qi0 @Qeq @QkB @Qgh) (And.intro (J @QeD @Qfe @Qei @Qxk @Qin @Qjx @Qhl @QgP) (And.intro (J @QsO @Qqj @Qn3 @Qqm @QwO @Qlt @QlH @Qqd) (And.intro (J @Qje @QgT @QiC @Qhc @QiO @Q02 @QxI @QwN) (And.intro (J @QnD @Qxd @QuK @Q0t @AV.eqb_self @Nat.testBit_zero @Nat.testBit_eq_decide_div_mod_eq @List.getD_cons_zero.{0}) @List.getD_cons_succ.{0}))))))
end Go.Ab
