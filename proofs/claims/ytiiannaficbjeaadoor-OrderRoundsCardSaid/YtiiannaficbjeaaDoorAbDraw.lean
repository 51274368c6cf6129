/- A part of the proof: an interpreter on abstract values, proved right for every program; no condition. -/
import Derived.Test.YtiiannaficbjeaaDoorAbEval
namespace Go.Ab
set_option linter.unusedVariables false
set_option linter.unusedSimpArgs false
set_option linter.unusedSectionVars false
mutual
def IV.eqb:IV→IV→Bool
 | .bool a,.bool b=>a == b
 | .int k a,.int k' b=>decide (k=k')&&decide (a=b)
 | .str a,.str b=>decide (a.data.toList=b.data.toList)
 | .slice c l n k,.slice c' l' n' k'=>IV.eqbs c c'&&decide (l=l')&&n == n'&&decide (k=k')
 | .iptr c o,.iptr c' o'=>IV.eqbs c c'&&decide (o=o')
 | .nilp,.nilp=>true
 | .nilmap,.nilmap=>true
 | .nilfn,.nilfn=>true
 | .niliface,.niliface=>true
 | .fn f,.fn g=>decide (f=g)
 | _,_=>false
def IV.eqbs:List IV→List IV→Bool
 | [],[]=>true
 | x::xs,y::ys=>IV.eqb x y&&IV.eqbs xs ys
 | _,_=>false
end
mutual
theorem IV.eq_of_eqb:∀ (x y:IV),IV.eqb x y=true→x=y
 | .bool a,y,h=>by cases y<;>simp_all [IV.eqb]
 | .int k a,y,h=>by cases y<;>simp_all [IV.eqb]
 | .str a,y,h=>by
  cases y<;>simp [IV.eqb] at h
  rename_i b
  cases a;cases b
  simp_all
 | .slice c l n k,y,h=>by
  cases y<;>simp [IV.eqb] at h
  rename_i c' l' n' k'
  obtain⟨⟨⟨h1,h2⟩,h3⟩,h4⟩:=h
  rw[IV.eqs_of_eqbs c c' h1,h2,h3,h4]
 | .iptr c o,y,h=>by
  cases y<;>simp [IV.eqb] at h
  rename_i c' l'
  rw[IV.eqs_of_eqbs c c' h.1,h.2]
 | .nilp,y,h=>by cases y<;>simp_all [IV.eqb]
 | .nilmap,y,h=>by cases y<;>simp_all [IV.eqb]
 | .nilfn,y,h=>by cases y<;>simp_all [IV.eqb]
 | .niliface,y,h=>by cases y<;>simp_all [IV.eqb]
 | .fn f,y,h=>by cases y<;>simp_all [IV.eqb]
theorem IV.eqs_of_eqbs:∀ (xs ys:List IV),IV.eqbs xs ys=true→xs=ys
 | [],ys,h=>by cases ys<;>simp_all [IV.eqbs]
 | x::xs,ys,h=>by
  cases ys with
  | nil=>simp [IV.eqbs] at h
  | cons y ys =>
   simp[IV.eqbs] at h
   rw[IV.eq_of_eqb x y h.1,IV.eqs_of_eqbs xs ys h.2]
end
mutual
@[simp] theorem IV.eqb_self:∀ (x:IV),IV.eqb x x=true
 | .bool a=>by simp [IV.eqb]
 | .int k a=>by simp [IV.eqb]
 | .str a=>by simp [IV.eqb]
 | .slice c l n k=>by simp [IV.eqb,IV.eqbs_self c]
 | .iptr c o=>by simp [IV.eqb,IV.eqbs_self c]
 | .nilp=>by simp [IV.eqb]
 | .nilmap=>by simp [IV.eqb]
 | .nilfn=>by simp [IV.eqb]
 | .niliface=>by simp [IV.eqb]
 | .fn f=>by simp [IV.eqb]
@[simp] theorem IV.eqbs_self:∀ (xs:List IV),IV.eqbs xs xs=true
 | []=>by simp [IV.eqbs]
 | x::xs=>by simp [IV.eqbs,IV.eqb_self x,IV.eqbs_self xs]
end
mutual
def AV.eqb:AV→AV→Bool
 | .c x,.c y=>IV.eqb x y
 | .ptr a b,.ptr a' b'=>decide (a=a')&&decide (b=b')
 | .eptr a b d,.eptr a' b' d'=>decide (a=a')&&decide (b=b')&&decide (d=d')
 | .hsl a b z d e,.hsl a' b' z' d' e'=>decide (a=a')&&decide (b=b')&&decide (z=z')&&decide (d=d')&&decide (e=e')
 | .cw m a b z d,.cw m' a' b' z' d'=>(m == m')&&(decide (a=a')&&decide (b=b')&&decide (z=z')&&decide (d=d'))
 | .hmap a,.hmap a'=>decide (a=a')
 | .yld a,.yld a'=>decide (a=a')
 | .clo f x y,.clo f' x' y'=>decide (f=f')&&AV.eqbs x x'&&AV.eqbs y y'
 | .agg x,.agg x'=>AV.eqbs x x'
 | .tup x,.tup x'=>AV.eqbs x x'
 | .unk,.unk=>true
 | _,_=>false
def AV.eqbs:List AV→List AV→Bool
 | [],[]=>true
 | x::xs,y::ys=>AV.eqb x y&&AV.eqbs xs ys
 | _,_=>false
end
mutual
theorem AV.eq_of_eqb:∀ (x y:AV),AV.eqb x y=true→x=y
 | .c x,y,h=>by
  cases y<;>simp [AV.eqb] at h
  rw[IV.eq_of_eqb _ _ h]
 | .ptr a b,y,h=>by cases y<;>simp_all [AV.eqb]
 | .eptr a b d,y,h=>by cases y<;>simp_all [AV.eqb]
 | .hsl a b z d e,y,h=>by cases y<;>simp_all [AV.eqb]
 | .cw m a b z d,y,h=>by cases y<;>simp_all [AV.eqb]
 | .hmap a,y,h=>by cases y<;>simp_all [AV.eqb]
 | .yld a,y,h=>by cases y<;>simp_all [AV.eqb]
 | .clo f u v,y,h=>by
  cases y<;>simp [AV.eqb] at h
  obtain⟨⟨h1,h2⟩,h3⟩:=h
  rw[h1,AV.eqs_of_eqbs u _ h2,AV.eqs_of_eqbs v _ h3]
 | .agg u,y,h=>by
  cases y<;>simp [AV.eqb] at h
  rw[AV.eqs_of_eqbs u _ h]
 | .tup u,y,h=>by
  cases y<;>simp [AV.eqb] at h
  rw[AV.eqs_of_eqbs u _ h]
 | .unk,y,h=>by cases y<;>simp_all [AV.eqb]
theorem AV.eqs_of_eqbs:∀ (xs ys:List AV),AV.eqbs xs ys=true→xs=ys
 | [],ys,h=>by cases ys<;>simp_all [AV.eqbs]
 | x::xs,ys,h=>by
  cases ys with
  | nil=>simp [AV.eqbs] at h
  | cons y ys =>
   simp[AV.eqbs] at h
   rw[AV.eq_of_eqb x y h.1,AV.eqs_of_eqbs xs ys h.2]
end
mutual
@[simp] theorem AV.eqb_self:∀ (x:AV),AV.eqb x x=true
 | .c x=>by simp [AV.eqb]
 | .ptr a b=>by simp [AV.eqb]
 | .eptr a b d=>by simp [AV.eqb]
 | .hsl a b z d e=>by simp [AV.eqb]
 | .cw m a b z d=>by simp [AV.eqb]
 | .hmap a=>by simp [AV.eqb]
 | .yld a=>by simp [AV.eqb]
 | .clo f u v=>by simp [AV.eqb,AV.eqbs_self u,AV.eqbs_self v]
 | .agg u=>by simp [AV.eqb,AV.eqbs_self u]
 | .tup u=>by simp [AV.eqb,AV.eqbs_self u]
 | .unk=>by simp [AV.eqb]
@[simp] theorem AV.eqbs_self:∀ (xs:List AV),AV.eqbs xs xs=true
 | []=>by simp [AV.eqbs]
 | x::xs=>by simp [AV.eqbs,AV.eqb_self x,AV.eqbs_self xs]
end
def Qde (ms:List Nat):List Edge→Nat
 | []=>0
 | e::es=>if Region.binds .any e=true then 2 ^ e.on ||| ms.getD e.on 0 ||| Qde ms es else Qde ms es
def QuF:List Oper→List Nat→List Nat
 | [],ms=>ms
 | o::os,ms=>QuF os (ms++[Qde ms o.after.toList])
def Qrv (ms:List Nat):List Oper→Nat→Bool
 | [],_=>true
 | o::os,j=>decide (ms.getD j 0=Qde ms o.after.toList)&&o.after.toList.all (fun e=>!Region.binds .any e || decide (e.on<j))&&Qrv ms os (j+1)
def readsOf (ops:Array Oper) (o:Oper):List Tmp :=
 (o.op.operands.toList.filterMap fun | .tmp t=>some t | _=>none) ++
  (match o.guard with
   | some (j,_)=>match (ops[j]?).bind (·.dst) with | some d=>[d] | none=>[]
   | none=>[])
def QxP (ms:List Nat) (rd:List Tmp) (j:Nat):List Oper→Nat→Bool
 | [],_=>true
 | o::os,i=>(match o.dst with
   | some d=>!(rd.contains d) || (ms.getD j 0).testBit i || (ms.getD i 0).testBit j
   | none=>true)&&QxP ms rd j os (i+1)
def QqN (ms:List Nat) (ops:Array Oper):List Oper→Nat→Bool
 | [],_=>true
 | o::os,j=>QxP ms (readsOf ops o) j ops.toList 0&&QqN ms ops os (j+1)
def Q0c:List Oper→Bool
 | []=>true
 | o::os=>(match o.dst with
   | some d=>os.all fun o'=>decide (o'.dst≠some d)
   | none=>true)&&Q0c os
def QrC (ops:Array Oper):Bool :=
 let ms:=QuF ops.toList []
 Qrv ms ops.toList 0&&QqN ms ops ops.toList 0&&Q0c ops.toList
structure Rec where
 o:Oper
 val:AV
 eff:Bool
 run:Bool
 free:Bool
 F:Fr
 G:Heap
 G':Heap
noncomputable def QdO (cx:Cx) (r i:Nat) (ρ:Operand→AV) (o:Oper):Option AV :=
 match QaG ρ o with
 | some c=>if c.2.all AV.pure=true∧cx.hints.raw cx.fn r i=false∧cx.hints.keep cx.fn r i=false∧cx.hints.framed c.1=false then
   (cx.call c.1 c.2 []).bind fun r=>(frzR r.2 r.1).map fun s=>s.1
  else none
 | none=>none
noncomputable def QnC (ρ:Operand→AV) (x:Operand):AV:=if (ρ x).pure=true then ρ x else .unk
noncomputable def Qb2 (P:Program) (ρ:Operand→AV) (o:Oper):Option AV :=
 match o.op with
 | .buildSlice _ _ _=>(QbF P none (QnC ρ) [] o).bind fun r=>(frzR r.2 r.1).map fun s=>s.1
 | _=>none
noncomputable def QcU [Globals] (P:Program) (cx:Cx) (r i:Nat) (F:Fr) (H:Heap) (o:Oper):Option (AV × Heap) :=
 match Qb2 P (Qa2 F) o with
 | some v=>some (v,H)
 | none=>QaH P cx r i F H o
noncomputable def QyZ [Globals] (P:Program) (cx:Cx) (r:Nat) (ops:Array Oper) (i:Nat) (o:Oper) (F:Fr) (H:Heap):Option (Fr × Heap) :=
 match QbS ops o F with
 | some true=>(QcU P cx r i F H o).map fun s=>(setD F o.dst s.1,s.2)
 | some false=>some (setD F o.dst (.tup []),H)
 | none=>none
noncomputable def Qca [Globals] (P:Program) (cx:Cx) (r:Nat) (ops:Array Oper):List Oper→Nat→Fr→Heap→Option (List Rec)
 | [],_,_,_=>some []
 | o::os,i,F,H=>match QbS ops o F with
  | none=>none
  | some false=>(Qca P cx r ops os (i+1) (setD F o.dst (.tup [])) H).map (⟨o,.tup [],false,false,false,F,H,H⟩ :: ·)
  | some true=>match Qa0 P (Qa2 F) H o with
   | some v=>(Qca P cx r ops os (i+1) (setD F o.dst v) H).map (⟨o,v,false,true,false,F,H,H⟩ :: ·)
   | none=>match (match Qb2 P (Qa2 F) o with | some v=>some v | none=>QdO cx r i (Qa2 F) o) with
    | some v=>(Qca P cx r ops os (i+1) (setD F o.dst v) H).map (⟨o,v,false,true,true,F,H,H⟩ :: ·)
    | none=>match QcU P cx r i F H o with
     | some s=>(Qca P cx r ops os (i+1) (setD F o.dst s.1) s.2).map (⟨o,s.1,true,true,false,F,H,s.2⟩ :: ·)
     | none=>none
def looseAt (s:Nat):Option AObj→Option AObj→Option (Nat × AObj)
 | some .slot,some (.row false e cs)=>some (s,.row false e cs)
 | _,_=>none
def QfP (s:Nat):Option AObj→Option AObj→Option (Nat × AObj)
 | some .slot,some (.cells e cs)=>some (s,.cells e cs)
 | _,_=>none
def QaD (r:Rec):Option (Nat × AObj) :=
 match r.o.op,r.val with
 | .makeSlice _ _ _,.hsl s _ _ _ _=>looseAt s r.G[s]? r.G'[s]?
 | .alloc _,.ptr s _=>QfP s r.G[s]? r.G'[s]?
 | _,_=>none
def Rec.full (r:Rec):Bool:=r.eff&&(QaD r).isNone
def Qds (ms:List Nat):List Rec→Nat→List Nat→Bool→Bool
 | [],_,_,_=>true
 | r::rs,j,es,f=>if r.eff=true then
   (if (QaD r).isNone=true then es.all (fun i=>(ms.getD j 0).testBit i)&&Qds ms rs (j+1) (j::es) true else !f&&Qds ms rs (j+1) (j::es) f)
  else Qds ms rs (j+1) es f
noncomputable def sameAt [Globals] (P:Program) (r:Rec) (K:Heap):Bool :=
 match Qa0 P (Qa2 r.F) K r.o with
 | some v=>AV.eqb v r.val
 | none=>false
def QdB (m:Nat):List Rec→Nat→Bool
 | [],_=>true
 | r::rs,k=>(!r.full || !m.testBit k)&&QdB m rs (k+1)
noncomputable def readAll [Globals] (P:Program) (ms:List Nat) (r:Rec) (j:Nat):List Rec→Nat→Bool
 | [],_=>true
 | q::rs,k=>(if q.full=true then (ms.getD k 0).testBit j || !QdB (ms.getD j 0) rs (k+1) || sameAt P r q.G' else true)&&readAll P ms r j rs (k+1)
noncomputable def Qb6 [Globals] (P:Program) (ms:List Nat) (H:Heap) (all:List Rec):List Rec→Nat→Bool
 | [],_=>true
 | r::rs,j=>(if r.eff=false∧r.run=true∧r.free=false then (!QdB (ms.getD j 0) all 0 || sameAt P r H)&&readAll P ms r j all 0 else true)&&Qb6 P ms H all rs (j+1)
noncomputable def QkY:List Rec→Fr→Fr
 | [],F=>F
 | r::rs,F=>QkY rs (setD F r.o.dst r.val)
def QhE:List Rec→Heap→Heap
 | [],H=>H
 | r::rs,H=>QhE rs (if r.eff=true then r.G' else H)
noncomputable def Qhq [Globals] (P:Program) (cx:Cx) (r:Nat) (ops:Array Oper) (F:Fr) (H:Heap):Option (Fr × Heap) :=
 if QrC ops=true then
  (Qca P cx r ops ops.toList 0 F H).bind fun rs =>
   let ms:=QuF ops.toList []
   if Qds ms rs 0 [] false=true∧Qb6 P ms H rs rs 0=true then some (QkY rs F,QhE rs H) else none
 else none
end Go.Ab
