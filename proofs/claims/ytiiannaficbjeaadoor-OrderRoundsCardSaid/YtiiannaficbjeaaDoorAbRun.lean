/- A part of the proof: an interpreter on abstract values, proved right for every program; no condition. -/
import Derived.Test.YtiiannaficbjeaaDoorAbDraw
namespace Go.Ab
set_option linter.unusedVariables false
set_option linter.unusedSimpArgs false
set_option linter.unusedSectionVars false
inductive Out where
 | norm (F:Fr) (H:Heap)
 | exit (id:Nat) (F:Fr) (H:Heap)
 | ret (F:Fr) (H:Heap)
def AV.under1 (n:Nat):AV→Bool
 | .c _=>true
 | .ptr id _=>decide (id<n)
 | .eptr id _ _=>decide (id<n)
 | .hsl id _ _ _ _=>decide (id<n)
 | .cw _ id _ _ _=>decide (id<n)
 | .yld id=>decide (id<n)
 | .hmap id=>decide (id<n)
 | _=>false
def AV.under0 (n:Nat):AV→Bool
 | .clo _ a b=>a.all (AV.under1 n)&&b.all (AV.under1 n)
 | x=>x.under1 n
def AV.underA (n:Nat):AV→Bool
 | .unk=>true
 | .tup []=>true
 | .agg cs=>cs.all (AV.under0 n)
 | x=>x.under0 n
def AV.under (n:Nat):AV→Bool
 | .tup vs=>vs.all (AV.underA n)
 | x=>x.underA n
def AV.underV (n:Nat):AV→Bool
 | .tup vs=>vs.all (AV.under n)
 | x=>x.under n
noncomputable def AObj.under (n:Nat):AObj→Bool
 | .cells _ cs=>cs.all (AV.under n)
 | .row _ _ _=>true
 | .map _ es=>es.all fun e=>e.1.under n&&e.2.under n
 | .dead=>true
 | .slot=>true
 | .loop _ _ _ tmps _ _ _=>tmps.t.all (AV.under n)
noncomputable def trim (n:Nat) (F:Fr) (H:Heap):Heap:=if F.t.all (AV.under n)=true∧(H.take n).all (AObj.under n)=true then H.take n else H
noncomputable def trimV (m:Nat) (r:AV × Heap):AV × Heap:=if r.1.underV m=true∧(r.2.take m).all (AObj.under m)=true then (r.1,r.2.take m) else r
noncomputable def QaJ (F:Fr):List Nat→Fr
 | []=>F
 | t::ts=>QaJ (F.set t .unk) ts
def Qab:Code→Option Nat
 | .region id _ _=>some id
 | .seq a b=>(Qab a).or (Qab b)
 | .cond _ a b=>(Qab a).or (Qab b)
 | .block _ b=>Qab b
 | .loop b=>Qab b
 | .scope b=>Qab b
 | _=>none
noncomputable def Q8R:List Nat→Fr→Heap→Option (Fr × Heap)
 | [],F,H=>some (F,H)
 | t::ts,F,H=>match frzR H (F.get t) with
  | some r=>Q8R ts (F.set t r.1) r.2
  | none=>none
noncomputable def iter (f:Fr→Heap→Option Out) (cl fz:List Nat) (n:Nat):Nat→Fr→Heap→Option Out
 | 0,_,_=>none
 | k+1,F,H=>match Q8R fz (QaJ F cl) H with
  | none=>none
  | some q=>match f q.1 (trim n q.1 q.2) with
   | some (.norm F' H')=>iter f cl fz n k F' H'
   | r=>r
def QyG (v x:AV):Option (FuncId × List AV) :=
 match v with
 | .c (.fn g)=>some (g,[x])
 | .clo g first captured=>some (g,first++[x]++captured)
 | _=>none
def Qij (H:Heap) (l:Nat) (st:LoopState) (pend:Option Code):Option Heap :=
 match H[l]? with
 | some (.loop _ _ f F ps as b)=>some (H.set l (.loop st pend f F ps as b))
 | _=>none
def QfL (F:Fr) (l:Nat) (H:Heap):Option Out :=
 match H[l]? with
 | some (.loop st pend f F0 ps as b)=>if st=.busy then none else
  match pend with
  | none=>some (.norm F (H.set l (.loop .exhausted pend f F0 ps as b)))
  | some .ret=>some (.ret F (H.set l (.loop .exhausted pend f F0 ps as b)))
  | some (.exit id)=>some (.exit id F (H.set l (.loop .exhausted pend f F0 ps as b)))
  | some _=>none
 | _=>none
def Qh7 (ar:Option Nat) (n:Nat):Bool :=
 match ar with
 | none=>true
 | some l=>decide (l<n)
def QcL:Oper→Option (Nat × Nat)
 | ⟨some d,.move (.tmp k),_,_,_,none⟩=>some (d,k)
 | _=>none
def Q8p:Oper→Option (Nat × Nat × TypeId)
 | ⟨some d,.call ⟨.builtin .len,args,ts⟩,_,_,_,none⟩=>match args.toList,ts.toList with
  | [.tmp a],[t]=>some (d,a,t)
  | _,_=>none
 | _=>none
def Q7T:Oper→Option (Nat × Nat × Nat)
 | ⟨some d,.binOp .lss _ (.tmp a) (.tmp b) _,_,_,_,none⟩=>some (d,a,b)
 | _=>none
def QxC:Oper→Option (Nat × Nat)
 | ⟨some d,.binOp .add _ (.tmp a) (.const (.int .i64 1)) _,_,_,_,none⟩=>some (d,a)
 | _=>none
def Q7B:Oper→Option (Nat × Nat)
 | ⟨some d,.assign (.tmp a),_,_,_,none⟩=>some (d,a)
 | _=>none
def Q5d:Oper→Option (Nat × TypeId × Nat × Nat)
 | ⟨some d,.indexAddr t (.tmp a) (.tmp b),_,_,_,none⟩=>some (d,t,a,b)
 | _=>none
def Q4T:Oper→Option (TypeId × Nat × Operand)
 | ⟨none,.store t (.tmp a) v,_,_,_,none⟩=>some (t,a,v)
 | _=>none
structure SpoilR where
 (k s d0 d1 d2 d3 f0 f1 f3 e0 e1 x:Nat)
 (t et:TypeId)
 mid:List Oper
 v:Operand
def Q6Y:List Oper→List Nat
 | [⟨some d,_,_,_,_,none⟩]=>[d]
 | _=>[]
def SpoilR.writes (q:SpoilR):List Nat:=q.k::q.d0::q.d1::q.d2::q.d3::q.f0::q.f1::q.f3::q.e0::q.e1::Q6Y q.mid
def Ql4:List Oper→Option (Nat × Nat × Nat × Nat × Nat × TypeId × Nat)
 | [p0,p1,p2,p3]=>(QcL p0).bind fun a=>(QcL p1).bind fun b=>(Q8p p2).bind fun c=>(Q7T p3).bind fun d =>
  if c.2.1=b.1∧d.2.1=a.1∧d.2.2=c.1 then some (a.1,a.2,b.1,b.2,c.1,c.2.2,d.1) else none
 | _=>none
def Ql3:List Oper→Option (Nat × Nat × Nat)
 | [q0,q1,q2]=>(QcL q0).bind fun a=>(QxC q1).bind fun b=>(Q7B q2).bind fun c =>
  if b.2=a.1∧c.2=b.1∧c.1=a.2 then some (a.1,a.2,b.1) else none
 | _=>none
def QjK (mid:List Oper) (r0 r1 i st:Oper):Option (Nat × Nat × Nat × Nat × List Oper × Nat × TypeId × TypeId × Operand) :=
 (QcL r0).bind fun a=>(QcL r1).bind fun b=>(Q5d i).bind fun c=>(Q4T st).bind fun d =>
  if c.2.2.1=a.1∧c.2.2.2=b.1∧d.2.1=c.1 then some (a.1,a.2,b.1,b.2,mid,c.1,c.2.1,d.1,d.2.2) else none
def Qms:List Oper→Option (Nat × Nat × Nat × Nat × List Oper × Nat × TypeId × TypeId × Operand)
 | [r0,r1,i,st]=>QjK [] r0 r1 i st
 | [r0,r1,m,i,st]=>QjK [m] r0 r1 i st
 | _=>none
def Q0H:Code→Option SpoilR
 | .seq (.seq (.region _ o0 false) (.cond (.tmp c) .skip (.exit x))) (.seq (.block _ (.region _ o1 false)) (.region _ o2 false)) =>
  (Ql4 o0.toList).bind fun h=>(Qms o1.toList).bind fun b=>(Ql3 o2.toList).bind fun e =>
   if c=h.2.2.2.2.2.2∧b.2.1=h.2.2.2.1∧b.2.2.2.1=h.2.1∧e.2.1=h.2.1∧b.2.2.2.2.2.2.1=h.2.2.2.2.2.1 then
    some { k:=h.2.1,s:=h.2.2.2.1,d0:=h.1,d1:=h.2.2.1,d2:=h.2.2.2.2.1,d3:=h.2.2.2.2.2.2,f0:=b.1,f1:=b.2.2.1,f3:=b.2.2.2.2.2.1,e0:=e.1,e1:=e.2.2,x:=x,t:=h.2.2.2.2.2.1,et:=b.2.2.2.2.2.2.2.1,mid:=b.2.2.2.2.1,v:=b.2.2.2.2.2.2.2.2 }
   else none
 | _=>none
def Q1r:Operand→AV
 | .const v=>ofValue v
 | _=>.unk
def Q8n (P:Program) (mid:List Oper) (v:Operand):Option AV :=
 match mid,v with
 | [],.const c=>some (ofValue c)
 | [⟨some d,op,ty,pos,aft,none⟩],.tmp d'=>if d=d' then Qa0 P Q1r [] ⟨some d,op,ty,pos,aft,none⟩ else none
 | _,_=>none
def Qmu (P:Program) (sz:Nat):Option AV→Bool
 | some v=>v.kcells.all AV.isCell&&(v.kcells.length == sz)
 | none=>false
noncomputable def Qju (P:Program) (b:Code) (F:Fr) (H:Heap):Option Out :=
 (Q0H b).bind fun q =>
  match F.get q.s,F.get q.k,P.underlying q.t with
  | .cw false id _ ext sz,.c (.int .i64 n),some (.slice e) =>
   match H[id]? with
   | some (.row false _ cs) =>
    if cs.length=ext∧0≤n∧Qb0 P e=some sz∧Qb0 P q.et=some sz∧Qmu P sz (Q8n P q.mid q.v)=true∧q.writes.all F.ok=true∧Qcb (q.s::q.writes)=true then
     some (.exit q.x (QaJ F q.writes) (H.set id .dead))
    else none
   | _=>none
  | _,_,_=>none
noncomputable def Qad [Globals] (P:Program) (cx:Cx):Code→Fr→Heap→Option Out
 | .skip,F,H=>some (.norm F H)
 | .label _,F,H=>some (.norm F H)
 | .region id ops draw,F,H=>if draw=true then (Qhq P cx id ops F H).map fun r=>.norm r.1 r.2 else (Qd9 P cx id ops ops.toList 0 F H).map fun r=>.norm r.1 r.2
 | .seq a b,F,H=>match Qad P cx a F H with
  | some (.norm F' H')=>Qad P cx b F' H'
  | r=>r
 | .cond c a b,F,H=>match Qa2 F c with
  | .c (.bool true)=>Qad P cx a F H
  | .c (.bool false)=>Qad P cx b F H
  | _=>none
 | .block id b,F,H=>match Qad P cx b F H with
  | some (.exit id' F' H')=>if id'=id then some (.norm F' H') else some (.exit id' F' H')
  | r=>r
 | .loop b,F,H=>match (if ((Qab b).map (cx.hints.spoil cx.fn)).getD false=true then Qju P b F H else none) with
  | some o=>some o
  | none=>if Qh7 cx.around H.length=true then iter (Qad P cx b) (((Qab b).map (cx.hints.clear cx.fn)).getD []) (((Qab b).map (cx.hints.fz cx.fn)).getD []) H.length cx.fuel F H else none
 | .scope b,F,H=>Qad P cx b F H
 | .exit id,F,H=>some (.exit id F H)
 | .ret,F,H=>some (.ret F H)
 | .rangeFunc f params assign body,F,H =>
  (QyG (Qa2 F f) (.yld H.length)).bind fun g =>
   (cx.call g.1 g.2 (H++[.loop .ready none cx.fn F params assign body])).bind fun r=>QfL F H.length r.2
 | _,_,_=>none
noncomputable def Qep (F:Fr):List Tmp→List AV→Fr
 | t::ts,x::xs=>Qep (F.set t x) ts xs
 | _,_=>F
def Qdf (id:Nat):Out→Option (AV × Heap)
 | .norm _ H=>(Qij H id .ready none).map fun H'=>(.c (.bool true),H')
 | .ret _ H=>(Qij H id .done (some .ret)).map fun H'=>(.c (.bool false),H')
 | .exit j _ H=>(Qij H id .done (some (.exit j))).map fun H'=>(.c (.bool false),H')
def QtK (cx:Cx) (f:FuncId) (args:List AV) (H:Heap):Option (List AV × Heap):=if cx.hints.fzr f=true then Qbi H args else some (args,H)
noncomputable def Qro [Globals] (P:Program) (cx:Cx) (id:Nat) (args:List AV) (H:Heap):Option (AV × Heap) :=
 match H[id]? with
 | some (.loop _ _ f F ps as b) =>
  if args.length=ps.size then
   match QtK cx f args H with
   | some q=>match Qad P { cx with fn:=f,around:=some id } as (Qep F ps.toList q.1) q.2 with
    | some (.norm F1 H1)=>match H1[id]? with
     | some (.loop .ready pend f' F' ps' as' b') =>
      (Qad P { cx with fn:=f,around:=some id } b F1 (H1.set id (.loop .busy pend f' F' ps' as' b'))).bind (Qdf id)
     | _=>none
    | _=>none
   | none=>none
  else none
 | _=>none
noncomputable def QhK (P:Program) (F:Fr) (H:Heap):ResultVar→Option AV
 | .tmp t=>some (F.get t)
 | .cell a t=>QaK P H t (F.get a)
noncomputable def Qcu (P:Program) (F:Fr) (H:Heap):List ResultVar→Option (List AV)
 | []=>some []
 | r::rs=>(QhK P F H r).bind fun v=>(Qcu P F H rs).map fun vs=>v::vs
noncomputable def QdQ (P:Program) (fn:Func) (F:Fr) (H:Heap):Option AV :=
 (Qcu P F H fn.results.toList).map fun
  | [v]=>v
  | vs=>.tup vs
noncomputable def Qao (F:Fr):Nat→List AV→Fr
 | _,[]=>F
 | i,x::xs=>Qao (F.set i x) (i+1) xs
noncomputable def Qst (n:Nat) (args:List AV):Fr:=Qao ⟨args.length+(n-args.length),PT.full (Nat.log2 (args.length+(n-args.length))+1)⟩ 0 args
noncomputable def Qyf [Globals] (P:Program) (cx:Cx) (fn:Func) (c:Code) (args:List AV) (H:Heap):Option (AV × Heap) :=
 match Qad P cx c (Qst fn.ntmps args) H with
 | some (.norm F' H')=>(QdQ P fn F' H').map fun v=>(v,H')
 | some (.ret F' H')=>(QdQ P fn F' H').map fun v=>(v,H')
 | _=>none
inductive Tgt where
 | fn (f:FuncId)
 | round (id:Nat)
noncomputable def Qav [Globals] (P:Program) (hints:Hints):Nat→Tgt→List AV→Heap→Option (AV × Heap)
 | 0,_,_,_=>none
 | k+1,.fn f,args,H=>if hints.special f=true then Globals.fn f args H else match P.funcs[f]? with
  | some fn=>match fn.body with
   | some c=>if (fn.name == "runtime.NumGoroutine")=false then
     (Qyf P ⟨hints,f,k,fun g=>Qav P hints k (.fn g),fun i=>Qav P hints k (.round i),none⟩ fn c args (H++List.replicate (hints.slots f) .slot)).map (trimV H.length)
    else none
   | none=>none
  | none=>none
 | k+1,.round id,args,H=>Qro P ⟨hints,0,k,fun g=>Qav P hints k (.fn g),fun i=>Qav P hints k (.round i),some id⟩ id args H
noncomputable def QGG [Globals] (P:Program) (hints:Hints) (k:Nat) (f:FuncId) (args:List AV) (H:Heap):Option (AV × Heap):=Qav P hints k (.fn f) args H
end Go.Ab
