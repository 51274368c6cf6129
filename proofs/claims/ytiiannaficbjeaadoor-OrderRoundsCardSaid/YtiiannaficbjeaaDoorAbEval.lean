/- A part of the proof: an interpreter on abstract values, proved right for every program; no condition. -/
import Derived.Test.YtiiannaficbjeaaDoorAbEff3
namespace Go.Ab
set_option linter.unusedVariables false
set_option linter.unusedSimpArgs false
set_option linter.unusedSectionVars false
structure Hints where
 /-- of a function and the first region of a loop's body: temporaries that are cleared ahead of each round -/
 clear:FuncId→Nat→List Nat:=fun _ _=>[]
 /-- of a function,a region and an operation: a call whose arguments are handed over as they are -/
 raw:FuncId→Nat→Nat→Bool:=fun _ _ _=>false
 /-- .. whose answer stays in one's hands -/
 keep:FuncId→Nat→Nat→Bool:=fun _ _ _=>false
 /-- of a function: how many places are kept free at its beginning -/
 slots:FuncId→Nat:=fun _=>0
 /-- of an append to a list that is nil: the place that its row takes -/
 slot:FuncId→Nat→Nat→Option Nat:=fun _ _ _=>none
 /-- a function that sees nothing but what its arguments lead to,numbered anew -/
 framed:FuncId→Bool:=fun _=>false
 /-- of a call of such a function: the places that new objects take -/
 fslots:FuncId→Nat→Nat→List Nat:=fun _ _ _=>[]
 /-- a function whose answer is told by class Globals -/
 special:FuncId→Bool:=fun _=>false
 /-- of a function and the first region of a loop's body: a loop that spoils all of a slice's room -/
 spoil:FuncId→Nat→Bool:=fun _ _=>false
 /-- of a function and the first region of a loop's body: temporaries whose lists change no more from a round's head on -/
 fz:FuncId→Nat→List Nat:=fun _ _=>[]
 /-- a function in whose loops over functions what a round is handed changes no more -/
 fzr:FuncId→Bool:=fun _=>false
structure Cx where
 hints:Hints
 fn:FuncId
 fuel:Nat
 call:FuncId→List AV→Heap→Option (AV × Heap)
 /-- a round of a loop over a function -/
 round:Nat→List AV→Heap→Option (AV × Heap)
 /-- the loop whose round this is -/
 around:Option Nat
noncomputable def setD (F:Fr) (dst:Option Tmp) (v:AV):Fr :=
 match dst with
 | some d=>F.set d v
 | none=>F
noncomputable def QbS (ops:Array Oper) (o:Oper) (F:Fr):Option Bool :=
 match o.guard with
 | none=>some true
 | some (j,want)=>match (ops[j]?).bind (·.dst) with
  | some d=>match F.get d with
   | .c (.bool b)=>some (b == want)
   | .tup []=>some false
   | _=>none
  | none=>none
def QaG (ρ:Operand→AV) (o:Oper):Option (FuncId × List AV) :=
 match o.op with
 | .call { callee:=.value f,args,.. }=>match ρ f with
  | .c (.fn g)=>some (g,args.toList.map ρ)
  | .clo g first captured=>some (g,first++args.toList.map ρ++captured)
  | _=>none
 | _=>none
def IV.scalar:IV→Bool
 | .bool _ | .int _ _ | .str _ | .nilp | .nilmap | .nilfn | .niliface | .fn _=>true
 | .slice [] _ _ _=>true
 | _=>false
def AV.scalar0:AV→Bool
 | .c x=>x.scalar
 | _=>false
def AV.scalar1:AV→Bool
 | .c x=>x.scalar
 | .agg cs=>cs.all AV.scalar0
 | _=>false
def AV.scalar:AV→Bool
 | .tup vs=>vs.all AV.scalar1
 | x=>x.scalar1
def AV.pure0:AV→Bool
 | .c _=>true
 | _=>false
def AV.pure:AV→Bool
 | .c _=>true
 | .agg cs=>cs.all AV.pure0
 | _=>false
def QdV (cx:Cx) (g:FuncId) (args:List AV) (H:Heap):Option (AV × Heap) :=
 if args.all AV.pure=true then
  (cx.call g args []).bind fun r=>(frzR r.2 r.1).map fun s=>(s.1,H)
 else
  (Qbi H args).bind fun a=>(cx.call g a.1 []).bind fun r =>
   if r.1.scalar=true then some (r.1,H) else (frzR r.2 r.1).map fun s=>(s.1,a.2)
def AV.imp0 (n:Nat) (ids:List Nat):AV→Option (AV × List Nat)
 | .c x=>some (.c x,ids)
 | .hsl id off len ext sz=>if ids.contains id=true then none else some (.hsl (n+ids.length) off len ext sz,ids++[id])
 | _=>none
def imps0 (n:Nat) (ids:List Nat):List AV→Option (List AV × List Nat)
 | []=>some ([],ids)
 | x::xs=>(x.imp0 n ids).bind fun r=>(imps0 n r.2 xs).map fun s=>(r.1::s.1,s.2)
def AV.imp1 (n:Nat) (ids:List Nat):AV→Option (AV × List Nat)
 | .agg cs=>(imps0 n ids cs).map fun r=>(.agg r.1,r.2)
 | x=>x.imp0 n ids
def imps1 (n:Nat) (ids:List Nat):List AV→Option (List AV × List Nat)
 | []=>some ([],ids)
 | x::xs=>(x.imp1 n ids).bind fun r=>(imps1 n r.2 xs).map fun s=>(r.1::s.1,s.2)
def AV.imp (n:Nat):AV→Option (AV × List Nat)
 | .tup vs=>(imps1 n [] vs).map fun r=>(.tup r.1,r.2)
 | x=>x.imp1 n []
def rowAt (o:Option AObj):Option AObj :=
 match o with
 | some (.row fz t cs)=>some (.row fz t cs)
 | _=>none
def rowsOf (H1:Heap):List Nat→Option Heap
 | []=>some []
 | id::ids=>(rowAt H1[id]?).bind fun o=>(rowsOf H1 ids).map fun os=>o::os
def AV.sc0:AV→Bool
 | .c x=>x.scalar
 | .hsl ..=>true
 | _=>false
def AV.sc1:AV→Bool
 | .agg cs=>cs.all AV.sc0
 | x=>x.sc0
def AV.sc:AV→Bool
 | .tup vs=>vs.all AV.sc1
 | x=>x.sc1
def AObj.sc:AObj→Bool
 | .row false _ cs=>cs.all IV.scalar
 | _=>false
def Qhn (cx:Cx) (g:FuncId) (args:List AV) (H:Heap):Option (AV × Heap) :=
 if args.all AV.pure=true then
  (cx.call g args []).bind fun r=>(r.1.imp H.length).bind fun s=>(rowsOf r.2 s.2).map fun H2=>(s.1,H++H2)
 else
  (Qbi H args).bind fun a=>(cx.call g a.1 []).bind fun r=>(r.1.imp H.length).bind fun s=>(rowsOf r.2 s.2).bind fun H2 =>
   if s.1.sc=true∧H2.all AObj.sc=true then some (s.1,H++H2) else none
def AV.ren1 (ρ:Nat→Option Nat):AV→Option AV
 | .c x=>some (.c x)
 | .ptr id off=>(ρ id).map fun j=>.ptr j off
 | .eptr id off ext=>(ρ id).map fun j=>.eptr j off ext
 | .hsl id off len ext sz=>(ρ id).map fun j=>.hsl j off len ext sz
 | .hmap id=>(ρ id).map fun j=>.hmap j
 | _=>none
def Qh6 (ρ:Nat→Option Nat):List AV→Option (List AV)
 | []=>some []
 | x::xs=>(x.ren1 ρ).bind fun y=>(Qh6 ρ xs).map fun ys=>y::ys
def AV.ren0 (ρ:Nat→Option Nat):AV→Option AV
 | .clo f a b=>(Qh6 ρ a).bind fun a'=>(Qh6 ρ b).map fun b'=>.clo f a' b'
 | x=>x.ren1 ρ
def Qk3 (ρ:Nat→Option Nat):List AV→Option (List AV)
 | []=>some []
 | x::xs=>(x.ren0 ρ).bind fun y=>(Qk3 ρ xs).map fun ys=>y::ys
def AV.renA (ρ:Nat→Option Nat):AV→Option AV
 | .unk=>some .unk
 | .agg cs=>(Qk3 ρ cs).map .agg
 | x=>x.ren0 ρ
def QhS (ρ:Nat→Option Nat):List AV→Option (List AV)
 | []=>some []
 | x::xs=>(x.renA ρ).bind fun y=>(QhS ρ xs).map fun ys=>y::ys
def AV.ren (ρ:Nat→Option Nat):AV→Option AV
 | .tup vs=>(QhS ρ vs).map .tup
 | x=>x.renA ρ
def QmN (ρ:Nat→Option Nat):List (AV × AV)→Option (List (AV × AV))
 | []=>some []
 | e::es=>(e.1.renA ρ).bind fun k=>(e.2.renA ρ).bind fun v=>(QmN ρ es).map fun es'=>(k,v)::es'
def AObj.ren (ρ:Nat→Option Nat):AObj→Option AObj
 | .cells t cs=>(Qk3 ρ cs).map (.cells t)
 | .row fz t cs=>some (.row fz t cs)
 | .map t es=>(QmN ρ es).map (.map t)
 | .dead=>some .dead
 | .slot=>some .slot
 | .loop ..=>none
def AV.ids1:AV→List Nat
 | .ptr id _=>[id]
 | .eptr id _ _=>[id]
 | .hsl id _ _ _ _=>[id]
 | .hmap id=>[id]
 | _=>[]
def Qj3:List AV→List Nat
 | []=>[]
 | x::xs=>x.ids1++Qj3 xs
def AV.ids0:AV→List Nat
 | .clo _ a b=>Qj3 a++Qj3 b
 | x=>x.ids1
def Qrb:List AV→List Nat
 | []=>[]
 | x::xs=>x.ids0++Qrb xs
def AV.idsA:AV→List Nat
 | .agg cs=>Qrb cs
 | x=>x.ids0
def Qrs:List AV→List Nat
 | []=>[]
 | x::xs=>x.idsA++Qrs xs
def AV.ids:AV→List Nat
 | .tup vs=>Qrs vs
 | x=>x.idsA
def Qi7:List (AV × AV)→List Nat
 | []=>[]
 | e::es=>e.1.idsA++(e.2.idsA++Qi7 es)
def Qky:Option AObj→List Nat
 | some (.cells _ cs)=>Qrb cs
 | some (.map _ es)=>Qi7 es
 | _=>[]
def inB:List Nat→Nat→Bool
 | [],_=>false
 | a::l,g=>(a == g) || inB l g
def reach:Nat→Heap→List Nat→List Nat→List Nat
 | 0,_,_,seen=>seen
 | _+1,_,[],seen=>seen
 | k+1,H,i::todo,seen=>if inB seen i=true then reach k H todo seen else reach k H (todo++Qky H[i]?) (seen++[i])
def QbE:List Nat→Nat→Option Nat
 | [],_=>none
 | x::xs,i=>if i=x then some 0 else (QbE xs i).map (· + 1)
def pick (ρ:Nat→Option Nat) (H:Heap):List Nat→Option Heap
 | []=>some []
 | i::is=>(H[i]?).bind fun o=>(o.ren ρ).bind fun o'=>(pick ρ H is).map fun os=>o' :: os
def Qc0 {α:Type} (H:List α):List Nat→List α→List α
 | i::is,o::os=>(Qc0 H is os).set i o
 | _,_=>H
def Qcb:List Nat→Bool
 | []=>true
 | x::xs=>!inB xs x&&Qcb xs
def Qjb:Option AObj→Bool
 | some .slot=>true
 | _=>false
def places (H:Heap):Nat→List Nat→Nat→List Nat × Nat
 | 0,_,_=>([],0)
 | c+1,s::sl,nx=>if Qjb H[s]?=true then (s::(places H c sl nx).1,(places H c sl nx).2) else (nx::(places H c sl (nx+1)).1,(places H c sl (nx+1)).2+1)
 | c+1,[],nx=>(nx::(places H c [] (nx+1)).1,(places H c [] (nx+1)).2+1)
def Qdb (H:Heap):List Nat→Bool
 | []=>true
 | i::is=>Qjb H[i]?&&Qdb H is
def through (from_ to:List Nat) (j:Nat):Option Nat:=(QbE from_ j).bind fun p=>to[p]?
def Qew (H:Heap) (L0 L:List Nat) (r:AV × Heap):Option (AV × Heap) :=
 (pick (through L0 L) r.2 L0).bind fun os=>(r.1.ren (through L0 L)).map fun v=>(v,Qc0 H L os)
def Qch {α:Type}:Nat→List α→List Nat
 | _,[]=>[]
 | i,_::l=>i::Qch (i+1) l
def QkZ (cx:Cx) (sl:List Nat) (g:FuncId) (args:List AV) (H:Heap):Option (AV × Heap) :=
 let ids:=reach 64 H (Qrs args) []
 (QhS (QbE ids) args).bind fun args0=>(pick (QbE ids) H ids).bind fun H0=>(cx.call g args0 H0).bind fun r =>
  let new:=(reach 64 r.2 (Qch 0 ids++r.1.ids) []).drop ids.length
  let p:=places H new.length sl H.length
  let Hp:=H++List.replicate p.2 .slot
  if Qcb (ids++p.1)=true∧Qcb (Qch 0 ids++new)=true∧Qdb Hp p.1=true then
   Qew Hp (Qch 0 ids++new) (ids++p.1) r
  else none
def QbP (cx:Cx) (r i:Nat) (g:FuncId) (args:List AV) (H:Heap):Option (AV × Heap) :=
 if cx.hints.framed g=true then QkZ cx (cx.hints.fslots cx.fn r i) g args H else
 if cx.hints.raw cx.fn r i=true then cx.call g args H else if cx.hints.keep cx.fn r i=true then Qhn cx g args H else
  match QdV cx g args H with
  | some x=>some x
  | none=>cx.call g args H
def Qba (ρ:Operand→AV) (o:Oper):Option (Nat × List AV) :=
 match o.op with
 | .call { callee:=.value f,args,.. }=>match ρ f with
  | .yld id=>some (id,args.toList.map ρ)
  | _=>none
 | _=>none
noncomputable def QaH [Globals] (P:Program) (cx:Cx) (r i:Nat) (F:Fr) (H:Heap) (o:Oper):Option (AV × Heap) :=
 match Qa0 P (Qa2 F) H o with
 | some v=>some (v,H)
 | none=>match QbF P (cx.hints.slot cx.fn r i) (Qa2 F) H o with
  | some s=>some s
  | none=>match Qba (Qa2 F) o with
   | some y=>cx.round y.1 y.2 H
   | none=>(QaG (Qa2 F) o).bind fun c=>QbP cx r i c.1 c.2 H
noncomputable def Qfg [Globals] (P:Program) (cx:Cx) (r:Nat) (ops:Array Oper) (i:Nat) (o:Oper) (F:Fr) (H:Heap):Option (Fr × Heap) :=
 match QbS ops o F with
 | some true=>(QaH P cx r i F H o).map fun s=>(setD F o.dst s.1,s.2)
 | some false=>some (setD F o.dst (.tup []),H)
 | none=>none
noncomputable def Qd9 [Globals] (P:Program) (cx:Cx) (r:Nat) (ops:Array Oper):List Oper→Nat→Fr→Heap→Option (Fr × Heap)
 | [],_,F,H=>some (F,H)
 | o::os,i,F,H=>match Qfg P cx r ops i o F H with
  | some (F',H')=>Qd9 P cx r ops os (i+1) F' H'
  | none=>none
end Go.Ab
