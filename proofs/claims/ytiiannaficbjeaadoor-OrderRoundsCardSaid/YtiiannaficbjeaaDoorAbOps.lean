/- A part of the proof: an interpreter on abstract values, proved right for every program; no condition. -/
import Derived.Test.YtiiannaficbjeaaDoorAbCore
namespace Go.Ab
set_option linter.unusedVariables false
set_option linter.unusedSimpArgs false
set_option linter.unusedSectionVars false
def QuY:Value→Option IV
 | .bool b=>some (.bool b)
 | .int k n=>some (.int k n)
 | .string s=>some (.str s)
 | .pointer none=>some .nilp
 | .slice none 0 0=>some (.slice [] 0 true (some 0))
 | .map none=>some .nilmap
 | .nilFunc=>some .nilfn
 | .nilIface=>some .niliface
 | _=>none
def QhN:List Value→Option (List IV)
 | []=>some []
 | v::vs=>(QuY v).bind fun x=>(QhN vs).bind fun xs=>some (x::xs)
def ofValue:Value→AV
 | .agg vs=>((QhN vs.toList).map fun xs=>AV.agg (xs.map .c)).getD .unk
 | v=>((QuY v).map .c).getD .unk
noncomputable def Qa2 [Globals] (F:Fr):Operand→AV
 | .tmp t=>F.get t
 | .const v=>ofValue v
 | .global g=>match Globals.gl g with
  | some cells=>.c (.iptr cells 0)
  | none=>.unk
 | .func f=>.c (.fn f)
def AV.kcells:AV→List AV
 | .agg cs=>cs
 | x=>[x]
def Qbb {α:Type} (cs:List α) (off n:Nat):Option (List α):=if off+n≤cs.length then some ((cs.drop off).take n) else none
def Qbh {α:Type} (cs:List α) (off:Nat) (new:List α):Option (List α) :=
 match new with
 | [x]=>if off<cs.length then some (cs.set off x) else none
 | _=>if off+new.length≤cs.length then some (cs.take off++new++cs.drop (off+new.length)) else none
def Qb1 (P:Program) (t:TypeId):Option Bool :=
 match P.underlying t with
 | some (.struct _)=>some true
 | some (.array _ _)=>some true
 | some _=>some false
 | none=>none
def Qb0 (P:Program) (t:TypeId):Option Nat:=(P.info? t).map (·.size)
def Qem (P:Program) (t:TypeId) (cs:List AV) (off:Nat):Option AV :=
 (Qb1 P t).bind fun
  | true=>(Qb0 P t).bind fun n=>(Qbb cs off n).map .agg
  | false=>cs[off]?
def Q3B (P:Program) (t:TypeId) (cs:List IV) (off:Nat):Option AV :=
 (Qb1 P t).bind fun
  | true=>(Qb0 P t).bind fun n=>(Qbb cs off n).map fun l=>.agg (l.map .c)
  | false=>(cs[off]?).map .c
def rowOf (H:Heap) (id ext:Nat):Option (TypeId × List IV) :=
 match H[id]? with
 | some (.row _ t cs)=>if cs.length=ext then some (t,cs) else none
 | _=>none
def Qcd (H:Heap) (id:Nat):Bool :=
 match H[id]? with
 | some (.row false _ _)=>true
 | _=>false
def QaK (P:Program) (H:Heap) (t:TypeId):AV→Option AV
 | .c (.iptr cells off)=>Q3B P t cells off
 | .ptr id off=>match H[id]? with
  | some (.cells _ cs)=>Qem P t cs off
  | _=>none
 | .eptr id off ext=>(rowOf H id ext).bind fun r=>Q3B P t r.2 off
 | _=>none
def QdH:AV→Option AV
 | .c (.iptr cells off)=>some (.c (.iptr cells off))
 | .c (.fn f)=>some (.c (.fn f))
 | .ptr id off=>some (.ptr id off)
 | .eptr id off ext=>some (.eptr id off ext)
 | .clo f a b=>some (.clo f a b)
 | .yld id=>some (.yld id)
 | _=>none
def QqK (P:Program) (s:TypeId) (f:Nat):Option Field :=
 match P.underlying s with
 | some (.struct fs)=>fs[f]?
 | _=>none
def QaC (a:AV) (n:Nat):Option AV :=
 match a with
 | .c (.iptr cells off)=>some (.c (.iptr cells (off+n)))
 | .ptr id off=>some (.ptr id (off+n))
 | .eptr id off ext=>some (.eptr id (off+n) ext)
 | _=>none
def Qa3 (P:Program) (s:TypeId) (x:AV) (f:Nat):Option AV :=
 (QqK P s f).bind fun fd=>(Qb0 P fd.type).bind fun n=>if n=0 then none else QaC x fd.offset
def QBa (P:Program) (t:TypeId) (cs:List AV) (off:Nat):Option AV:=Qem P t cs off
def QoM (P:Program) (s:TypeId) (x:AV) (f:Nat):Option AV :=
 match x with
 | .agg cs=>(QqK P s f).bind fun fd=>QBa P fd.type cs fd.offset
 | _=>none
def QbM (P:Program) (t:TypeId):Option TypeId :=
 match P.underlying t with
 | some (.slice e)=>some e
 | _=>none
def Qa9 (P:Program) (H:Heap) (t:TypeId) (x i:AV):Option AV :=
 match i with
 | .c (.int _ i) =>
  match P.underlying t with
  | some (.slice e)=>(Qb0 P e).bind fun sz =>
   match x with
   | .c (.slice cells len _ _)=>if 0≤i∧i<len then some (.c (.iptr cells (i.toNat * sz))) else none
   | .hsl id off len ext sz'=>if 0≤i∧i<len∧sz'=sz∧(rowOf H id ext).isSome=true then some (.eptr id (off+i.toNat * sz) ext) else none
   | _=>none
  | some (.array n e)=>(Qb0 P e).bind fun sz=>if 0≤i∧i<n then QaC x (i.toNat * sz) else none
  | _=>none
 | _=>none
def QpE (P:Program) (t:TypeId) (x i:AV):Option AV :=
 match i with
 | .c (.int _ i) =>
  match P.underlying t,x with
  | some (.array n e),.agg cs=>(Qb0 P e).bind fun sz=>if 0≤i∧i<n then QBa P e cs (i.toNat * sz) else none
  | some .string,.c (.str s)=>if 0≤i then (s[i.toNat]?).map fun b=>.c (.int .u8 b.toNat) else none
  | _,_=>none
 | _=>none
def Qcp (d:Nat):Option AV→Option Nat
 | none=>some d
 | some (.c (.int _ i))=>if 0≤i then some i.toNat else none
 | _=>none
def Qfo (P:Program) (H:Heap) (t:TypeId) (x:AV) (lo hi mx:Option AV):Option AV :=
 match P.underlying t,mx with
 | some .string,none=>match x with
  | .c (.str s)=>(Qcp s.size hi).bind fun h=>(Qcp 0 lo).bind fun l=>if l≤h∧h≤s.size then some (.c (.str (s.extract l h))) else none
  | _=>none
 | some (.slice e),none=>(Qb0 P e).bind fun sz =>
  match x with
  | .c (.slice cells len nl cap)=>(Qcp len hi).bind fun h=>(Qcp 0 lo).bind fun l =>
   if l≤h∧h≤len∧cells.length=len * sz then some (.c (.slice ((cells.drop (l * sz)).take ((h-l) * sz)) (h-l) nl (cap.map (· - l)))) else none
  | .hsl id off len ext sz'=>match lo,hi with
   | none,some (.cw true id2 off2 ext2 sz2)=>if id2=id∧off2=off∧ext2=ext∧sz2=sz'∧sz'=sz∧0<sz∧(rowOf H id ext).isSome=true then some (.cw false id off ext sz') else none
   | _,_=>(Qcp len hi).bind fun h=>(Qcp 0 lo).bind fun l =>
    if l≤h∧off+h * sz≤ext∧h≤len∧sz'=sz∧(rowOf H id ext).isSome=true then
     some (if l=h∧l≠0 then .c (.slice [] 0 false none) else .hsl id (off+l * sz) (h-l) ext sz)
    else none
  | _=>none
 | some (.slice e),some m=>(Qb0 P e).bind fun sz=>match x with
  | .c (.slice cells len nl _)=>(Qcp 0 hi).bind fun h=>(Qcp 0 (some m)).bind fun k=>(Qcp 0 lo).bind fun l =>
   if l≤h∧h≤k∧k≤len∧hi.isSome=true∧(cells.length=len * sz∨k=0) then some (.c (.slice ((cells.drop (l * sz)).take ((h-l) * sz)) (h-l) nl (some (k-l)))) else none
  | _=>none
 | _,_=>none
def Qdn (P:Program) (t:TypeId) (x y:IV):Option Bool :=
 match P.underlying t,x,y with
 | some (.int _),.int k a,.int k' b=>if k=k' then some (a == b) else none
 | some .bool,.bool a,.bool b=>some (a == b)
 | some .string,.str a,.str b=>some (a.toList == b.toList)
 | _,_,_=>none
def QbC (P:Program):Nat→List Field→List AV→List AV→Option Bool
 | _,[],[],[]=>some true
 | n,f::fs,.c x::xs,.c y::ys =>
  if f.name ≠ "_"∧f.offset=n∧Qb1 P f.type=some false then (Qdn P f.type x y).bind fun b=>(QbC P (n+1) fs xs ys).map fun c=>b&&c else none
 | _,_,_,_=>none
def eqlA (P:Program) (H:Heap) (t:TypeId) (x y:AV):Option Bool :=
 match x,y with
 | .agg xs,.agg ys=>match P.underlying t with
  | some (.struct fs)=>if P.stoodInHeld t=false∧P.eqGuardType P.depth t=false then QbC P 0 fs.toList xs ys else none
  | _=>none
 | .c (.bool a),.c (.bool b)=>match P.underlying t with | some .bool=>some (a == b) | _=>none
 | .c (.slice _ _ nl _),.c (.slice [] 0 true _)=>if (QbM P t).isSome=true then some nl else none
 | .hsl id _ _ ext _,.c (.slice [] 0 true _)=>if (QbM P t).isSome=true∧(rowOf H id ext).isSome=true then some false else none
 | .ptr _ _,.c .nilp=>match P.underlying t with | some (.pointer _)=>some false | _=>none
 | .c (.iptr _ _),.c .nilp=>match P.underlying t with | some (.pointer _)=>some false | _=>none
 | .c .nilp,.c .nilp=>match P.underlying t with | some (.pointer _)=>some true | _=>none
 | .c (.fn _),.c .nilfn=>match P.underlying t with | some (.func _ _ _)=>some false | _=>none
 | .clo _ _ _,.c .nilfn=>match P.underlying t with | some (.func _ _ _)=>some false | _=>none
 | .yld _,.c .nilfn=>match P.underlying t with | some (.func _ _ _)=>some false | _=>none
 | .c .nilfn,.c .nilfn=>match P.underlying t with | some (.func _ _ _)=>some true | _=>none
 | _,_=>none
def Qef (P:Program) (t:TypeId):Bool :=
 match P.underlying t with
 | some (.int _) | some .bool=>true
 | _=>false
def mapT (P:Program) (t:TypeId):Option (TypeId × TypeId) :=
 match P.underlying t with
 | some (.map k e)=>some (k,e)
 | _=>none
def QdU (P:Program) (kt:TypeId) (k:AV):Bool :=
 match P.underlying kt,k with
 | some (.int _),.c _=>true
 | some .bool,.c _=>true
 | some (.struct fs),.agg cs=>fs.toList.all fun f=>Qb1 P f.type == some false&&decide (f.offset<cs.length)&&Qef P f.type
 | _,_=>false
def Qh3 (P:Program) (t:TypeId) (x y:AV):Option Bool :=
 match x,y with
 | .c a,.c b=>Qdn P t a b
 | .agg xs,.agg ys=>match P.underlying t with
  | some (.struct fs)=>if P.stoodInHeld t=false∧P.eqGuardType P.depth t=false then QbC P 0 fs.toList xs ys else none
  | _=>none
 | _,_=>none
def QhJ (P:Program) (t:TypeId) (k:AV):List (AV × AV)→Option (Option (Nat × AV))
 | []=>some none
 | e::es=>(Qh3 P t k e.1).bind fun b=>if b=true then some (some (0,e.2)) else (QhJ P t k es).map fun r=>r.map fun p=>(p.1+1,p.2)
def zeroV (P:Program) (t:TypeId):Option AV:=((P.info? t).bind fun i=>i.zero).map ofValue
def QbJ (P:Program) (H:Heap) (t:TypeId) (x k:AV) (ok:Bool):Option AV :=
 (mapT P t).bind fun m=>if QdU P m.1 k=true then
  (match x with
   | .c .nilmap=>some []
   | .hmap id=>match H[id]? with
    | some (.map _ es)=>some es
    | _=>none
   | _=>none).bind fun es=>(QhJ P m.1 k es).bind fun r =>
   match r with
   | some p=>some (if ok=true then .tup [p.2,.c (.bool true)] else p.2)
   | none=>(zeroV P m.2).map fun z=>if ok=true then .tup [z,.c (.bool false)] else z
 else none
def Qey (op:BinOp) (k:IntKind) (a b:Int):Option IV :=
 match op with
 | .add=>some (.int k (k.wrap (a+b)))
 | .sub=>some (.int k (k.wrap (a-b)))
 | .mul=>some (.int k (k.wrap (a * b)))
 | .quo=>if b=0 then none else some (.int k (k.wrap (a.tdiv b)))
 | .rem=>if b=0 then none else some (.int k (a.tmod b))
 | .and=>some (.int k (k.wrap (BitVec.ofInt k.bits a &&& BitVec.ofInt k.bits b).toNat))
 | .or=>some (.int k (k.wrap (BitVec.ofInt k.bits a ||| BitVec.ofInt k.bits b).toNat))
 | .xor=>some (.int k (k.wrap (BitVec.ofInt k.bits a ^^^ BitVec.ofInt k.bits b).toNat))
 | .andNot=>some (.int k (k.wrap (BitVec.ofInt k.bits a &&& ~~~(BitVec.ofInt k.bits b)).toNat))
 | .shl=>none
 | .shr=>none
 | .eql=>some (.bool (a == b))
 | .neq=>some (.bool (a != b))
 | .lss=>some (.bool (a<b))
 | .leq=>some (.bool (a≤b))
 | .gtr=>some (.bool (a > b))
 | .geq=>some (.bool (a ≥ b))
def QDy (op:BinOp) (x y:ByteArray):Option IV :=
 match op with
 | .add=>if x.size+y.size≤9223372036854775807 then some (.str (x++y)) else none
 | .eql=>some (.bool (x.toList == y.toList))
 | .neq=>some (.bool !(x.toList == y.toList))
 | .lss=>some (.bool (Op.bytesLess x.toList y.toList))
 | .leq=>some (.bool (Op.bytesLess x.toList y.toList || x.toList == y.toList))
 | .gtr=>some (.bool !(Op.bytesLess x.toList y.toList || x.toList == y.toList))
 | .geq=>some (.bool !(Op.bytesLess x.toList y.toList))
 | _=>none
def binA (P:Program) (H:Heap) (op:BinOp) (t:TypeId) (x y:AV):Option AV :=
 match x,y with
 | .c (.int k a),.c (.int k' b) =>
  match op with
  | .shl=>if 0≤b then some (.c (.int k (k.wrap (a * 2 ^ (min b.toNat k.bits))))) else none
  | .shr=>if 0≤b then some (.c (.int k (a.fdiv (2 ^ (min b.toNat k.bits))))) else none
  | _=>if k=k' then (Qey op k a b).map .c else none
 | .c (.str a),.c (.str b)=>(QDy op a b).map .c
 | _,_ =>
  match op with
  | .eql=>(eqlA P H t x y).map fun b=>.c (.bool b)
  | .neq=>(eqlA P H t x y).map fun b=>.c (.bool !b)
  | _=>none
def unA (op:UnOp) (x:AV):Option AV :=
 match op,x with
 | .neg,.c (.int k n)=>some (.c (.int k (k.wrap (0-n))))
 | .xor,.c (.int k n)=>(Qey .xor k (if k.signed then -1 else k.max) n).map .c
 | .not,.c (.bool b)=>some (.c (.bool !b))
 | _,_=>none
def Qke (P:Program) (src dst:TypeId) (x:AV):Option AV :=
 match P.underlying dst,x with
 | some (.int k),.c (.int _ n)=>match P.underlying src with
  | some _=>some (.c (.int k (k.wrap n)))
  | none=>none
 | _,_=>none
def lenA (P:Program) (t:TypeId) (x:AV):Option AV :=
 match P.underlying t,x with
 | some .string,.c (.str s)=>some (.c (.int .i64 s.size))
 | some (.array n _),_=>some (.c (.int .i64 n))
 | some (.slice _),.c (.slice _ n _ _)=>some (.c (.int .i64 n))
 | some (.slice _),.hsl _ _ n _ _=>some (.c (.int .i64 n))
 | _,_=>none
def capA (P:Program) (H:Heap) (t:TypeId) (x:AV):Option AV :=
 match P.underlying t,x with
 | some (.slice _),.c (.slice _ _ _ (some k))=>some (.c (.int .i64 k))
 | some (.slice _),.hsl id off _ ext sz=>if (rowOf H id ext).isSome=true then some (.cw true id off ext sz) else none
 | _,_=>none
def Q5p:AV→AV→Option AV
 | .c (.int k x),.c (.int _ y)=>some (.c (.int k (if y > x then y else x)))
 | _,_=>none
def Q4Y:AV→AV→Option AV
 | .c (.int k x),.c (.int _ y)=>some (.c (.int k (if y<x then y else x)))
 | _,_=>none
def Qlc (f:AV→AV→Option AV):AV→List AV→Option AV
 | x,[]=>some x
 | x,y::ys=>(f x y).bind fun z=>Qlc f z ys
def QhG {α:Type} (place:Nat→Option (Nat × Nat)) (cells:List α):List (Nat × List α)→Option (List α)
 | []=>some cells
 | (i,vs)::rest =>
  match place i with
  | none=>none
  | some (off,size)=>if vs.length=size then (Qbh cells off vs).bind fun cells=>QhG place cells rest else none
def zeroCells (P:Program) (t:TypeId):Option (List IV):=(P.info? t).bind fun i=>i.zero.bind fun z=>QhN z.cells.toList
def placeOf (P:Program) (t:TypeId):Option (Nat→Option (Nat × Nat)) :=
 match P.underlying t with
 | some (.array _ e)=>(P.info? e).map fun ie=>fun i=>some (i * ie.size,ie.size)
 | some (.struct fields)=>(fields.toList.mapM fun f=>(P.info? f.type).map fun i=>(f.offset,i.size)).map fun places=>fun i=>places.toArray[i]?
 | _=>none
def QbD (P:Program) (t:TypeId) (parts:List (Nat × AV)):Option AV :=
 if parts.all (fun p=>p.2.kcells.all AV.isCell)=true then
  (zeroCells P t).bind fun z=>(placeOf P t).bind fun pl=>(QhG pl (z.map AV.c) (parts.map fun p=>(p.1,p.2.kcells))).map .agg
 else none
def Qa0 (P:Program) (ρ:Operand→AV) (H:Heap) (o:Oper):Option AV :=
 match o.op with
 | .move x | .assign x=>some (ρ x)
 | .pick c a b=>match ρ c with
  | .c (.bool t)=>some (if t then ρ a else ρ b)
  | _=>none
 | .load t a=>QaK P H t (ρ a)
 | .nilCheck x=>QdH (ρ x)
 | .binOp op t x y _=>binA P H op t (ρ x) (ρ y)
 | .unOp op _ x=>unA op (ρ x)
 | .convert src dst x=>Qke P src dst (ρ x)
 | .makeFunc (.func f) first captured=>some (if first.size=0∧captured.size=0 then .c (.fn f) else .clo f (first.toList.map ρ) (captured.toList.map ρ))
 | .slice t x lo hi mx=>Qfo P H t (ρ x) (lo.map ρ) (hi.map ρ) (mx.map ρ)
 | .fieldAddr s x f=>Qa3 P s (ρ x) f
 | .field s x f=>QoM P s (ρ x) f
 | .indexAddr t x i=>Qa9 P H t (ρ x) (ρ i)
 | .index t x i=>QpE P t (ρ x) (ρ i)
 | .extract t i=>match ρ t with
  | .tup vs=>vs[i]?
  | _=>none
 | .build t parts=>QbD P t (parts.toList.map fun p=>(p.1,ρ p.2))
 | .lookup t x i ok=>QbJ P H t (ρ x) (ρ i) ok
 | .call { callee:=.builtin .len,args,argTypes }=>match args.toList,argTypes.toList with
  | [x],[t]=>lenA P t (ρ x)
  | _,_=>none
 | .call { callee:=.builtin .max,args,.. }=>match args.toList with
  | x::xs=>Qlc Q5p (ρ x) (xs.map ρ)
  | _=>none
 | .call { callee:=.builtin .min,args,.. }=>match args.toList with
  | x::xs=>Qlc Q4Y (ρ x) (xs.map ρ)
  | _=>none
 | .call { callee:=.builtin .cap,args,argTypes }=>match args.toList,argTypes.toList with
  | [x],[t]=>capA P H t (ρ x)
  | _,_=>none
 | _=>none
def frz (H:Heap):AV→Option (IV × Heap)
 | .c x=>some (x,H)
 | .hsl id off len ext sz=>(rowOf H id ext).bind fun r=>if off+len * sz≤ext then some (.slice ((r.2.drop off).take (len * sz)) len false none,H.set id (.row true r.1 r.2)) else none
 | _=>none
def frzs:Heap→List AV→Option (List IV × Heap)
 | H,[]=>some ([],H)
 | H,x::xs=>(frz H x).bind fun r=>(frzs r.2 xs).bind fun s=>some (r.1::s.1,s.2)
def frzV (H:Heap):AV→Option (AV × Heap)
 | .agg cs=>(frzs H cs).map fun r=>(.agg (r.1.map .c),r.2)
 | x=>(frz H x).map fun r=>(.c r.1,r.2)
def Qbi:Heap→List AV→Option (List AV × Heap)
 | H,[]=>some ([],H)
 | H,x::xs=>(frzV H x).bind fun r=>(Qbi r.2 xs).bind fun s=>some (r.1::s.1,s.2)
def frzR (H:Heap):AV→Option (AV × Heap)
 | .tup vs=>(Qbi H vs).map fun r=>(.tup r.1,r.2)
 | x=>frzV H x
def QgU (P:Program) (H:Heap) (t:TypeId) (a x:AV):Option Heap :=
 if Qb0 P t=some x.kcells.length then
  match a with
  | .ptr id off=>match H[id]? with
   | some (.cells e cs)=>if x.kcells.all AV.isCell=true then (Qbh cs off x.kcells).map fun cs'=>H.set id (.cells e cs') else none
   | _=>none
  | .eptr id off ext=>(frzs H x.kcells).bind fun r=>(rowOf r.2 id ext).bind fun q=>if Qcd r.2 id=true then (Qbh q.2 off r.1).map fun cs'=>r.2.set id (.row false q.1 cs') else none
  | _=>none
 else none
def Qdt (P:Program) (H:Heap) (e:TypeId):Option (AV × Heap):=(zeroCells P e).map fun z=>(.ptr H.length 0,H++[.cells e (z.map .c)])
def boxA (H:Heap) (e:TypeId) (x:AV):Option (AV × Heap):=if x.kcells.all AV.isCell=true then some (.ptr H.length 0,H++[.cells e x.kcells]) else none
def roomBytes:Nat:=140737488355328
def Qux (P:Program) (t:TypeId):Option Nat:=(P.info? t).map (·.bytes)
def QbV (H:Heap):Option Nat→Option Nat
 | some s=>match H[s]? with
  | some .slot=>some s
  | _=>none
 | none=>none
def QaU (P:Program) (H:Heap) (sl:Option Nat) (t:TypeId) (l c:AV):Option (AV × Heap) :=
 match l,c with
 | .c (.int .i64 l),.c (.int .i64 c)=>(QbM P t).bind fun e=>(Qb0 P e).bind fun sz=>(Qux P e).bind fun by_=>(zeroCells P e).bind fun z =>
  if 0≤l∧l=c∧c.toNat * by_≤roomBytes∧c.toNat≤roomBytes∧z.length=sz∧0<sz then
   match QbV H sl with
   | some s=>some (.hsl s 0 l.toNat (c.toNat * sz) sz,H.set s (.row false e ((List.replicate c.toNat z).flatten)))
   | none=>some (.hsl H.length 0 l.toNat (c.toNat * sz) sz,H++[.row false e ((List.replicate c.toNat z).flatten)])
  else none
 | _,_=>none
def Qj7 (H:Heap) (sz:Nat):AV→Option (List IV × Nat)
 | .c (.slice cells len _ _)=>if cells.length=len * sz then some (cells,len) else none
 | .hsl id off len ext sz'=>(rowOf H id ext).bind fun r=>if off+len * sz≤ext∧sz'=sz then some ((r.2.drop off).take (len * sz),len) else none
 | _=>none
def Qed (P:Program) (H:Heap) (sl:Option Nat) (t:TypeId) (s x:AV):Option (AV × Heap) :=
 (QbM P t).bind fun e=>(Qb0 P e).bind fun sz=>(Qux P e).bind fun by_=>(Qj7 H sz x).bind fun r =>
  if sz=0∨by_=0∨(zeroCells P e).map List.length≠some sz then none else
  match s with
  | .c (.slice cells len nl cap) =>
   if r.2=0 then some (.c (.slice cells len nl cap),H) else
   match cap with
   | some c=>if c<len+r.2∧(len+r.2) * by_≤roomBytes∧cells.length=len * sz then
     match QbV H sl with
     | some s=>some (.hsl s 0 (len+r.2) ((len+r.2) * sz) sz,H.set s (.row false e (cells++r.1)))
     | none=>some (.hsl H.length 0 (len+r.2) ((len+r.2) * sz) sz,H++[.row false e (cells++r.1)])
    else none
   | none=>none
  | .hsl id off len ext sz'=>(rowOf H id ext).bind fun q =>
   if r.2=0 then some (.hsl id off len ext sz',H) else
   if off=0∧sz'=sz∧len * sz≤ext∧(len+r.2) * by_≤roomBytes∧q.1=e∧Qcd H id=true then
    if (len+r.2) * sz≤ext then some (.hsl id 0 (len+r.2) ext sz,H.set id (.row false e (q.2.take (len * sz)++r.1++q.2.drop ((len+r.2) * sz))))
    else some (.hsl id 0 (len+r.2) ((len+r.2) * sz) sz,H.set id (.row false e (q.2.take (len * sz)++r.1)))
   else none
  | _=>none
def Qec:Heap→List (Nat × AV)→Option (List (Nat × List IV) × Heap)
 | H,[]=>some ([],H)
 | H,p::ps=>(frzs H p.2.kcells).bind fun r=>(Qec r.2 ps).bind fun s=>some ((p.1,r.1)::s.1,s.2)
def QaI (P:Program) (H:Heap) (t:TypeId) (len:Nat) (parts:List (Nat × AV)):Option (AV × Heap) :=
 (QbM P t).bind fun e=>(Qb0 P e).bind fun sz=>(zeroCells P e).bind fun z =>
  if len * sz≤16777216∧z.length=sz∧0<sz∧len≤16777216 then
   (Qec H parts).bind fun r =>
    (QhG (fun i=>some (i * sz,sz)) ((List.replicate len z).flatten) r.1).map fun cs =>
     (.hsl r.2.length 0 len (len * sz) sz,r.2++[.row false e cs])
  else none
def Qua (P:Program) (H:Heap) (t:TypeId) (x:AV):Option Heap :=
 (QbM P t).bind fun e=>(Qb0 P e).bind fun sz=>(zeroCells P e).bind fun z =>
  match x with
  | .c (.slice _ len _ _)=>if len=0 then some H else none
  | .hsl id off len ext sz'=>(rowOf H id ext).bind fun r =>
   if off+len * sz≤ext∧sz'=sz∧z.length=sz∧Qcd H id=true∧0<len then
    some (H.set id (.row false r.1 (r.2.take off++(List.replicate len z).flatten++r.2.drop (off+len * sz))))
   else none
  | _=>none
def Q7L (P:Program) (H:Heap) (t:TypeId) (d s:AV):Option (Nat × Heap) :=
 (QbM P t).bind fun e=>(Qb0 P e).bind fun sz=>(Qj7 H sz s).bind fun r =>
  match d with
  | .c (.slice _ len _ _)=>if len=0∨r.2=0 then some (0,H) else none
  | .hsl id off len ext sz'=>(rowOf H id ext).bind fun q =>
   if off+len * sz≤ext∧sz'=sz∧Qcd H id=true then
    some (min r.2 len,H.set id (.row false q.1 (q.2.take off++r.1.take (min r.2 len * sz)++q.2.drop (off+min r.2 len * sz))))
   else none
  | _=>none
def Qd2 (P:Program) (H:Heap) (t:TypeId) (x k v:AV):Option Heap :=
 (mapT P t).bind fun m=>if QdU P m.1 k=true then
  match x with
  | .hmap id=>match H[id]? with
   | some (.map mt es)=>(QhJ P m.1 k es).map fun r=>match r with
    | some p=>H.set id (.map mt (es.set p.1 (k,v)))
    | none=>H.set id (.map mt (es++[(k,v)]))
   | _=>none
  | _=>none
 else none
def Qc4 (P:Program) (H:Heap) (t:TypeId) (x k:AV):Option (AV × Heap) :=
 (mapT P t).bind fun m=>if QdU P m.1 k=true then
  match x with
  | .hmap id=>match H[id]? with
   | some (.map mt es)=>(QhJ P m.1 k es).bind fun r=>match r with
    | some p=>(es[p.1]?).map fun e=>(.tup [p.2,.c (.int .i64 p.1)],H.set id (.map mt (es.set p.1 (k,e.2))))
    | none=>(zeroV P m.2).map fun z=>(.tup [z,.c (.int .i64 es.length)],H.set id (.map mt (es++[(k,z)])))
   | _=>none
  | _=>none
 else none
def Qb9 (H:Heap) (x st v:AV):Option Heap :=
 match x,st with
 | .hmap id,.c (.int _ n)=>match H[id]? with
  | some (.map mt es)=>if 0≤n then (es[n.toNat]?).map fun e=>H.set id (.map mt (es.set n.toNat (e.1,v))) else none
  | _=>none
 | _,_=>none
def QjW (P:Program) (H:Heap) (t:TypeId) (r:Option AV):Option (AV × Heap) :=
 match r with
 | none=>some (.hmap H.length,H++[.map t []])
 | some (.c (.int _ _))=>(mapT P t).map fun _=>(.hmap H.length,H++[.map t []])
 | _=>none
def Qel (P:Program) (H:Heap) (sl:Option Nat) (e:TypeId):Option (AV × Heap) :=
 match QbV H sl with
 | some s=>(zeroCells P e).map fun z=>(.ptr s 0,H.set s (.cells e (z.map .c)))
 | none=>Qdt P H e
def QbF (P:Program) (sl:Option Nat) (ρ:Operand→AV) (H:Heap) (o:Oper):Option (AV × Heap) :=
 match o.op with
 | .alloc e=>Qel P H sl e
 | .box e x=>boxA H e (ρ x)
 | .store t a x=>(QgU P H t (ρ a) (ρ x)).map fun H'=>(.unk,H')
 | .makeSlice t l c=>QaU P H sl t (ρ l) (ρ c)
 | .buildSlice t len parts=>QaI P H t len (parts.toList.map fun p=>(p.1,ρ p.2))
 | .call { callee:=.builtin .append,args,argTypes }=>match args.toList,argTypes.toList with
  | [s,x],[t,t2]=>if t2=t then Qed P H sl t (ρ s) (ρ x) else none
  | _,_=>none
 | .call { callee:=.builtin .clear,args,argTypes }=>match args.toList,argTypes.toList with
  | [x],[t]=>(Qua P H t (ρ x)).map fun H'=>(.tup [],H')
  | _,_=>none
 | .call { callee:=.builtin .copy,args,argTypes }=>match args.toList,argTypes.toList with
  | [d,s],[t,_]=>(Q7L P H t (ρ d) (ρ s)).map fun r=>(.c (.int .i64 r.1),r.2)
  | _,_=>none
 | .makeMap t r=>QjW P H t (r.map ρ)
 | .mapUpdate t m k x=>(Qd2 P H t (ρ m) (ρ k) (ρ x)).map fun H'=>(.unk,H')
 | .mapEntry t m k=>Qc4 P H t (ρ m) (ρ k)
 | .entryStore _ m s x=>(Qb9 H (ρ m) (ρ s) (ρ x)).map fun H'=>(.unk,H')
 | _=>none
end Go.Ab
