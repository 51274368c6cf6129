/- A part of the proof: an interpreter on abstract values, proved right for every program; no condition. -/
import Derived.OwnWalkIn
import Derived.Laws.AppendOwn
import Derived.Laws.MakeOwn
import Derived.Laws.OwnMore
import Derived.Laws.Cells
import Derived.Laws.Rows
import Derived.Laws.CopyRow
import Derived.WalkKit
import Derived.KernelRfl
namespace Go.Ab
set_option linter.unusedVariables false
set_option linter.unusedSimpArgs false
set_option linter.unusedSectionVars false
inductive IV where
 | bool (b:Bool)
 | int (k:IntKind) (n:Int)
 | str (s:ByteArray)
 | slice (cells:List IV) (len:Nat) (isNil:Bool) (cap:Option Nat)
 | iptr (cells:List IV) (off:Nat)
 | nilp
 | nilmap
 | nilfn
 | niliface
 | fn (f:FuncId)
 deriving Inhabited
inductive AV where
 | c (x:IV)
 | ptr (id off:Nat)
 | eptr (id off ext:Nat)
 | hsl (id off len ext sz:Nat)
 | hmap (id:Nat)
 | yld (id:Nat)
 | clo (fn:FuncId) (first captured:List AV)
 | agg (cells:List AV)
 | tup (vs:List AV)
 /-- the capacity of a slice of one's own (true),or all of its room as a slice (false) -/
 | cw (num:Bool) (id off ext sz:Nat)
 | unk
 deriving Inhabited
inductive PT where
 | nil
 | node (v:AV) (l r:PT)
noncomputable def PT.get (t:PT):Nat→AV :=
 PT.rec (motive:=fun _=>Nat→AV) (fun _=>.unk)
  (fun v _ _ gl gr n=>Bool.rec (motive:=fun _=>AV) (Bool.rec (motive:=fun _=>AV) (gr ((n-1) / 2)) (gl ((n-1) / 2)) (Nat.beq (n % 2) 1)) v (Nat.beq n 0)) t
noncomputable def PT.has (t:PT):Nat→Bool :=
 PT.rec (motive:=fun _=>Nat→Bool) (fun _=>false)
  (fun _ _ _ gl gr n=>Bool.rec (motive:=fun _=>Bool) (Bool.rec (motive:=fun _=>Bool) (gr ((n-1) / 2)) (gl ((n-1) / 2)) (Nat.beq (n % 2) 1)) true (Nat.beq n 0)) t
noncomputable def PT.set (t:PT) (x:AV):Nat→PT :=
 PT.rec (motive:=fun _=>Nat→PT) (fun _=>.nil)
  (fun v l r gl gr n=>Bool.rec (motive:=fun _=>PT) (Bool.rec (motive:=fun _=>PT) (.node v l (gr ((n-1) / 2))) (.node v (gl ((n-1) / 2)) r) (Nat.beq (n % 2) 1)) (.node x l r) (Nat.beq n 0)) t
noncomputable def PT.all (p:AV→Bool) (t:PT):Bool :=
 PT.rec (motive:=fun _=>Bool) true (fun v _ _ gl gr=>Bool.rec (motive:=fun _=>Bool) false (Bool.rec (motive:=fun _=>Bool) false gr gl) (p v)) t
def PT.full:Nat→PT
 | 0=>.nil
 | n+1=>.node .unk (PT.full n) (PT.full n)
theorem PT.get_node (v:AV) (l r:PT) (n:Nat):(PT.node v l r).get n=if n=0 then v else if n % 2=1 then l.get ((n-1) / 2) else r.get ((n-1) / 2):=by
 show Bool.rec (motive:=fun _=>AV) (Bool.rec (motive:=fun _=>AV) (r.get ((n-1) / 2)) (l.get ((n-1) / 2)) (Nat.beq (n % 2) 1)) v (Nat.beq n 0)=_
 cases h:Nat.beq n 0 with
 | true=>rw [if_pos (Nat.eq_of_beq_eq_true h)]
 | false =>
  rw[if_neg (Nat.ne_of_beq_eq_false h)]
  cases h2:Nat.beq (n % 2) 1 with
  | true=>rw [if_pos (Nat.eq_of_beq_eq_true h2)]
  | false=>rw [if_neg (Nat.ne_of_beq_eq_false h2)]
theorem PT.has_node (v:AV) (l r:PT) (n:Nat):(PT.node v l r).has n=if n=0 then true else if n % 2=1 then l.has ((n-1) / 2) else r.has ((n-1) / 2):=by
 show Bool.rec (motive:=fun _=>Bool) (Bool.rec (motive:=fun _=>Bool) (r.has ((n-1) / 2)) (l.has ((n-1) / 2)) (Nat.beq (n % 2) 1)) true (Nat.beq n 0)=_
 cases h:Nat.beq n 0 with
 | true=>rw [if_pos (Nat.eq_of_beq_eq_true h)]
 | false =>
  rw[if_neg (Nat.ne_of_beq_eq_false h)]
  cases h2:Nat.beq (n % 2) 1 with
  | true=>rw [if_pos (Nat.eq_of_beq_eq_true h2)]
  | false=>rw [if_neg (Nat.ne_of_beq_eq_false h2)]
theorem PT.set_node (v:AV) (l r:PT) (x:AV) (n:Nat):(PT.node v l r).set x n=if n=0 then .node x l r else if n % 2=1 then .node v (l.set x ((n-1) / 2)) r else .node v l (r.set x ((n-1) / 2)):=by
 show Bool.rec (motive:=fun _=>PT) (Bool.rec (motive:=fun _=>PT) (.node v l (r.set x ((n-1) / 2))) (.node v (l.set x ((n-1) / 2)) r) (Nat.beq (n % 2) 1)) (.node x l r) (Nat.beq n 0)=_
 cases h:Nat.beq n 0 with
 | true=>rw [if_pos (Nat.eq_of_beq_eq_true h)]
 | false =>
  rw[if_neg (Nat.ne_of_beq_eq_false h)]
  cases h2:Nat.beq (n % 2) 1 with
  | true=>rw [if_pos (Nat.eq_of_beq_eq_true h2)]
  | false=>rw [if_neg (Nat.ne_of_beq_eq_false h2)]
theorem PT.get_set (x:AV):∀ (t:PT) (i j:Nat),(t.set x i).get j=if i=j∧t.has i=true then x else t.get j:=by
 intro t
 induction t with
 | nil=>intro i j;rw [if_neg (by rintro ⟨_,h⟩;cases h)];rfl
 | node v l r ihl ihr =>
  intro i j
  rw[PT.set_node,PT.has_node]
  by_cases hi:i=0
  ·subst hi
   rw[if_pos rfl,if_pos rfl,PT.get_node,PT.get_node]
   by_cases hj:j=0
   ·subst hj;rw [if_pos rfl,if_pos ⟨rfl,rfl⟩]
   ·have hne:¬ (0=j∧true=true):=fun h=>hj h.1.symm
    rw[if_neg hne,if_neg hj,if_neg hj]
  ·rw[if_neg hi,if_neg hi]
   by_cases hi2:i % 2=1
   ·rw[if_pos hi2,if_pos hi2,PT.get_node,PT.get_node]
    by_cases hj:j=0
    ·subst hj;rw [if_pos rfl,if_pos rfl,if_neg (by rintro ⟨h,_⟩;exact hi h)]
    ·rw[if_neg hj,if_neg hj]
     by_cases hj2:j % 2=1
     ·rw[if_pos hj2,if_pos hj2,ihl]
      by_cases e:i=j
      ·subst e;simp
      ·rw[if_neg (by rintro ⟨h,_⟩;omega),if_neg (by rintro ⟨h,_⟩;exact e h)]
     ·rw[if_neg hj2,if_neg hj2,if_neg (by rintro ⟨h,_⟩;subst h;exact hj2 hi2)]
   ·rw[if_neg hi2,if_neg hi2,PT.get_node,PT.get_node]
    by_cases hj:j=0
    ·subst hj;rw [if_pos rfl,if_pos rfl,if_neg (by rintro ⟨h,_⟩;exact hi h)]
    ·rw[if_neg hj,if_neg hj]
     by_cases hj2:j % 2=1
     ·rw[if_pos hj2,if_pos hj2,if_neg (by rintro ⟨h,_⟩;subst h;exact hi2 hj2)]
     ·rw[if_neg hj2,if_neg hj2,ihr]
      by_cases e:i=j
      ·subst e;simp
      ·rw[if_neg (by rintro ⟨h,_⟩;omega),if_neg (by rintro ⟨h,_⟩;exact e h)]
theorem PT.has_set (x:AV):∀ (t:PT) (i j:Nat),(t.set x i).has j=t.has j:=by
 intro t
 induction t with
 | nil=>intro i j;rfl
 | node v l r ihl ihr =>
  intro i j
  rw[PT.set_node]
  split
  ·rw[PT.has_node,PT.has_node]
  ·split
   ·rw[PT.has_node,PT.has_node];simp only [ihl]
   ·rw[PT.has_node,PT.has_node];simp only [ihr]
theorem PT.all_get {p:AV→Bool} (hu:p .unk=true):∀ (t:PT),t.all p=true→∀ i,p (t.get i)=true:=by
 intro t
 induction t with
 | nil=>intro _ i;exact hu
 | node v l r ihl ihr =>
  intro h i
  have h':Bool.rec (motive:=fun _=>Bool) false (Bool.rec (motive:=fun _=>Bool) false (r.all p) (l.all p)) (p v)=true:=h
  have h1:p v=true:=by cases hp:p v with | true=>rfl | false=>rw [hp] at h';cases h'
  rw[h1] at h'
  have h2:l.all p=true:=by cases hp:l.all p with | true=>rfl | false=>rw [hp] at h';cases h'
  rw[h2] at h'
  rw[PT.get_node]
  split
  ·exact h1
  ·split
   ·exact ihl h2 _
   ·exact ihr h' _
theorem PT.full_get:∀ (n i:Nat),(PT.full n).get i=.unk:=by
 intro n
 induction n with
 | zero=>intro i;rfl
 | succ n ih =>
  intro i
  rw[PT.full,PT.get_node]
  split
  ·rfl
  ·split<;>exact ih _
theorem QcZ {i n:Nat}:Nat.blt i n=true↔i<n:=by
 show Nat.ble (i+1) n=true↔i<n
 rw[Nat.ble_eq]
 exact Iff.rfl
theorem QkD {i n:Nat}:Nat.blt i n=false↔¬ i<n:=by
 rw[← QcZ]
 cases Nat.blt i n<;>simp
structure Fr where
 n:Nat
 t:PT
noncomputable def Fr.get (F:Fr) (i:Nat):AV:=F.t.get i
noncomputable def Fr.set (F:Fr) (i:Nat) (x:AV):Fr:=Bool.rec (motive:=fun _=>Fr) F ⟨F.n,F.t.set x i⟩ (Nat.blt i F.n)
noncomputable def Fr.ok (F:Fr) (i:Nat):Bool:=Nat.blt i F.n&&F.t.has i
theorem Fr.set_eq (F:Fr) (i:Nat) (x:AV):F.set i x=if i<F.n then ⟨F.n,F.t.set x i⟩ else F:=by
 unfold Fr.set
 cases h:Nat.blt i F.n with
 | true=>rw [if_pos (QcZ.1 h)]
 | false=>rw [if_neg (QkD.1 h)]
theorem Fr.n_set (F:Fr) (i:Nat) (x:AV):(F.set i x).n=F.n:=by rw [Fr.set_eq];split<;>rfl
theorem Fr.ok_set (F:Fr) (i j:Nat) (x:AV):(F.set i x).ok j=F.ok j:=by
 rw[Fr.set_eq]
 split
 ·simp only[Fr.ok,PT.has_set]
 ·rfl
theorem Fr.get_set (F:Fr) (i j:Nat) (x:AV):(F.set i x).get j=if i=j∧F.ok j=true then x else F.get j:=by
 rw[Fr.set_eq]
 by_cases h:i<F.n
 ·rw[if_pos h]
  simp only[Fr.get,PT.get_set,Fr.ok]
  by_cases e:i=j
  ·subst e
   have:Nat.blt i F.n=true:=QcZ.2 h
   simp[this]
  ·simp[e]
 ·rw[if_neg h]
  by_cases e:i=j
  ·subst e
   have:Nat.blt i F.n=false:=QkD.2 h
   simp[Fr.ok,this]
  ·simp[e]
theorem PT.get_bad:∀ (t:PT) (i:Nat),t.has i=false→t.get i=.unk:=by
 intro t
 induction t with
 | nil=>intro i _;rfl
 | node v l r ihl ihr =>
  intro i h
  rw[PT.has_node] at h
  rw[PT.get_node]
  split
  ·rename_i e;rw [if_pos e] at h;cases h
  ·rename_i e
   rw[if_neg e] at h
   split
   ·rename_i e2;rw [if_pos e2] at h;exact ihl _ h
   ·rename_i e2;rw [if_neg e2] at h;exact ihr _ h
theorem Fr.get_bad {F:Fr} {i:Nat} (hn:i<F.n) (h:F.ok i=false):F.get i=.unk:=by
 have:Nat.blt i F.n=true:=QcZ.2 hn
 simp only[Fr.ok,this,Bool.true_and] at h
 exact PT.get_bad _ _ h
inductive AObj where
 | cells (t:TypeId) (cs:List AV)
 | row (fz:Bool) (t:TypeId) (cs:List IV)
 | map (t:TypeId) (es:List (AV × AV))
 | loop (st:LoopState) (pend:Option Code) (f:FuncId) (tmps:Fr) (params:Array Tmp) (assign body:Code)
 | dead
 | slot
 deriving Inhabited
abbrev Heap:=List AObj
def AObj.tag:AObj→Nat
 | .row .. | .dead=>0
 | .cells ..=>1
 | .map ..=>2
 | .loop ..=>3
 | .slot=>4
def QaR (H:Heap) (i:Nat):Option Nat:=(H[i]?).map AObj.tag
def AV.isCell:AV→Bool
 | .agg _ | .tup _ | .cw .. | .unk=>false
 | _=>true
inductive IRel (S:Nat→Prop) (w:World):IV→Value→Prop
 | bool (b:Bool):IRel S w (.bool b) (.bool b)
 | int (k:IntKind) (n:Int):IRel S w (.int k n) (.int k n)
 | str (s:ByteArray):IRel S w (.str s) (.string s)
 | slice {cells:List IV} {len cap:Nat} {isNil:Bool} {kc:Option Nat} {a:Option Addr} (us:Nat→Value)
   (hn:isNil=a.isNone) (hz:a=none→cap=0) (hk:∀ k,kc=some k→cap=k) (hl:len≤cap) (hm:cap≤maxLen)
   (hc:∀ j,j<cells.length→∃ ad,a=some ad∧S ad.block∧w.cell? (ad.add j)=some (us j))
   (hr:∀ j x,cells[j]?=some x→IRel S w x (us j)):IRel S w (.slice cells len isNil kc) (.slice a len cap)
 | iptr {cells:List IV} {off:Nat} (ad:Addr) (us:Nat→Value)
   (hc:∀ j,j<cells.length→S ad.block∧w.cell? (ad.add j)=some (us j))
   (hr:∀ j x,cells[j]?=some x→IRel S w x (us j)):IRel S w (.iptr cells off) (.pointer (some (ad.add off)))
 | nilp:IRel S w .nilp (.pointer none)
 | nilmap:IRel S w .nilmap (.map none)
 | nilfn:IRel S w .nilfn .nilFunc
 | niliface:IRel S w .niliface .nilIface
 | fn (f:FuncId):IRel S w (.fn f) (.func (.func f) #[] #[])
theorem IRel.mono {S S':Nat→Prop} {w w':World} {x:IV} {v:Value} (h:IRel S w x v) (hS:∀ b,S b→S' b)
  (hw:∀ b,S b→w'.heap[b]?=w.heap[b]?):IRel S' w' x v:=by
 induction h with
 | bool b=>exact .bool b
 | int k n=>exact .int k n
 | str s=>exact .str s
 | slice us hn hz hk hl hm hc _ ih =>
  refine .slice us hn hz hk hl hm (fun j hj=>?_) (fun j x hx=>ih j x hx)
  obtain⟨ad,h1,h2,h3⟩:=hc j hj
  refine⟨ad,h1,hS _ h2, ?_⟩
  rw[World.cell?_of_block (w:=w) (by rw [show (ad.add j).block=ad.block by unfold Addr.add;split<;>rfl];exact hw _ h2)]
  exact h3
 | iptr ad us hc _ ih =>
  refine .iptr ad us (fun j hj=>?_) (fun j x hx=>ih j x hx)
  obtain⟨h2,h3⟩:=hc j hj
  refine⟨hS _ h2, ?_⟩
  rw[World.cell?_of_block (w:=w) (by rw [show (ad.add j).block=ad.block by unfold Addr.add;split<;>rfl];exact hw _ h2)]
  exact h3
 | nilp=>exact .nilp
 | nilmap=>exact .nilmap
 | nilfn=>exact .nilfn
 | niliface=>exact .niliface
 | fn f=>exact .fn f
theorem IRel.oneCell {S:Nat→Prop} {w:World} {x:IV} {v:Value} (h:IRel S w x v):v.oneCell'=true:=by
 cases h<;>rfl
inductive VRel (S:Nat→Prop) (σ:List Nat) (H:Heap) (w:World):AV→Value→Prop
 | c {x:IV} {v:Value} (h:IRel S w x v):VRel S σ H w (.c x) v
 | ptr {id off b:Nat} (hs:σ[id]?=some b) (hd:QaR H id=some 1):VRel S σ H w (.ptr id off) (.pointer (some ⟨b,off,none⟩))
 | eptr {id off ext:Nat} {a:Addr} (hd:QaR H id=some 0)
   (h:∀ fz t cs,H[id]?=some (.row fz t cs)→ext≤cs.length∧(ext=cs.length→∃ b,σ[id]?=some b∧a=⟨b,off,none⟩)):VRel S σ H w (.eptr id off ext) (.pointer (some a))
 | hsl {id off len ext sz cap:Nat} {a:Option Addr} (hd:QaR H id=some 0)
   (h:∀ fz t cs,H[id]?=some (.row fz t cs)→ext≤cs.length∧(ext=cs.length→∃ b cur e,σ[id]?=some b∧a=some ⟨b,off,none⟩∧w.heap[b]?=some (.cells cur e (0,0))∧len≤cap∧cap≤maxLen∧off+cap * sz=cur.size)) :
   VRel S σ H w (.hsl id off len ext sz) (.slice a len cap)
 | hmap {id b:Nat} (hs:σ[id]?=some b) (hd:QaR H id=some 2):VRel S σ H w (.hmap id) (.map (some b))
 | yld {id b:Nat} (hs:σ[id]?=some b) (hd:QaR H id=some 3):VRel S σ H w (.yld id) (.func (.yield b) #[] #[])
 | clo {fn:FuncId} {first captured:List AV} {vf vc:Array Value} (h1:vf.size=first.length) (h2:vc.size=captured.length)
   (r1:∀ i x,first[i]?=some x→VRel S σ H w x (vf.getD i undef)) (r2:∀ i x,captured[i]?=some x→VRel S σ H w x (vc.getD i undef)) :
   VRel S σ H w (.clo fn first captured) (.func (.func fn) vf vc)
 | agg {cells:List AV} {vs:Array Value} (h1:vs.size=cells.length) (h2:∀ x ∈ cells,x.isCell=true) (r:∀ i x,cells[i]?=some x→VRel S σ H w x (vs.getD i undef)):VRel S σ H w (.agg cells) (.agg vs)
 | tup {xs:List AV} {vs:Array Value} (h1:vs.size=xs.length) (r:∀ i x,xs[i]?=some x→VRel S σ H w x (vs.getD i undef)):VRel S σ H w (.tup xs) (.tuple vs)
 | cw {num:Bool} {id off ext sz:Nat} {v:Value} (hd:QaR H id=some 0)
   (h:∀ fz t cs,H[id]?=some (.row fz t cs)→ext≤cs.length∧(ext=cs.length→∃ b cur e cap,σ[id]?=some b∧w.heap[b]?=some (.cells cur e (0,0))∧cap≤maxLen∧off+cap * sz=cur.size∧v=bif num then .int .i64 cap else .slice (some ⟨b,off,none⟩) cap cap)) :
   VRel S σ H w (.cw num id off ext sz) v
 | unk {v:Value}:VRel S σ H w .unk v
theorem VRel.oneCell {S:Nat→Prop} {σ:List Nat} {H:Heap} {w:World} {x:AV} {v:Value} (h:VRel S σ H w x v) (hx:x.isCell=true):v.oneCell'=true:=by
 cases h with
 | c h=>exact h.oneCell
 | agg=>simp [AV.isCell] at hx
 | tup=>simp [AV.isCell] at hx
 | cw=>simp [AV.isCell] at hx
 | unk=>simp [AV.isCell] at hx
 | _=>rfl
def ORel (S:Nat→Prop) (σ:List Nat) (H:Heap) (w:World) (b:Nat):AObj→Prop
 | .cells t cs=>∃ vs:Array Value,w.heap[b]?=some (.cells vs t (0,0))∧vs.size=cs.length∧(∀ x ∈ cs,AV.isCell x=true)∧∀ i x,cs[i]?=some x→VRel S σ H w x (vs.getD i undef)
 | .row _ t cs=>∃ cur:Array Value,w.heap[b]?=some (.cells cur t (0,0))∧cs.length≤cur.size∧∀ i x,cs[i]?=some x→IRel S w x (cur.getD i undef)
 | .map _ es=>∃ (ms:Array MapEntry) (clock:Nat),w.heap[b]?=some (.map ms clock)∧ms.size=es.length∧clock=ms.size∧(∀ (i:Nat) (e:MapEntry),ms[i]?=some e→e.born=i)∧∀ (i:Nat) (k v:AV),(es:List (AV × AV))[i]?=some (k,v)→∃ e:MapEntry,ms[i]?=some e∧VRel S σ H w k e.key∧VRel S σ H w v e.val
 | .loop st pend _ tmps params assign body=>∃ (vs:Array Value) (d:Nat) (g:FuncId),w.heap[b]?=some (.loop { state:=st,pending:=pend,fn:=g,tmps:=vs,params:=params,assign:=assign,body:=body,defers:=d }) ∧
   vs.size=tmps.n∧∀ i,VRel S σ H w (tmps.get i) (vs.getD i undef)
 | .dead=>True
 | .slot=>True
def AObj.live:AObj→Bool
 | .row true _ _ | .dead | .slot=>false
 | _=>true
class Globals where
 gl:Nat→Option (List IV)
 /-- what some functions answer,shown without the interpreter -/
 fn:FuncId→List AV→List AObj→Option (AV × List AObj):=fun _ _ _=>none
structure Inv [Globals] (S:Nat→Prop) (σ:List Nat) (H:Heap) (w:World):Prop where
 len:σ.length=H.length
 lt:∀ (i b:Nat) (o:AObj),σ[i]?=some b→H[i]?=some o→o≠.slot→b<w.heap.size
 st:∀ b,S b→b<w.heap.size
 free:∀ (i b:Nat) (o:AObj),σ[i]?=some b→H[i]?=some o→o.live=true→¬ S b
 inj:∀ (i j b:Nat) (o o':AObj),σ[i]?=some b→σ[j]?=some b→H[i]?=some o→H[j]?=some o'→o.live=true→o'.live=true→i=j
 obj:∀ (i b:Nat) (o:AObj),σ[i]?=some b→H[i]?=some o→ORel S σ H w b o
 fz:∀ (i b:Nat) (t:TypeId) (cs:List IV),σ[i]?=some b→H[i]?=some (.row true t cs)→S b
 glob:∀ (g:Nat) (cells:List IV),Globals.gl g=some cells→IRel S w (.iptr cells 0) (.pointer (some ⟨g,0,none⟩))
def Qdq (σ:List Nat) (H:Heap) (b:Nat):Prop:=∃ (i:Nat) (o:AObj),σ[i]?=some b∧H[i]?=some o∧o.live=true
structure Tr (S:Nat→Prop) (σ:List Nat) (H:Heap) (w:World) (S':Nat→Prop) (σ':List Nat) (H':Heap) (w':World):Prop where
 os:w'.os=w.os
 tape:w'.tape=w.tape
 output:w'.output=w.output
 size:w.heap.size≤w'.heap.size
 keep:∀ b,b<w.heap.size→¬ Qdq σ H b→w'.heap[b]?=w.heap[b]?
 shape:∀ (b:Nat) (cur:Array Value) (t:TypeId) (fr:Nat × Nat),w.heap[b]?=some (.cells cur t fr)→∃ cur',w'.heap[b]?=some (.cells cur' t fr)∧cur'.size=cur.size
 st:∀ b,S b→S' b
 st':∀ b,S' b→S b∨w.heap.size≤b∨Qdq σ H b
 len:H.length≤H'.length
 tag:∀ i,i<H.length→QaR H i≠some 4→QaR H' i=QaR H i
 fix:∀ i,i<H.length→QaR H i≠some 4→QaR H i≠some 0→σ'[i]?=σ[i]?
 row:∀ i fz t cs,i<H.length→QaR H i≠some 4→H'[i]?=some (.row fz t cs)→∃ fz0 cs0,H[i]?=some (.row fz0 t cs0)∧cs0.length≤cs.length∧(cs0.length=cs.length→σ'[i]?=σ[i]?)
 fresh:∀ b,Qdq σ' H' b→w.heap.size≤b∨Qdq σ H b
theorem QxU (a:Addr) (j:Nat):(a.add j).block=a.block:=by unfold Addr.add;split<;>rfl
theorem QdN {H:Heap} {i k:Nat} (h:QaR H i=some k):i<H.length:=by
 unfold QaR at h
 rcases Nat.lt_or_ge i H.length with hlt | hge
 ·exact hlt
 ·rw[List.getElem?_eq_none hge] at h;cases h
section
variable {S S' S'':Nat→Prop} {σ σ' σ'':List Nat} {H H' H'':Heap} {w w' w'':World}
theorem Inv.not_owned [Globals] (hI:Inv S σ H w) {b:Nat} (hb:S b):¬ Qdq σ H b:=fun ⟨i,o,h1,h2,h3⟩=>hI.free i b o h1 h2 h3 hb
theorem IRel.tr [Globals] {x:IV} {v:Value} (h:IRel S w x v) (hI:Inv S σ H w) (hT:Tr S σ H w S' σ' H' w'):IRel S' w' x v :=
 h.mono hT.st fun b hb=>hT.keep b (hI.st b hb) (hI.not_owned hb)
theorem VRel.tr [Globals] {x:AV} {v:Value} (h:VRel S σ H w x v) (hI:Inv S σ H w) (hT:Tr S σ H w S' σ' H' w'):VRel S' σ' H' w' x v:=by
 induction h with
 | c h=>exact .c (h.tr hI hT)
 | ptr hs hd =>
  have hl:=QdN hd
  exact .ptr (by rw [hT.fix _ hl (by rw [hd];simp) (by rw [hd];simp)];exact hs) (by rw [hT.tag _ hl (by rw [hd];simp)];exact hd)
 | eptr hd h =>
  have hl:=QdN hd
  refine .eptr (by rw [hT.tag _ hl (by rw [hd];simp)];exact hd) fun fz t cs hc=>?_
  obtain⟨fz0,cs0,h0,hle,hσ⟩:=hT.row _ fz t cs hl (by rw [hd];simp) hc
  obtain⟨h1,h2⟩:=h fz0 t cs0 h0
  refine⟨by omega,fun he=>?_⟩
  obtain⟨b,hb,ha⟩:=h2 (by omega)
  exact⟨b,by rw [hσ (by omega)];exact hb,ha⟩
 | hsl hd h =>
  have hl:=QdN hd
  refine .hsl (by rw [hT.tag _ hl (by rw [hd];simp)];exact hd) fun fz t cs hc=>?_
  obtain⟨fz0,cs0,h0,hle,hσ⟩:=hT.row _ fz t cs hl (by rw [hd];simp) hc
  obtain⟨h1,h2⟩:=h fz0 t cs0 h0
  refine⟨by omega,fun he=>?_⟩
  obtain⟨b,cur,e,hb,ha,hw,hlc,hcm,hoc⟩:=h2 (by omega)
  obtain⟨cur',hw',hsz⟩:=hT.shape b cur e _ hw
  exact⟨b,cur',e,by rw [hσ (by omega)];exact hb,ha,hw',hlc,hcm,by rw [hsz];exact hoc⟩
 | hmap hs hd =>
  have hl:=QdN hd
  exact .hmap (by rw [hT.fix _ hl (by rw [hd];simp) (by rw [hd];simp)];exact hs) (by rw [hT.tag _ hl (by rw [hd];simp)];exact hd)
 | yld hs hd =>
  have hl:=QdN hd
  exact .yld (by rw [hT.fix _ hl (by rw [hd];simp) (by rw [hd];simp)];exact hs) (by rw [hT.tag _ hl (by rw [hd];simp)];exact hd)
 | clo h1 h2 _ _ ih1 ih2=>exact .clo h1 h2 ih1 ih2
 | agg h1 h2 _ ih=>exact .agg h1 h2 ih
 | tup h1 _ ih=>exact .tup h1 ih
 | cw hd h =>
  have hl:=QdN hd
  refine .cw (by rw [hT.tag _ hl (by rw [hd];simp)];exact hd) fun fz t cs hc=>?_
  obtain⟨fz0,cs0,h0,hle,hσ⟩:=hT.row _ fz t cs hl (by rw [hd];simp) hc
  obtain⟨h1,h2⟩:=h fz0 t cs0 h0
  refine⟨by omega,fun he=>?_⟩
  obtain⟨b,cur,e,cap,hb,hw,hcm,hoc,hv⟩:=h2 (by omega)
  obtain⟨cur',hw',hsz⟩:=hT.shape b cur e _ hw
  exact⟨b,cur',e,cap,by rw [hσ (by omega)];exact hb,hw',hcm,by rw [hsz];exact hoc,hv⟩
 | unk=>exact .unk
theorem Tr.refl (S:Nat→Prop) (σ:List Nat) (H:Heap) (w:World):Tr S σ H w S σ H w :=
 ⟨rfl,rfl,rfl,Nat.le_refl _,fun _ _ _=>rfl,fun _ cur _ _ h=>⟨cur,h,rfl⟩,fun _ h=>h,fun _ h=>.inl h,Nat.le_refl _,fun _ _ _=>rfl,fun _ _ _ _=>rfl,fun _ fz _ cs _ _ h=>⟨fz,cs,h,Nat.le_refl _,fun _=>rfl⟩,fun _ h=>.inr h⟩
theorem Tr.trans (hT:Tr S σ H w S' σ' H' w') (hU:Tr S' σ' H' w' S'' σ'' H'' w''):Tr S σ H w S'' σ'' H'' w'' where
 os:=hU.os.trans hT.os
 tape:=hU.tape.trans hT.tape
 output:=hU.output.trans hT.output
 size:=Nat.le_trans hT.size hU.size
 keep:=fun b hb hn=>by
  rw[hU.keep b (Nat.lt_of_lt_of_le hb hT.size) (fun ho=>?_)]
  ·exact hT.keep b hb hn
  ·rcases hT.fresh b ho with h | h
   ·omega
   ·exact hn h
 shape:=fun b cur t fr h=>by
  obtain⟨c1,h1,e1⟩:=hT.shape b cur t fr h
  obtain⟨c2,h2,e2⟩:=hU.shape b c1 t fr h1
  exact⟨c2,h2,e2.trans e1⟩
 st:=fun b h=>hU.st b (hT.st b h)
 st':=fun b h=>by
  rcases hU.st' b h with h | h | h
  ·exact hT.st' b h
  ·exact .inr (.inl (Nat.le_trans hT.size h))
  ·rcases hT.fresh b h with h | h
   ·exact .inr (.inl h)
   ·exact .inr (.inr h)
 len:=Nat.le_trans hT.len hU.len
 tag:=fun i hi h4=>(hU.tag i (Nat.lt_of_lt_of_le hi hT.len) (by rw [hT.tag i hi h4];exact h4)).trans (hT.tag i hi h4)
 fix:=fun i hi h4 h=>(hU.fix i (Nat.lt_of_lt_of_le hi hT.len) (by rw [hT.tag i hi h4];exact h4) (by rw [hT.tag i hi h4];exact h)).trans (hT.fix i hi h4 h)
 row:=fun i fz t cs hi h4 h=>by
  obtain⟨f1,c1,h1,l1,s1⟩:=hU.row i fz t cs (Nat.lt_of_lt_of_le hi hT.len) (by rw [hT.tag i hi h4];exact h4) h
  obtain⟨f0,c0,h0,l0,s0⟩:=hT.row i f1 t c1 hi h4 h1
  exact⟨f0,c0,h0,Nat.le_trans l0 l1,fun he=>(s1 (by omega)).trans (s0 (by omega))⟩
 fresh:=fun b h=>by
  rcases hU.fresh b h with h | h
  ·exact .inl (Nat.le_trans hT.size h)
  ·exact hT.fresh b h
theorem Tr.drew (S:Nat→Prop) (σ:List Nat) (H:Heap) (w:World):Tr S σ H w S σ H w.drew :=
 ⟨rfl,rfl,rfl,Nat.le_refl _,fun _ _ _=>rfl,fun _ cur _ _ h=>⟨cur,h,rfl⟩,fun _ h=>h,fun _ h=>.inl h,Nat.le_refl _,fun _ _ _=>rfl,fun _ _ _ _=>rfl,fun _ fz _ cs _ _ h=>⟨fz,cs,h,Nat.le_refl _,fun _=>rfl⟩,fun _ h=>.inr h⟩
end
end Go.Ab
