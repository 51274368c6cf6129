/- A part of the proof: an interpreter on abstract values, proved right for every program; no condition. -/
import Derived.Test.YtiiannaficbjeaaDoorAbRun
import Derived.RangeFuncRecord
import Derived.RangeFuncLeaves
namespace Go.Ab
set_option linter.unusedVariables false
set_option linter.unusedSimpArgs false
set_option linter.unusedSectionVars false
open Go.RowKit
def Fw (r:Option Nat):Fence:={ Fence.wide with round:=r }
theorem Qnu {r:Option Nat} {n:Nat} {P:Program} {f:FuncId} {args:Array Value} {w:World} {R:Ending→World→Prop} (h:Calls P f args w R):CallsIn (Fw r) n P f args w R :=
 (callsIn_wide (n:=n)).2 h
section
variable {S S' S'':Nat→Prop} {σ σ' σ'':List Nat} {H H' H'':Heap} {w w' w'':World} {P:Program}
def Qcw [Globals] (S:Nat→Prop) (σ:List Nat) (H:Heap) (w:World) (r:AV) (H':Heap) (e:Ending) (w':World):Prop :=
 ∃ v S' σ',e=.returned v∧Inv S' σ' H' w'∧Tr S σ H w S' σ' H' w'∧VRel S' σ' H' w' r v
def Qbw [Globals] (P:Program) (call:FuncId→List AV→Heap→Option (AV × Heap)):Prop :=
 ∀ (g:FuncId) (args:List AV) (H:Heap) (r:AV) (H':Heap),call g args H=some (r,H') →
  (∃ fn,P.funcs[g]?=some fn∧fn.body.isSome=true∧(fn.name == "runtime.NumGoroutine")=false) ∧
  ∀ (S:Nat→Prop) (σ:List Nat) (w:World) (vs:Array Value),Inv S σ H w→All2 (VRel S σ H w) args vs.toList→Calls P g vs w (Qcw S σ H w r H')
theorem FRel.tr [Globals] {F:Fr} {tmps:Array Value} (h:FRel S σ H w F tmps) (hI:Inv S σ H w) (hT:Tr S σ H w S' σ' H' w'):FRel S' σ' H' w' F tmps :=
 ⟨h.1,fun i=>(h.2 i).tr hI hT⟩
theorem FRel.set {F:Fr} {tmps:Array Value} (h:FRel S σ H w F tmps) {x:AV} {v:Value} (hx:VRel S σ H w x v) (d:Nat):FRel S σ H w (F.set d x) (tmps.setIfInBounds d v):=by
 refine⟨by rw [Fr.n_set,h.1];simp,fun i=>?_⟩
 rw[Fr.get_set,Array.getD_eq_getD_getElem?,Array.getElem?_setIfInBounds]
 have h2:=h.2 i
 by_cases e:d=i
 ·subst e
  rw[if_pos rfl]
  by_cases hlt:d<tmps.size
  ·rw[if_pos hlt]
   by_cases ho:F.ok d=true
   ·rw[if_pos ⟨rfl,ho⟩];exact hx
   ·rw[if_neg (fun h=>ho h.2)]
    have:F.get d=.unk:=Fr.get_bad (by rw [h.1];exact hlt) (by simpa using ho)
    rw[this]
    exact .unk
  ·have hno:F.ok d=false:=by
    have:Nat.blt d F.n=false:=QkD.2 (by rw [h.1];exact hlt)
    simp[Fr.ok,this]
   rw[if_neg hlt,if_neg (by rintro ⟨_,h⟩;rw [hno] at h;cases h)]
   rw[Array.getD_eq_getD_getElem?,Array.getElem?_eq_none (by omega)] at h2
   exact h2
 ·rw[if_neg (fun h=>e h.1),if_neg e]
  rwa [Array.getD_eq_getD_getElem?] at h2
theorem FRel.put {F:Fr} {a:Act} (h:FRel S σ H w F a.tmps) {x:AV} {v:Value} (hx:VRel S σ H w x v) (dst:Option Tmp):FRel S σ H w (setD F dst x) (a.put dst v).tmps:=by
 cases dst with
 | none=>exact h
 | some d=>exact h.set hx d
theorem put_defers (a:Act) (dst:Option Tmp) (v:Value):(a.put dst v).defers=a.defers:=by cases dst<;>rfl
theorem FRel.unset {F:Fr} {tmps:Array Value} (h:FRel S σ H w F tmps) (d:Nat):FRel S σ H w (F.set d .unk) tmps:=by
 refine⟨by rw [Fr.n_set,h.1],fun i=>?_⟩
 rw[Fr.get_set]
 split
 ·exact .unk
 ·exact h.2 i
theorem FRel.clear {tmps:Array Value}:∀ (cl:List Nat) {F:Fr},FRel S σ H w F tmps→FRel S σ H w (QaJ F cl) tmps
 | [],_,h=>h
 | t::ts,F,h=>FRel.clear ts (F:=F.set t .unk) (h.unset t)
theorem QcE {n i:Nat} (hi:i<n):QaR (H.take n) i=QaR H i:=by
 unfold QaR
 rw[List.getElem?_take_of_lt hi]
theorem QcD [Globals] {n:Nat} {x:AV} {v:Value} (h:VRel S σ H w x v) (hx:x.under1 n=true) :
  VRel S (σ.take n) (H.take n) w x v:=by
 cases h with
 | c h=>exact .c h
 | ptr hs hd =>
  have hlt:=of_decide_eq_true hx
  exact .ptr (by rw [List.getElem?_take_of_lt hlt];exact hs) (by rw [QcE hlt];exact hd)
 | eptr hd h =>
  have hlt:=of_decide_eq_true hx
  refine .eptr (by rw [QcE hlt];exact hd) fun fz t cs hc=>?_
  rw[List.getElem?_take_of_lt hlt] at hc
  obtain⟨h1,h2⟩:=h fz t cs hc
  refine⟨h1,fun he=>?_⟩
  obtain⟨b,hb,ha⟩:=h2 he
  exact⟨b,by rw [List.getElem?_take_of_lt hlt];exact hb,ha⟩
 | hsl hd h =>
  have hlt:=of_decide_eq_true hx
  refine .hsl (by rw [QcE hlt];exact hd) fun fz t cs hc=>?_
  rw[List.getElem?_take_of_lt hlt] at hc
  obtain⟨h1,h2⟩:=h fz t cs hc
  refine⟨h1,fun he=>?_⟩
  obtain⟨b,cur,e,hb,ha⟩:=h2 he
  exact⟨b,cur,e,by rw [List.getElem?_take_of_lt hlt];exact hb,ha⟩
 | cw hd h =>
  have hlt:=of_decide_eq_true hx
  refine .cw (by rw [QcE hlt];exact hd) fun fz t cs hc=>?_
  rw[List.getElem?_take_of_lt hlt] at hc
  obtain⟨h1,h2⟩:=h fz t cs hc
  refine⟨h1,fun he=>?_⟩
  obtain⟨b,cur,e,cap,hb,ha⟩:=h2 he
  exact⟨b,cur,e,cap,by rw [List.getElem?_take_of_lt hlt];exact hb,ha⟩
 | hmap hs hd =>
  have hlt:=of_decide_eq_true hx
  exact .hmap (by rw [List.getElem?_take_of_lt hlt];exact hs) (by rw [QcE hlt];exact hd)
 | yld hs hd =>
  have hlt:=of_decide_eq_true hx
  exact .yld (by rw [List.getElem?_take_of_lt hlt];exact hs) (by rw [QcE hlt];exact hd)
 | clo=>cases hx
 | agg=>cases hx
 | tup=>cases hx
 | unk=>cases hx
theorem Qdo [Globals] {n:Nat} {x:AV} {v:Value} (h:VRel S σ H w x v) (hx:x.under0 n=true) :
  VRel S (σ.take n) (H.take n) w x v:=by
 cases h with
 | clo h1 h2 r1 r2 =>
  simp only[AV.under0,Bool.and_eq_true,List.all_eq_true] at hx
  exact .clo h1 h2 (fun i y hi=>QcD (r1 i y hi) (hx.1 y (List.mem_of_getElem? hi))) (fun i y hi=>QcD (r2 i y hi) (hx.2 y (List.mem_of_getElem? hi)))
 | c h=>exact .c h
 | ptr hs hd=>exact QcD (.ptr hs hd) hx
 | eptr hd h=>exact QcD (.eptr hd h) hx
 | hsl hd h=>exact QcD (.hsl hd h) hx
 | cw hd h=>exact QcD (.cw hd h) hx
 | yld hs hd=>exact QcD (.yld hs hd) hx
 | hmap hs hd=>exact QcD (.hmap hs hd) hx
 | agg=>cases hx
 | tup=>cases hx
 | unk=>cases hx
theorem VRel.trimA [Globals] {n:Nat} {x:AV} {v:Value} (h:VRel S σ H w x v) (hx:x.underA n=true):VRel S (σ.take n) (H.take n) w x v:=by
 cases h with
 | agg h1 h2 r =>
  simp only[AV.underA,List.all_eq_true] at hx
  exact .agg h1 h2 fun i y hi=>Qdo (r i y hi) (hx y (List.mem_of_getElem? hi))
 | unk=>exact .unk
 | c h=>exact .c h
 | ptr hs hd=>exact Qdo (.ptr hs hd) hx
 | eptr hd h=>exact Qdo (.eptr hd h) hx
 | hsl hd h=>exact Qdo (.hsl hd h) hx
 | cw hd h=>exact Qdo (.cw hd h) hx
 | hmap hs hd=>exact Qdo (.hmap hs hd) hx
 | yld hs hd=>exact Qdo (.yld hs hd) hx
 | clo h1 h2 r1 r2=>exact Qdo (.clo h1 h2 r1 r2) hx
 | tup h1 r =>
  rename_i xs vs
  cases xs with
  | nil=>exact .tup h1 fun i y hi=>by simp at hi
  | cons=>cases hx
theorem VRel.trim [Globals] {n:Nat} {x:AV} {v:Value} (h:VRel S σ H w x v) (hx:x.under n=true):VRel S (σ.take n) (H.take n) w x v:=by
 cases h with
 | tup h1 r =>
  simp only[AV.under,List.all_eq_true] at hx
  exact .tup h1 fun i y hi=>(r i y hi).trimA (hx y (List.mem_of_getElem? hi))
 | agg h1 h2 r=>exact VRel.trimA (.agg h1 h2 r) hx
 | unk=>exact .unk
 | c h=>exact .c h
 | ptr hs hd=>exact VRel.trimA (.ptr hs hd) hx
 | eptr hd h=>exact VRel.trimA (.eptr hd h) hx
 | hsl hd h=>exact VRel.trimA (.hsl hd h) hx
 | cw hd h=>exact VRel.trimA (.cw hd h) hx
 | hmap hs hd=>exact VRel.trimA (.hmap hs hd) hx
 | yld hs hd=>exact VRel.trimA (.yld hs hd) hx
 | clo h1 h2 r1 r2=>exact VRel.trimA (.clo h1 h2 r1 r2) hx
theorem VRel.trimV [Globals] {n:Nat} {x:AV} {v:Value} (h:VRel S σ H w x v) (hx:x.underV n=true):VRel S (σ.take n) (H.take n) w x v:=by
 cases h with
 | tup h1 r =>
  simp only[AV.underV,List.all_eq_true] at hx
  exact .tup h1 fun i y hi=>(r i y hi).trim (hx y (List.mem_of_getElem? hi))
 | agg h1 h2 r=>exact VRel.trim (.agg h1 h2 r) hx
 | unk=>exact .unk
 | c h=>exact .c h
 | ptr hs hd=>exact VRel.trim (.ptr hs hd) hx
 | eptr hd h=>exact VRel.trim (.eptr hd h) hx
 | hsl hd h=>exact VRel.trim (.hsl hd h) hx
 | cw hd h=>exact VRel.trim (.cw hd h) hx
 | hmap hs hd=>exact VRel.trim (.hmap hs hd) hx
 | yld hs hd=>exact VRel.trim (.yld hs hd) hx
 | clo h1 h2 r1 r2=>exact VRel.trim (.clo h1 h2 r1 r2) hx
theorem ORel.trim [Globals] {n b:Nat} {o:AObj} (h:ORel S σ H w b o) (hx:o.under n=true):ORel S (σ.take n) (H.take n) w b o:=by
 cases o with
 | cells t cs =>
  obtain⟨vs,h1,h2,h3,h4⟩:=h
  simp only[AObj.under,List.all_eq_true] at hx
  exact⟨vs,h1,h2,h3,fun i y hi=>(h4 i y hi).trim (hx y (List.mem_of_getElem? hi))⟩
 | row fz t cs=>exact h
 | map t es =>
  obtain⟨ms,clock,h1,h2,h3,h4,h5⟩:=h
  simp only[AObj.under,List.all_eq_true,Bool.and_eq_true] at hx
  refine⟨ms,clock,h1,h2,h3,h4,fun i k v hi=>?_⟩
  obtain⟨e,he,hk,hv⟩:=h5 i k v hi
  obtain⟨x1,x2⟩:=hx _ (List.mem_of_getElem? hi)
  exact⟨e,he,hk.trim x1,hv.trim x2⟩
 | loop st pend f tmps ps as b =>
  obtain⟨vs,d,g,h1,h2,h3⟩:=h
  simp only[AObj.under] at hx
  exact⟨vs,d,g,h1,h2,fun i=>(h3 i).trim (PT.all_get rfl _ hx i)⟩
 | dead=>trivial
 | slot=>trivial
theorem Inv.trim [Globals] {n:Nat} (hI:Inv S σ H w) (hx:(H.take n).all (AObj.under n)=true):Inv S (σ.take n) (H.take n) w:=by
 have hg:∀ (i b:Nat),(σ.take n)[i]?=some b→i<n∧σ[i]?=some b:=by
  intro i b h
  rw[List.getElem?_take] at h
  split at h
  ·exact⟨by assumption,h⟩
  ·cases h
 have hH:∀ (i:Nat) (o:AObj),(H.take n)[i]?=some o→i<n∧H[i]?=some o:=by
  intro i b h
  rw[List.getElem?_take] at h
  split at h
  ·exact⟨by assumption,h⟩
  ·cases h
 simp only[List.all_eq_true] at hx
 exact⟨by simp [hI.len],fun i b o h ho hne=>hI.lt i b o (hg i b h).2 (hH i o ho).2 hne,hI.st,fun i b o h ho=>hI.free i b o (hg i b h).2 (hH i o ho).2,fun i j b o o' h1 h2 h3 h4=>hI.inj i j b o o' (hg i b h1).2 (hg j b h2).2 (hH i o h3).2 (hH j o' h4).2,
  fun i b o h ho=>(hI.obj i b o (hg i b h).2 (hH i o ho).2).trim (hx o (List.mem_of_getElem? ho)),fun i b t cs h ho=>hI.fz i b t cs (hg i b h).2 (hH i _ ho).2,hI.glob⟩
theorem Tr.trim [Globals] {n:Nat} (hT:Tr S σ H w S' σ' H' w') (hn:n=H.length):Tr S σ H w S' (σ'.take n) (H'.take n) w':=by
 refine⟨hT.os,hT.tape,hT.output,hT.size,hT.keep,hT.shape,hT.st,hT.st', ?_,fun i hi h4=>?_,fun i hi h4 h=>?_,fun i fz t cs hi h4 h=>?_,fun b h=>?_⟩
 ·have:=hT.len;simp;omega
 ·rw[QcE (by omega)];exact hT.tag i hi h4
 ·rw[List.getElem?_take_of_lt (by omega)];exact hT.fix i hi h4 h
 ·rw[List.getElem?_take_of_lt (by omega)] at h
  obtain⟨fz0,cs0,h0,h1,h2⟩:=hT.row i fz t cs hi h4 h
  exact⟨fz0,cs0,h0,h1,fun he=>by rw [List.getElem?_take_of_lt (by omega)];exact h2 he⟩
 ·obtain⟨i,o,h1,h2,h3⟩:=h
  rw[List.getElem?_take] at h1 h2
  split at h1
  ·rename_i hi
   rw[if_pos hi] at h2
   exact hT.fresh b ⟨i,o,h1,h2,h3⟩
  ·cases h1
theorem Qcw.trimV [Globals] {r r':AV} {H1 H1':Heap} {e:Ending} (h:Qcw S σ H w r H1 e w') (he:Go.Ab.trimV H.length (r,H1)=(r',H1')):Qcw S σ H w r' H1' e w':=by
 unfold Go.Ab.trimV at he
 split at he
 ·rename_i hc
  injection he with e1 e2
  subst e1
  subst e2
  obtain⟨v,S',σ',h1,h2,h3,h4⟩:=h
  exact⟨v,S',_,h1,h2.trim hc.2,h3.trim rfl,h4.trimV hc.1⟩
 ·injection he with e1 e2
  subst e1
  subst e2
  exact h
def Qcy [Globals] (P:Program) (round:Nat→List AV→Heap→Option (AV × Heap)):Prop :=
 ∀ (id:Nat) (args:List AV) (H:Heap) (r:AV) (H':Heap),round id args H=some (r,H') →
  ∀ (S:Nat→Prop) (σ:List Nat) (w:World) (b:Nat) (vs:Array Value),Inv S σ H w→σ[id]?=some b→All2 (VRel S σ H w) args vs.toList →
   ∃ rec:Loop,w.heap[b]?=some (.loop rec)∧vs.size=rec.params.size ∧
    ∀ (rd:Option Nat) (n:Nat),RoundIn (Fw rd) n P b rec.fn ((rec.params.zip vs).foldl (fun tmps (t,a)=>tmps.setIfInBounds t a) rec.tmps) rec.assign rec.body w (Qcw S σ H w r H')
def Qc6 (σ:List Nat) (H:Heap):Option Nat→Option Nat→Prop
 | none,none=>True
 | some l,some b=>σ[l]?=some b∧QaR H l=some 3
 | _,_=>False
theorem Qc6.tr {ar rd:Option Nat} (h:Qc6 σ H ar rd) (hT:Tr S σ H w S' σ' H' w'):Qc6 σ' H' ar rd:=by
 cases ar with
 | none=>cases rd<;>first | trivial | exact h.elim
 | some l =>
  cases rd with
  | none=>exact h.elim
  | some b =>
   obtain⟨h1,h2⟩:=h
   have hl:=QdN h2
   exact⟨by rw [hT.fix _ hl (by rw [h2];simp) (by rw [h2];simp)];exact h1,by rw [hT.tag _ hl (by rw [h2];simp)];exact h2⟩
theorem Qc6.trim [Globals] {ar rd:Option Nat} {n:Nat} (h:Qc6 σ H ar rd) (hn:Qh7 ar n=true):Qc6 (σ.take n) (H.take n) ar rd:=by
 cases ar with
 | none=>cases rd<;>first | trivial | exact h.elim
 | some l =>
  cases rd with
  | none=>exact h.elim
  | some b =>
   have hlt:l<n:=of_decide_eq_true hn
   exact⟨by rw [List.getElem?_take_of_lt hlt];exact h.1,by rw [QcE hlt];exact h.2⟩
def QbO (w:World) (S':Nat→Prop) (σ':List Nat) (H':Heap) (w':World) (ds ds':List Deferred):Prop :=
 ∃ ms:List Nat,ds'=ms.map (fun r=>({ target:=.collected r,args:=#[] }:Deferred))++ds∧ms.Nodup ∧
  ∀ r ∈ ms,w.heap.size≤r∧r<w'.heap.size∧w'.heap[r]?=some (.deferred (some []))∧¬ S' r∧¬ Qdq σ' H' r
theorem QbO.refl (w:World) (S':Nat→Prop) (σ':List Nat) (H':Heap) (w':World) (ds:List Deferred):QbO w S' σ' H' w' ds ds:=⟨[],rfl,.nil,fun r h=>by cases h⟩
theorem QbO.trim {ds ds':List Deferred} {n:Nat} (h:QbO w S' σ' H' w' ds ds'):QbO w S' (σ'.take n) (H'.take n) w' ds ds':=by
 obtain⟨ms,h1,h2,h3⟩:=h
 refine⟨ms,h1,h2,fun r hr=>?_⟩
 obtain⟨g1,g2,g3,g4,g5⟩:=h3 r hr
 refine⟨g1,g2,g3,g4,fun ⟨i,o,e1,e2,e3⟩=>g5 ⟨i,o, ?_, ?_,e3⟩⟩
 ·rw[List.getElem?_take] at e1
  split at e1
  ·exact e1
  ·cases e1
 ·rw[List.getElem?_take] at e2
  split at e2
  ·exact e2
  ·cases e2
theorem QbO.comp {ds ds' ds'':List Deferred} (hs:w.heap.size≤w'.heap.size) (h:QbO w S' σ' H' w' ds ds') (hT:Tr S' σ' H' w' S'' σ'' H'' w'') (h':QbO w' S'' σ'' H'' w'' ds' ds''):QbO w S'' σ'' H'' w'' ds ds'':=by
 obtain⟨ms,rfl,h1,h2⟩:=h
 obtain⟨ms',rfl,h3,h4⟩:=h'
 refine⟨ms'++ms,by simp,List.nodup_append.2 ⟨h3,h1,fun a ha b hb e=>?_⟩,fun r hr=>?_⟩
 ·subst e
  have:=(h4 a ha).1
  have:=(h2 a hb).2.1
  omega
 ·rcases List.mem_append.1 hr with hr | hr
  ·obtain⟨g1,g2,g3,g4,g5⟩:=h4 r hr
   exact⟨Nat.le_trans hs g1,g2,g3,g4,g5⟩
  ·obtain⟨g1,g2,g3,g4,g5⟩:=h2 r hr
   refine⟨g1,Nat.lt_of_lt_of_le g2 hT.size,(hT.keep r g2 g5).trans g3,fun hS=>?_,fun ho=>?_⟩
   ·rcases hT.st' r hS with h | h | h
    ·exact g4 h
    ·omega
    ·exact g5 h
   ·rcases hT.fresh r ho with h | h
    ·omega
    ·exact g5 h
theorem VRel.pure {x:AV} {v:Value} (h:VRel S σ H w x v) (hx:x.pure=true) (σ':List Nat) (H':Heap):VRel S σ' H' w x v:=by
 cases h with
 | c h=>exact .c h
 | agg h1 h2 r =>
  rename_i vs
  simp only[AV.pure,List.all_eq_true] at hx
  refine .agg h1 h2 fun i y hi=>?_
  have hy:=hx y (List.mem_of_getElem? hi)
  have:=r i y hi
  generalize vs.getD i undef=u at this
  cases this with
  | c h=>exact .c h
  | _=>cases hy
 | _=>cases hx
def AV.still:AV→Prop
 | .tup vs=>∀ x ∈ vs,x.pure=true
 | x=>x.pure=true
theorem VRel.still [Globals] {x:AV} {v:Value} (h:VRel S σ H w x v) (hx:x.still) (σ':List Nat) (H':Heap):VRel S σ' H' w x v:=by
 cases h with
 | tup h1 r=>exact .tup h1 fun i y hi=>(r i y hi).pure (hx y (List.mem_of_getElem? hi)) σ' H'
 | c h=>exact .c h
 | agg h1 h2 r=>exact (VRel.agg h1 h2 r).pure hx σ' H'
 | _=>cases hx
theorem QoH [Globals] (hI:Inv S σ H w) {x y:AV} {v:Value} (h:frzV H x=some (y,H')) (hx:VRel S σ H w x v) :
  ∃ S',Inv S' σ H' w∧Tr S σ H w S' σ H' w∧VRel S' σ H' w y v∧y.pure=true:=by
 unfold frzV at h
 split at h
 ·obtain⟨⟨ys,H1⟩,h1,h⟩:=Option.map_eq_some_iff.1 h
  injection h with h2 h3
  simp only at h2 h3
  subst h2
  subst h3
  cases hx with
  | agg e1 e2 r =>
  have hk:CRel S σ H w _ _:=⟨e1,r⟩
  obtain⟨S',hI',hT,hr⟩:=Qii _ _ S H ys H1 hI h1 hk.list
  refine⟨S',hI',hT,.agg ?_ (fun x hx=>by obtain ⟨y,_,rfl⟩:=List.mem_map.1 hx;rfl) (fun i x hi=>?_),by simp [AV.pure,AV.pure0]⟩
  ·have:=hr.length;simp at this ⊢;omega
  ·rw[List.getElem?_map] at hi
   obtain⟨y,hy,rfl⟩:=Option.map_eq_some_iff.1 hi
   have:=hr.getD i y hy
   rw[Qbf] at this
   exact .c this
 ·obtain⟨⟨y,H1⟩,h1,h⟩:=Option.map_eq_some_iff.1 h
  injection h with h2 h3
  simp only at h2 h3
  subst h2
  subst h3
  obtain⟨S',hI',hT,hr⟩:=QsI hI h1 hx
  exact⟨S',hI',hT,.c hr,rfl⟩
theorem QdW [Globals]:∀ (xs:List AV) (vs:List Value) (S:Nat→Prop) (H:Heap) (ys:List AV) (H':Heap),Inv S σ H w→Qbi H xs=some (ys,H')→All2 (VRel S σ H w) xs vs →
  ∃ S',Inv S' σ H' w∧Tr S σ H w S' σ H' w∧All2 (VRel S' σ H' w) ys vs∧∀ y ∈ ys,y.pure=true:=by
 intro xs
 induction xs with
 | nil =>
  intro vs S H ys H' hI h hv
  injection h with h
  injection h with h1 h2
  subst h1
  subst h2
  cases hv
  exact⟨S,hI,Tr.refl _ _ _ _,.nil,fun y hy=>by cases hy⟩
 | cons x xs ih =>
  intro vs S H ys H' hI h hv
  cases hv with
  | cons hx hv =>
  simp only[Qbi] at h
  obtain⟨⟨y,H1⟩,h1,h⟩:=Option.bind_eq_some_iff.1 h
  obtain⟨⟨ys',H2⟩,h2,h⟩:=Option.bind_eq_some_iff.1 h
  injection h with h
  injection h with h3 h4
  simp only at h3 h4 h2
  subst h3
  subst h4
  obtain⟨S1,hI1,hT1,hy,hp⟩:=QoH hI h1 hx
  obtain⟨S2,hI2,hT2,hys,hps⟩:=ih _ S1 H1 ys' H2 hI1 h2 (hv.imp fun a b hab=>hab.tr hI hT1)
  refine⟨S2,hI2,hT1.trans hT2,.cons (hy.tr hI1 hT2) hys,fun z hz=>?_⟩
  rcases List.mem_cons.1 hz with rfl | hz
  ·exact hp
  ·exact hps z hz
theorem Qf8 [Globals] (hI:Inv S σ H w) {x y:AV} {v:Value} (h:frzR H x=some (y,H')) (hx:VRel S σ H w x v) :
  ∃ S',Inv S' σ H' w∧Tr S σ H w S' σ H' w∧VRel S' σ H' w y v∧y.still:=by
 unfold frzR at h
 split at h
 ·obtain⟨⟨ys,H1⟩,h1,h⟩:=Option.map_eq_some_iff.1 h
  injection h with h2 h3
  simp only at h2 h3
  subst h2
  subst h3
  cases hx with
  | tup e1 r =>
  have hk:CRel S σ H w _ _:=⟨e1,r⟩
  obtain⟨S',hI',hT,hr,hp⟩:=QdW _ _ S H ys H1 hI h1 hk.list
  refine⟨S',hI',hT,.tup ?_ (fun i x hi=>?_),hp⟩
  ·have:=hr.length;simp at this ⊢;omega
  ·have:=hr.getD i x hi
   rw[Qbf] at this
   exact this
 ·obtain⟨S',h1,h2,h3,h4⟩:=QoH hI h hx
  refine⟨S',h1,h2,h3, ?_⟩
  cases y<;>first | exact h4 | cases h4
theorem FRel.same {F:Fr} {tmps:Array Value} (h:FRel S σ H w F tmps) {x:AV} {d:Nat} (hx:VRel S σ H w x (tmps.getD d undef)):FRel S σ H w (F.set d x) tmps:=by
 refine⟨by rw [Fr.n_set,h.1],fun i=>?_⟩
 rw[Fr.get_set]
 split
 ·rename_i hc
  rw[← hc.1];exact hx
 ·exact h.2 i
theorem Q46 [Globals] {tmps:Array Value}:∀ (ts:List Nat) {S:Nat→Prop} {F:Fr} {H:Heap} {F':Fr} {H':Heap},Inv S σ H w→FRel S σ H w F tmps→Q8R ts F H=some (F',H') →
  ∃ S',Inv S' σ H' w∧FRel S' σ H' w F' tmps∧Tr S σ H w S' σ H' w
 | [],S,F,H,F',H',hI,hF,h=>by
  injection h with h
  injection h with h1 h2
  subst h1
  subst h2
  exact⟨S,hI,hF,Tr.refl _ _ _ _⟩
 | t::ts,S,F,H,F',H',hI,hF,h=>by
  rw[Q8R] at h
  split at h
  ·rename_i r hr
   obtain⟨y,H1⟩:=r
   obtain⟨S1,hI1,hT1,hv,_⟩:=Qf8 hI hr (hF.2 t)
   obtain⟨S2,hI2,hF2,hT2⟩:=Q46 ts hI1 ((hF.tr hI hT1).same hv) h
   exact⟨S2,hI2,hF2,hT1.trans hT2⟩
  ·cases h
theorem outside [Globals] {σ1:List Nat} {H1:Heap} (hI:Inv S σ H w) (hT:Tr S [] [] w S' σ1 H1 w') (hI1:Inv S' σ1 H1 w'):Inv S' σ H w'∧Tr S σ H w S' σ H w':=by
 have hno:∀ b,¬ Qdq [] [] b:=fun b ⟨i,o,h,_⟩=>by simp at h
 have hk:∀ b,b<w.heap.size→w'.heap[b]?=w.heap[b]?:=fun b hb=>hT.keep b hb (hno b)
 have hT':Tr S σ H w S' σ H w':=⟨hT.os,hT.tape,hT.output,hT.size,fun b hb _=>hk b hb,hT.shape,hT.st,fun b h=>by
   rcases hT.st' b h with h | h | h
   ·exact .inl h
   ·exact .inr (.inl h)
   ·exact absurd h (hno b),Nat.le_refl _,fun _ _ _=>rfl,fun _ _ _ _=>rfl,fun _ fz _ cs _ _ h=>⟨fz,cs,h,Nat.le_refl _,fun _=>rfl⟩,fun _ h=>.inr h⟩
 refine⟨⟨hI.len,fun i b o h ho hne=>Nat.lt_of_lt_of_le (hI.lt i b o h ho hne) hT.size,hI1.st,fun i b o h ho hl hS=>?_,hI.inj,fun i b o h ho=>hI.obj_tr h ho hT' (hk b),fun i b t cs h ho=>hT.st b (hI.fz i b t cs h ho),hI1.glob⟩,hT'⟩
 rcases hT.st' b hS with h' | h' | h'
 ·exact hI.free i b o h ho hl h'
 ·have:=hI.lt i b o h ho (Qbx hl);omega
 ·exact hno b h'
theorem outside' [Globals] {S1:Nat→Prop} {σ1:List Nat} {H1:Heap} (hI:Inv S σ H w) (hT:Tr S1 [] [] w S' σ1 H1 w'):Inv S σ H w'∧Tr S σ H w S σ H w':=by
 have hno:∀ b,¬ Qdq [] [] b:=fun b ⟨i,o,h,_⟩=>by simp at h
 have hk:∀ b,b<w.heap.size→w'.heap[b]?=w.heap[b]?:=fun b hb=>hT.keep b hb (hno b)
 have hT':Tr S σ H w S σ H w':=⟨hT.os,hT.tape,hT.output,hT.size,fun b hb _=>hk b hb,hT.shape,fun _ h=>h,fun b h=>.inl h,Nat.le_refl _,fun _ _ _=>rfl,fun _ _ _ _=>rfl,fun _ fz _ cs _ _ h=>⟨fz,cs,h,Nat.le_refl _,fun _=>rfl⟩,fun _ h=>.inr h⟩
 exact⟨⟨hI.len,fun i b o h ho hne=>Nat.lt_of_lt_of_le (hI.lt i b o h ho hne) hT.size,fun b h=>Nat.lt_of_lt_of_le (hI.st b h) hT.size,hI.free,hI.inj,fun i b o h ho=>hI.obj_tr h ho hT' (hk b),hI.fz,fun g cells h=>(hI.glob g cells h).tr hI hT'⟩,hT'⟩
theorem QdK [Globals] (hI:Inv S σ H w):Inv S [] [] w:=⟨rfl,fun i b o h=>by simp at h,hI.st,fun i b o h=>by simp at h,fun i j b o o' h=>by simp at h,fun i b o h=>by simp at h,fun i b t cs h=>by simp at h,hI.glob⟩
theorem IRel.scalar {x:IV} {v:Value} (h:IRel S w x v) (hx:x.scalar=true) (S':Nat→Prop) (w':World):IRel S' w' x v:=by
 cases h with
 | bool b=>exact .bool b
 | int k n=>exact .int k n
 | str s=>exact .str s
 | slice us hn hz hk hl hm hc hr =>
  rename_i cells _ _ _ _ _
  cases cells with
  | nil=>exact .slice us hn hz hk hl hm (fun j hj=>by simp at hj) (fun j x hj=>by simp at hj)
  | cons y ys=>cases hx
 | iptr=>cases hx
 | nilp=>exact .nilp
 | nilmap=>exact .nilmap
 | nilfn=>exact .nilfn
 | niliface=>exact .niliface
 | fn f=>exact .fn f
theorem VRel.scalar_c [Globals] {x:AV} {v:Value} (h:VRel S σ H w x v) (hx:x.scalar0=true) (S':Nat→Prop) (σ':List Nat) (H':Heap) (w':World):VRel S' σ' H' w' x v:=by
 cases h with
 | c h=>exact .c (h.scalar hx S' w')
 | _=>cases hx
theorem VRel.scalar1 [Globals] {x:AV} {v:Value} (h:VRel S σ H w x v) (hx:x.scalar1=true) (S':Nat→Prop) (σ':List Nat) (H':Heap) (w':World):VRel S' σ' H' w' x v:=by
 cases h with
 | c h=>exact .c (h.scalar hx S' w')
 | agg h1 h2 r =>
  simp only[AV.scalar1,List.all_eq_true] at hx
  exact .agg h1 h2 fun i y hi=>(r i y hi).scalar_c (hx y (List.mem_of_getElem? hi)) S' σ' H' w'
 | _=>cases hx
theorem VRel.scalar [Globals] {x:AV} {v:Value} (h:VRel S σ H w x v) (hx:x.scalar=true) (S':Nat→Prop) (σ':List Nat) (H':Heap) (w':World):VRel S' σ' H' w' x v:=by
 cases x with
 | tup xs =>
  cases h with
  | tup h1 r =>
  simp only[AV.scalar,List.all_eq_true] at hx
  exact .tup h1 fun i y hi=>(r i y hi).scalar1 (hx y (List.mem_of_getElem? hi)) S' σ' H' w'
 | _=>exact h.scalar1 hx S' σ' H' w'
theorem QgR [Globals] {xs:List AV} {vs:List Value} (h:All2 (VRel S σ H w) xs vs) (hp:∀ x ∈ xs,x.pure=true) (σ':List Nat) (H':Heap):All2 (VRel S σ' H' w) xs vs:=by
 induction h with
 | nil=>exact .nil
 | cons hx _ ih=>exact .cons (hx.pure (hp _ (by simp)) σ' H') (ih fun x hx=>hp x (by simp [hx]))
theorem QmO [Globals] {cx:Cx} (hc:Qbw P cx.call) {g:FuncId} {args:List AV} {H H':Heap} {r:AV} (h:QdV cx g args H=some (r,H')) :
  (∃ fn,P.funcs[g]?=some fn∧fn.body.isSome=true∧(fn.name == "runtime.NumGoroutine")=false) ∧
  ∀ (S:Nat→Prop) (σ:List Nat) (w:World) (vs:Array Value),Inv S σ H w→All2 (VRel S σ H w) args vs.toList→Calls P g vs w (Qcw S σ H w r H'):=by
 unfold QdV at h
 split at h
 ·rename_i hp
  simp only[List.all_eq_true] at hp
  obtain⟨⟨r1,H1⟩,h1,h⟩:=Option.bind_eq_some_iff.1 h
  obtain⟨⟨r2,H2⟩,h2,h⟩:=Option.map_eq_some_iff.1 h
  injection h with h3 h4
  simp only at h2 h3 h4
  subst h3
  subst h4
  obtain⟨hfn,hcall⟩:=hc g args [] r1 H1 h1
  refine⟨hfn,fun S σ w vs hI ha=>?_⟩
  have ha':All2 (VRel S [] [] w) args vs.toList:=QgR ha hp [] []
  refine(hcall S [] w vs (QdK hI) ha').mono ?_
  rintro e w' ⟨v,S1,σ1,rfl,hI1,hT1,hv⟩
  obtain⟨S2,hI2,hT2,hv2,hst⟩:=Qf8 hI1 h2 hv
  obtain⟨hI3,hT3⟩:=outside hI (hT1.trans hT2) hI2
  exact⟨v,S2,σ,rfl,hI3,hT3,hv2.still hst σ _⟩
 ·obtain⟨⟨args',H0⟩,h0,h⟩:=Option.bind_eq_some_iff.1 h
  obtain⟨⟨r1,H1⟩,h1,h⟩:=Option.bind_eq_some_iff.1 h
  simp only at h1 h
  obtain⟨hfn,hcall⟩:=hc g args' [] r1 H1 h1
  refine⟨hfn,fun S σ w vs hI ha=>?_⟩
  obtain⟨S0,hI0,hT0,ha0,hp⟩:=QdW args vs.toList S H args' H0 hI h0 ha
  have ha':All2 (VRel S0 [] [] w) args' vs.toList:=QgR ha0 hp [] []
  refine(hcall S0 [] w vs (QdK hI0) ha').mono ?_
  rintro e w' ⟨v,S1,σ1,rfl,hI1,hT1,hv⟩
  split at h
  ·rename_i hs
   injection h with h
   injection h with h3 h4
   subst h3
   subst h4
   obtain⟨hI3,hT3⟩:=outside' hI hT1
   exact⟨v,S,σ,rfl,hI3,hT3,hv.scalar hs _ _ _ _⟩
  ·obtain⟨⟨r2,H2⟩,h2,h⟩:=Option.map_eq_some_iff.1 h
   injection h with h3 h4
   simp only at h2 h3 h4
   subst h3
   subst h4
   obtain⟨S2,hI2,hT2,hv2,hst⟩:=Qf8 hI1 h2 hv
   obtain⟨hI3,hT3⟩:=outside hI0 (hT1.trans hT2) hI2
   exact⟨v,S2,σ,rfl,hI3,hT0.trans hT3,hv2.still hst σ _⟩
theorem QfR {n:Nat} {ids:List Nat} {x:AV} {r:AV × List Nat} (h:x.imp0 n ids=some r) (hn:ids.Nodup):ids <+: r.2∧r.2.Nodup∧r.1.isCell=true:=by
 cases x with
 | c y=>injection h with h;subst h;exact ⟨List.prefix_refl _,hn,rfl⟩
 | hsl id off len ext sz =>
  have h2:(if ids.contains id=true then none else some (AV.hsl (n+ids.length) off len ext sz,ids++[id]))=some r:=h
  split at h2
  ·cases h2
  ·rename_i hc
   injection h2 with h2
   subst h2
   refine⟨List.prefix_append _ _, ?_,rfl⟩
   rw[List.nodup_append]
   exact⟨hn,by simp,fun a ha b hb=>by simp at hb;subst hb;rintro rfl;exact hc (by simpa using ha)⟩
 | _=>cases h
theorem QeV {n:Nat}:∀ {xs:List AV} {ids:List Nat} {r:List AV × List Nat},imps0 n ids xs=some r→ids.Nodup→ids <+: r.2∧r.2.Nodup∧∀ y ∈ r.1,y.isCell=true
 | [],ids,r,h,hn=>by simp only [imps0,Option.some.injEq] at h;subst h;exact ⟨List.prefix_refl _,hn,fun y hy=>by simp at hy⟩
 | x::xs,ids,r,h,hn=>by
  rw[imps0] at h
  obtain⟨q,h1,h⟩:=Option.bind_eq_some_iff.1 h
  obtain⟨s,h2,rfl⟩:=Option.map_eq_some_iff.1 h
  obtain⟨a1,a2,a3⟩:=QfR h1 hn
  obtain⟨b1,b2,b3⟩:=QeV h2 a2
  refine⟨a1.trans b1,b2,fun y hy=>?_⟩
  rcases List.mem_cons.1 hy with rfl | hy
  ·exact a3
  ·exact b3 y hy
theorem QgN {n:Nat} {ids:List Nat} {x:AV} {r:AV × List Nat} (h:x.imp1 n ids=some r) (hn:ids.Nodup):ids <+: r.2∧r.2.Nodup:=by
 cases x with
 | agg cs =>
  obtain⟨s,h1,rfl⟩:=Option.map_eq_some_iff.1 h
  exact⟨(QeV h1 hn).1,(QeV h1 hn).2.1⟩
 | c y=>exact ⟨(QfR (n:=n) (x:=.c y) h hn).1,(QfR (n:=n) (x:=.c y) h hn).2.1⟩
 | hsl id off len ext sz=>exact ⟨(QfR (n:=n) (x:=.hsl id off len ext sz) h hn).1,(QfR (n:=n) (x:=.hsl id off len ext sz) h hn).2.1⟩
 | _=>cases h
theorem Qli {n:Nat}:∀ {xs:List AV} {ids:List Nat} {r:List AV × List Nat},imps1 n ids xs=some r→ids.Nodup→ids <+: r.2∧r.2.Nodup
 | [],ids,r,h,hn=>by simp only [imps1,Option.some.injEq] at h;subst h;exact ⟨List.prefix_refl _,hn⟩
 | x::xs,ids,r,h,hn=>by
  rw[imps1] at h
  obtain⟨q,h1,h⟩:=Option.bind_eq_some_iff.1 h
  obtain⟨s,h2,rfl⟩:=Option.map_eq_some_iff.1 h
  obtain⟨a1,a2⟩:=QgN h1 hn
  obtain⟨b1,b2⟩:=Qli h2 a2
  exact⟨a1.trans b1,b2⟩
theorem Qsi {n:Nat} {x:AV} {r:AV × List Nat} (h:x.imp n=some r):r.2.Nodup:=by
 cases x with
 | tup vs =>
  obtain⟨s,h1,rfl⟩:=Option.map_eq_some_iff.1 h
  exact(Qli h1 List.nodup_nil).2
 | agg cs=>exact (QgN (n:=n) (ids:=[]) (x:=.agg cs) h List.nodup_nil).2
 | c y=>exact (QgN (n:=n) (ids:=[]) (x:=.c y) h List.nodup_nil).2
 | hsl id off len ext sz=>exact (QgN (n:=n) (ids:=[]) (x:=.hsl id off len ext sz) h List.nodup_nil).2
 | _=>cases h
theorem QfO {H1:Heap}:∀ {ids:List Nat} {H2:Heap},rowsOf H1 ids=some H2→H2.length=ids.length∧(∀ (j:Nat) (o:AObj),H2[j]?=some o→∃ id fz t cs,ids[j]?=some id∧H1[id]?=some o∧o=.row fz t cs)∧∀ id ∈ ids,id<H1.length
 | [],H2,h=>by simp only [rowsOf,Option.some.injEq] at h;subst h;exact ⟨rfl,fun j o h=>by simp at h,fun id h=>by simp at h⟩
 | id::ids,H2,h=>by
  rw[rowsOf] at h
  obtain⟨o,h1,h⟩:=Option.bind_eq_some_iff.1 h
  obtain⟨os,h2,rfl⟩:=Option.map_eq_some_iff.1 h
  obtain⟨e1,e2,e3⟩:=QfO h2
  have hrow:∃ fz t cs,H1[id]?=some o∧o=.row fz t cs:=by
   unfold rowAt at h1
   split at h1
   ·rename_i fz t cs hh
    injection h1 with h1
    subst h1
    exact⟨fz,t,cs,hh,rfl⟩
   ·cases h1
  obtain⟨fz,t,cs,g1,g2⟩:=hrow
  refine⟨by simp [e1],fun j q hq=>?_,fun i hi=>?_⟩
  ·cases j with
   | zero=>simp at hq;subst hq;exact ⟨id,fz,t,cs,rfl,g1,g2⟩
   | succ j=>simpa using e2 j q (by simpa using hq)
  ·rcases List.mem_cons.1 hi with rfl | hi
   ·exact(List.getElem?_eq_some_iff.1 g1).1
   ·exact e3 i hi
section
variable {σ1:List Nat} {H1 H2:Heap} {ids:List Nat}
def Qb5 (σ1:List Nat) (ids:List Nat):List Nat:=ids.map fun id=>σ1.getD id 0
theorem QhQ {j id b:Nat} (hid:ids[j]?=some id) (hb:σ1[id]?=some b):(Qb5 σ1 ids)[j]?=some b:=by
 unfold Qb5
 rw[List.getElem?_map,hid,Option.map_some,List.getD_eq_getElem?_getD,hb]
 rfl
theorem VRel.imp0 (hl:σ.length=H.length) (hl1:σ1.length=H1.length) (hr:rowsOf H1 ids=some H2) {x:AV} {ids0:List Nat} {r:AV × List Nat} {v:Value} (h:VRel S σ1 H1 w x v) (hx:x.imp0 H.length ids0=some r) (hp:r.2 <+: ids) :
  VRel S (σ++Qb5 σ1 ids) (H++H2) w r.1 v:=by
 obtain⟨e1,e2,e3⟩:=QfO hr
 cases h with
 | c h=>injection hx with hx;subst hx;exact .c h
 | hsl hd hh =>
  rename_i id off len ext sz cap a
  have h2:(if ids0.contains id=true then none else some (AV.hsl (H.length+ids0.length) off len ext sz,ids0++[id]))=some r:=hx
  split at h2
  ·cases h2
  ·injection h2 with h2
   subst h2
   have hid:ids[ids0.length]?=some id:=by
    obtain⟨t,ht⟩:=hp
    rw[← ht]
    simp
   have hjl:ids0.length<ids.length:=(List.getElem?_eq_some_iff.1 hid).1
   have hg:H2[ids0.length]?=some H2[ids0.length]:=List.getElem?_eq_getElem (by omega)
   obtain⟨id',fz,t,cs,g1,g2,g3⟩:=e2 _ _ hg
   rw[hid] at g1
   injection g1 with g1
   subst g1
   have hget:(H++H2)[H.length+ids0.length]?=some (.row fz t cs):=by
    rw[List.getElem?_append_right (by omega),Nat.add_sub_cancel_left,hg,g3]
   rw[g3] at g2
   refine .hsl (by unfold QaR;rw [hget];rfl) fun fz' t' cs' hc=>?_
   rw[hget] at hc
   injection hc with hc
   injection hc with c1 c2 c3
   subst c1;subst c2;subst c3
   obtain⟨a1,a2⟩:=hh _ _ _ g2
   refine⟨a1,fun e=>?_⟩
   obtain⟨b,cur,e',k1,k2⟩:=a2 e
   refine⟨b,cur,e', ?_,k2⟩
   rw[List.getElem?_append_right (by omega),hl,Nat.add_sub_cancel_left]
   exact QhQ hid k1
 | _=>cases hx
theorem VRel.imps0 (hl:σ.length=H.length) (hl1:σ1.length=H1.length) (hr:rowsOf H1 ids=some H2):∀ {xs:List AV} {vs:List Value} {ids0:List Nat} {r:List AV × List Nat},ids0.Nodup→All2 (VRel S σ1 H1 w) xs vs→imps0 H.length ids0 xs=some r→r.2 <+: ids →
  All2 (VRel S (σ++Qb5 σ1 ids) (H++H2) w) r.1 vs
 | [],vs,ids0,r,_,h,hx,_=>by
  simp only[Go.Ab.imps0,Option.some.injEq] at hx
  subst hx
  cases h
  exact .nil
 | x::xs,vs,ids0,r,hn,h,hx,hp=>by
  rw[Go.Ab.imps0] at hx
  obtain⟨q,h1,hx⟩:=Option.bind_eq_some_iff.1 hx
  obtain⟨s,h2,rfl⟩:=Option.map_eq_some_iff.1 hx
  cases h with
  | cons ha hb =>
  have hq:=QfR h1 hn
  exact .cons (ha.imp0 hl hl1 hr h1 ((QeV h2 hq.2.1).1.trans hp)) (VRel.imps0 hl hl1 hr hq.2.1 hb h2 hp)
theorem VRel.imp1 [Globals] (hl:σ.length=H.length) (hl1:σ1.length=H1.length) (hr:rowsOf H1 ids=some H2) {x:AV} {ids0:List Nat} {r:AV × List Nat} {v:Value} (hn:ids0.Nodup) (h:VRel S σ1 H1 w x v) (hx:x.imp1 H.length ids0=some r) (hp:r.2 <+: ids) :
  VRel S (σ++Qb5 σ1 ids) (H++H2) w r.1 v:=by
 cases x with
 | agg cs =>
  obtain⟨s,h1,rfl⟩:=Option.map_eq_some_iff.1 hx
  cases h with
  | agg g1 g2 g3 =>
  have hc:CRel S σ1 H1 w cs _:=⟨g1,g3⟩
  have ha:=VRel.imps0 (σ:=σ) (H:=H) hl hl1 hr hn hc.list h1 hp
  refine .agg (by have:=ha.length;simp at this;omega) (QeV h1 hn).2.2 (fun i y hi=>?_)
  have:=ha.getD i y hi
  rw[Qbf] at this
  exact this
 | c y=>exact VRel.imp0 (x:=.c y) hl hl1 hr h hx hp
 | hsl id off len ext sz=>exact VRel.imp0 (x:=.hsl id off len ext sz) hl hl1 hr h hx hp
 | _=>cases hx
theorem VRel.imps1 [Globals] (hl:σ.length=H.length) (hl1:σ1.length=H1.length) (hr:rowsOf H1 ids=some H2):∀ {xs:List AV} {vs:List Value} {ids0:List Nat} {r:List AV × List Nat},ids0.Nodup→All2 (VRel S σ1 H1 w) xs vs→imps1 H.length ids0 xs=some r→r.2 <+: ids →
  All2 (VRel S (σ++Qb5 σ1 ids) (H++H2) w) r.1 vs
 | [],vs,ids0,r,_,h,hx,_=>by
  simp only[Go.Ab.imps1,Option.some.injEq] at hx
  subst hx
  cases h
  exact .nil
 | x::xs,vs,ids0,r,hn,h,hx,hp=>by
  rw[Go.Ab.imps1] at hx
  obtain⟨q,h1,hx⟩:=Option.bind_eq_some_iff.1 hx
  obtain⟨s,h2,rfl⟩:=Option.map_eq_some_iff.1 hx
  cases h with
  | cons ha hb =>
  have hq:=QgN h1 hn
  exact .cons (ha.imp1 hl hl1 hr hn h1 ((Qli h2 hq.2).1.trans hp)) (VRel.imps1 hl hl1 hr hq.2 hb h2 hp)
theorem VRel.imp [Globals] (hl:σ.length=H.length) (hl1:σ1.length=H1.length) {x:AV} {r:AV × List Nat} {v:Value} (hr:rowsOf H1 r.2=some H2) (h:VRel S σ1 H1 w x v) (hx:x.imp H.length=some r) :
  VRel S (σ++Qb5 σ1 r.2) (H++H2) w r.1 v:=by
 cases x with
 | tup vs =>
  obtain⟨s,h1,rfl⟩:=Option.map_eq_some_iff.1 hx
  cases h with
  | tup g1 g3 =>
  have hc:CRel S σ1 H1 w vs _:=⟨g1,g3⟩
  have ha:=VRel.imps1 (σ:=σ) (H:=H) hl hl1 hr List.nodup_nil hc.list h1 (List.prefix_refl _)
  refine .tup (by have:=ha.length;simp at this;omega) (fun i y hi=>?_)
  have:=ha.getD i y hi
  rw[Qbf] at this
  exact this
 | agg cs=>exact VRel.imp1 (x:=.agg cs) hl hl1 hr List.nodup_nil h hx (List.prefix_refl _)
 | c y=>exact VRel.imp1 (x:=.c y) hl hl1 hr List.nodup_nil h hx (List.prefix_refl _)
 | hsl id off len ext sz=>exact VRel.imp1 (x:=.hsl id off len ext sz) hl hl1 hr List.nodup_nil h hx (List.prefix_refl _)
 | _=>cases hx
theorem join [Globals] (hI:Inv S σ H w) (hT:Tr S [] [] w S' σ1 H1 w') (hI1:Inv S' σ1 H1 w') (hn:ids.Nodup) (hr:rowsOf H1 ids=some H2) :
  Inv S' (σ++Qb5 σ1 ids) (H++H2) w'∧Tr S σ H w S' (σ++Qb5 σ1 ids) (H++H2) w':=by
 obtain⟨e1,e2,e3⟩:=QfO hr
 have hno:∀ b,¬ Qdq [] [] b:=fun b ⟨i,o,h,_⟩=>by simp at h
 have hk:∀ b,b<w.heap.size→w'.heap[b]?=w.heap[b]?:=fun b hb=>hT.keep b hb (hno b)
 have hfresh:∀ (i b:Nat) (o:AObj),σ1[i]?=some b→H1[i]?=some o→o.live=true→w.heap.size≤b:=by
  intro i b o h1 h2 h3
  rcases hT.fresh b ⟨i,o,h1,h2,h3⟩ with h | h
  ·exact h
  ·exact absurd h (hno b)
 have hidx:∀ (i b:Nat) (o:AObj),(σ++Qb5 σ1 ids)[i]?=some b→(H++H2)[i]?=some o→(i<H.length∧σ[i]?=some b∧H[i]?=some o)∨(∃ j id fz t cs,i=H.length+j∧ids[j]?=some id∧σ1[id]?=some b∧H1[id]?=some o∧o=.row fz t cs):=by
  intro i b o h1 h2
  rcases Nat.lt_or_ge i H.length with hi | hi
  ·rw[List.getElem?_append_left (by rw [hI.len];exact hi)] at h1
   rw[List.getElem?_append_left hi] at h2
   exact .inl ⟨hi,h1,h2⟩
  ·rw[List.getElem?_append_right (by rw [hI.len];exact hi),hI.len] at h1
   rw[List.getElem?_append_right hi] at h2
   obtain⟨id,fz,t,cs,h3,h4,h5⟩:=e2 _ _ h2
   have hidl:id<σ1.length:=by rw [hI1.len];exact (List.getElem?_eq_some_iff.1 h4).1
   have:=QhQ h3 (List.getElem?_eq_getElem hidl)
   rw[this] at h1
   injection h1 with h1
   exact .inr ⟨i-H.length,id,fz,t,cs,by omega,h3,by rw [List.getElem?_eq_getElem hidl,h1],h4,h5⟩
 have hown:∀ b,Qdq (σ++Qb5 σ1 ids) (H++H2) b→w.heap.size≤b∨Qdq σ H b:=by
  rintro b ⟨i,o,h1,h2,h3⟩
  rcases hidx i b o h1 h2 with ⟨_,g1,g2⟩ | ⟨j,id,fz,t,cs,_,_,g1,g2,g3⟩
  ·exact .inr ⟨i,o,g1,g2,h3⟩
  ·exact .inl (hfresh id b o g1 g2 h3)
 have hT':Tr S σ H w S' (σ++Qb5 σ1 ids) (H++H2) w':=by
  refine⟨hT.os,hT.tape,hT.output,hT.size,fun b hb _=>hk b hb,hT.shape,hT.st,fun b h=>?_,by simp,fun i hi _=>?_,fun i hi _ _=>?_,fun i fz t cs hi _ h=>⟨fz,cs, ?_,Nat.le_refl _,fun _=>?_⟩,hown⟩
  ·rcases hT.st' b h with h | h | h
   ·exact .inl h
   ·exact .inr (.inl h)
   ·exact absurd h (hno b)
  ·unfold QaR;rw [List.getElem?_append_left hi]
  ·exact List.getElem?_append_left (by rw [hI.len];exact hi)
  ·rwa [List.getElem?_append_left hi] at h
  ·exact List.getElem?_append_left (by rw [hI.len];exact hi)
 have hS:∀ b,S' b→b<w.heap.size→S b:=by
  intro b h hb
  rcases hT.st' b h with h | h | h
  ·exact h
  ·omega
  ·exact absurd h (hno b)
 refine⟨⟨by simp [hI.len,Qb5,e1],fun i b o h ho hne=>?_,hI1.st,fun i b o h ho hl hSb=>?_,fun i j b o o' hi hj ho ho' hl hl'=>?_,fun i b o h ho=>?_,fun i b t cs h ho=>?_,hI1.glob⟩,hT'⟩
 ·rcases hidx i b o h ho with ⟨_,g1,g2⟩ | ⟨j,id,fz,t,cs,_,_,g1,g2,g3⟩
  ·exact Nat.lt_of_lt_of_le (hI.lt i b o g1 g2 hne) hT.size
  ·exact hI1.lt id b o g1 g2 hne
 ·rcases hidx i b o h ho with ⟨_,g1,g2⟩ | ⟨j,id,fz,t,cs,_,_,g1,g2,g3⟩
  ·exact hI.free i b o g1 g2 hl (hS b hSb (hI.lt i b o g1 g2 (Qbx hl)))
  ·exact hI1.free id b o g1 g2 hl hSb
 ·rcases hidx i b o hi ho with ⟨_,g1,g2⟩ | ⟨p,id,_,_,_,ep,ip,g1,g2,g3⟩
  ·rcases hidx j b o' hj ho' with ⟨_,g4,g5⟩ | ⟨p',id',_,_,_,_,_,g4,g5,g6⟩
   ·exact hI.inj i j b o o' g1 g4 g2 g5 hl hl'
   ·have:=hfresh id' b o' g4 g5 hl'
    have:=hI.lt i b o g1 g2 (Qbx hl)
    omega
  ·rcases hidx j b o' hj ho' with ⟨_,g4,g5⟩ | ⟨p',id',_,_,_,ep',ip',g4,g5,g6⟩
   ·have:=hfresh id b o g1 g2 hl
    have:=hI.lt j b o' g4 g5 (Qbx hl')
    omega
   ·have he:=hI1.inj id id' b o o' g1 g4 g2 g5 hl hl'
    subst he
    obtain⟨k1,k2⟩:=List.getElem?_eq_some_iff.1 ip
    obtain⟨k3,k4⟩:=List.getElem?_eq_some_iff.1 ip'
    have:=(List.getElem_inj (h₀:=k1) (h₁:=k3) hn).1 (k2.trans k4.symm)
    omega
 ·rcases hidx i b o h ho with ⟨_,g1,g2⟩ | ⟨j,id,fz,t,cs,_,_,g1,g2,g3⟩
  ·exact hI.obj_tr g1 g2 hT' (hk b)
  ·have hq:=hI1.obj id b o g1 g2
   subst g3
   exact hq
 ·rcases hidx i b _ h ho with ⟨_,g1,g2⟩ | ⟨j,id,fz,t',cs',_,_,g1,g2,g3⟩
  ·exact hT.st b (hI.fz i b t cs g1 g2)
  ·exact hI1.fz id b t cs g1 g2
theorem join2 [Globals] {S0:Nat→Prop} (hI:Inv S σ H w) (hT:Tr S0 [] [] w S' σ1 H1 w') (hI1:Inv S' σ1 H1 w') (hn:ids.Nodup) (hr:rowsOf H1 ids=some H2) (hsc:H2.all AObj.sc=true) :
  Inv S (σ++Qb5 σ1 ids) (H++H2) w'∧Tr S σ H w S (σ++Qb5 σ1 ids) (H++H2) w':=by
 have hscr:∀ (j:Nat) (o:AObj),H2[j]?=some o→∃ t cs,o=.row false t cs∧∀ x ∈ cs,x.scalar=true:=by
  intro j o hj
  have:=List.all_eq_true.1 hsc o (List.mem_of_getElem? hj)
  cases o with
  | row fz t cs =>
   cases fz with
   | true=>cases this
   | false=>exact ⟨t,cs,rfl,List.all_eq_true.1 this⟩
  | _=>cases this
 obtain⟨e1,e2,e3⟩:=QfO hr
 have hno:∀ b,¬ Qdq [] [] b:=fun b ⟨i,o,h,_⟩=>by simp at h
 have hk:∀ b,b<w.heap.size→w'.heap[b]?=w.heap[b]?:=fun b hb=>hT.keep b hb (hno b)
 have hfresh:∀ (i b:Nat) (o:AObj),σ1[i]?=some b→H1[i]?=some o→o.live=true→w.heap.size≤b:=by
  intro i b o h1 h2 h3
  rcases hT.fresh b ⟨i,o,h1,h2,h3⟩ with h | h
  ·exact h
  ·exact absurd h (hno b)
 have hidx:∀ (i b:Nat) (o:AObj),(σ++Qb5 σ1 ids)[i]?=some b→(H++H2)[i]?=some o→(i<H.length∧σ[i]?=some b∧H[i]?=some o)∨(∃ j id fz t cs,i=H.length+j∧ids[j]?=some id∧σ1[id]?=some b∧H1[id]?=some o∧o=.row fz t cs):=by
  intro i b o h1 h2
  rcases Nat.lt_or_ge i H.length with hi | hi
  ·rw[List.getElem?_append_left (by rw [hI.len];exact hi)] at h1
   rw[List.getElem?_append_left hi] at h2
   exact .inl ⟨hi,h1,h2⟩
  ·rw[List.getElem?_append_right (by rw [hI.len];exact hi),hI.len] at h1
   rw[List.getElem?_append_right hi] at h2
   obtain⟨id,fz,t,cs,h3,h4,h5⟩:=e2 _ _ h2
   have hidl:id<σ1.length:=by rw [hI1.len];exact (List.getElem?_eq_some_iff.1 h4).1
   have:=QhQ h3 (List.getElem?_eq_getElem hidl)
   rw[this] at h1
   injection h1 with h1
   exact .inr ⟨i-H.length,id,fz,t,cs,by omega,h3,by rw [List.getElem?_eq_getElem hidl,h1],h4,h5⟩
 have hown:∀ b,Qdq (σ++Qb5 σ1 ids) (H++H2) b→w.heap.size≤b∨Qdq σ H b:=by
  rintro b ⟨i,o,h1,h2,h3⟩
  rcases hidx i b o h1 h2 with ⟨_,g1,g2⟩ | ⟨j,id,fz,t,cs,_,_,g1,g2,g3⟩
  ·exact .inr ⟨i,o,g1,g2,h3⟩
  ·exact .inl (hfresh id b o g1 g2 h3)
 have hT':Tr S σ H w S (σ++Qb5 σ1 ids) (H++H2) w':=by
  refine⟨hT.os,hT.tape,hT.output,hT.size,fun b hb _=>hk b hb,hT.shape,fun _ h=>h,fun b h=>.inl h,by simp,fun i hi _=>?_,fun i hi _ _=>?_,fun i fz t cs hi _ h=>⟨fz,cs, ?_,Nat.le_refl _,fun _=>?_⟩,hown⟩
  ·unfold QaR;rw [List.getElem?_append_left hi]
  ·exact List.getElem?_append_left (by rw [hI.len];exact hi)
  ·rwa [List.getElem?_append_left hi] at h
  ·exact List.getElem?_append_left (by rw [hI.len];exact hi)
 have hS:∀ b,S b→b<w.heap.size:=hI.st
 refine⟨⟨by simp [hI.len,Qb5,e1],fun i b o h ho hne=>?_,fun b h=>Nat.lt_of_lt_of_le (hI.st b h) hT.size,fun i b o h ho hl hSb=>?_,fun i j b o o' hi hj ho ho' hl hl'=>?_,fun i b o h ho=>?_,fun i b t cs h ho=>?_,fun g cells h=>(hI.glob g cells h).tr hI hT'⟩,hT'⟩
 ·rcases hidx i b o h ho with ⟨_,g1,g2⟩ | ⟨j,id,fz,t,cs,_,_,g1,g2,g3⟩
  ·exact Nat.lt_of_lt_of_le (hI.lt i b o g1 g2 hne) hT.size
  ·exact hI1.lt id b o g1 g2 hne
 ·rcases hidx i b o h ho with ⟨_,g1,g2⟩ | ⟨j,id,fz,t,cs,_,_,g1,g2,g3⟩
  ·exact hI.free i b o g1 g2 hl hSb
  ·have:=hfresh id b o g1 g2 hl;have:=hS b hSb;omega
 ·rcases hidx i b o hi ho with ⟨_,g1,g2⟩ | ⟨p,id,_,_,_,ep,ip,g1,g2,g3⟩
  ·rcases hidx j b o' hj ho' with ⟨_,g4,g5⟩ | ⟨p',id',_,_,_,_,_,g4,g5,g6⟩
   ·exact hI.inj i j b o o' g1 g4 g2 g5 hl hl'
   ·have:=hfresh id' b o' g4 g5 hl'
    have:=hI.lt i b o g1 g2 (Qbx hl)
    omega
  ·rcases hidx j b o' hj ho' with ⟨_,g4,g5⟩ | ⟨p',id',_,_,_,ep',ip',g4,g5,g6⟩
   ·have:=hfresh id b o g1 g2 hl
    have:=hI.lt j b o' g4 g5 (Qbx hl')
    omega
   ·have he:=hI1.inj id id' b o o' g1 g4 g2 g5 hl hl'
    subst he
    obtain⟨k1,k2⟩:=List.getElem?_eq_some_iff.1 ip
    obtain⟨k3,k4⟩:=List.getElem?_eq_some_iff.1 ip'
    have:=(List.getElem_inj (h₀:=k1) (h₁:=k3) hn).1 (k2.trans k4.symm)
    omega
 ·rcases hidx i b o h ho with ⟨_,g1,g2⟩ | ⟨j,id,fz,t,cs,_,_,g1,g2,g3⟩
  ·exact hI.obj_tr g1 g2 hT' (hk b)
  ·have hq:=hI1.obj id b o g1 g2
   subst g3
   obtain⟨cur,q1,q2,q3⟩:=hq
   rw[List.getElem?_append_right (by omega)] at ho
   obtain⟨t2,cs2,q4,q5⟩:=hscr _ _ ho
   injection q4 with _ _ q4
   subst q4
   exact⟨cur,q1,q2,fun i x hx=>(q3 i x hx).scalar (q5 x (List.mem_of_getElem? hx)) S w'⟩
 ·rcases hidx i b _ h ho with ⟨_,g1,g2⟩ | ⟨j,id,fz,t',cs',_,_,g1,g2,g3⟩
  ·exact hI.fz i b t cs g1 g2
  ·rw[List.getElem?_append_right (by omega)] at ho
   obtain⟨t2,cs2,q4,q5⟩:=hscr _ _ ho
   cases q4
theorem VRel.sc [Globals] {x:AV} {v:Value} (h:VRel S' σ H w x v) (hx:x.sc=true) (S:Nat→Prop):VRel S σ H w x v:=by
 have c0:∀ {x:AV} {v:Value},VRel S' σ H w x v→x.sc0=true→VRel S σ H w x v:=by
  intro x v h hx
  cases h with
  | c h=>exact .c (h.scalar hx S w)
  | hsl hd hh=>exact .hsl hd hh
  | _=>cases hx
 have c1:∀ {x:AV} {v:Value},VRel S' σ H w x v→x.sc1=true→VRel S σ H w x v:=by
  intro x v h hx
  cases h with
  | agg h1 h2 r =>
   simp only[AV.sc1,List.all_eq_true] at hx
   exact .agg h1 h2 fun i y hi=>c0 (r i y hi) (hx y (List.mem_of_getElem? hi))
  | c h=>exact c0 (.c h) hx
  | hsl hd hh=>exact .hsl hd hh
  | _=>cases hx
 cases h with
 | tup h1 r =>
  simp only[AV.sc,List.all_eq_true] at hx
  exact .tup h1 fun i y hi=>c1 (r i y hi) (hx y (List.mem_of_getElem? hi))
 | agg h1 h2 r=>exact c1 (.agg h1 h2 r) hx
 | c h=>exact c1 (.c h) hx
 | hsl hd hh=>exact .hsl hd hh
 | _=>cases hx
theorem QmD [Globals] {cx:Cx} (hc:Qbw P cx.call) {g:FuncId} {args:List AV} {H H':Heap} {r:AV} (h:Qhn cx g args H=some (r,H')) :
  (∃ fn,P.funcs[g]?=some fn∧fn.body.isSome=true∧(fn.name == "runtime.NumGoroutine")=false) ∧
  ∀ (S:Nat→Prop) (σ:List Nat) (w:World) (vs:Array Value),Inv S σ H w→All2 (VRel S σ H w) args vs.toList→Calls P g vs w (Qcw S σ H w r H'):=by
 unfold Qhn at h
 split at h
 rotate_left
 ·obtain⟨⟨args',H0⟩,h0,h⟩:=Option.bind_eq_some_iff.1 h
  obtain⟨⟨r1,H1⟩,h1,h⟩:=Option.bind_eq_some_iff.1 h
  obtain⟨⟨r2,ids⟩,h2,h⟩:=Option.bind_eq_some_iff.1 h
  obtain⟨H2,h3,h⟩:=Option.bind_eq_some_iff.1 h
  split at h<;>first | (cases h;done) | skip
  rename_i hsc
  injection h with h
  injection h with e1 e2
  subst e1
  subst e2
  simp only at h1 h2 h3 hsc
  obtain⟨hfn,hcall⟩:=hc g args' [] r1 H1 h1
  refine⟨hfn,fun S σ w vs hI ha=>?_⟩
  obtain⟨S0,hI0,hT0,ha0,hp⟩:=QdW args vs.toList S H args' H0 hI h0 ha
  have ha':All2 (VRel S0 [] [] w) args' vs.toList:=QgR ha0 hp [] []
  refine(hcall S0 [] w vs (QdK hI0) ha').mono ?_
  rintro e w' ⟨v,S1,σ1,rfl,hI1,hT1,hv⟩
  obtain⟨hI3,hT3⟩:=join2 hI hT1 hI1 (Qsi h2) h3 hsc.2
  exact⟨v,S,_,rfl,hI3,hT3,(hv.imp hI.len hI1.len h3 h2).sc hsc.1 S⟩
 rename_i hp
 simp only[List.all_eq_true] at hp
 obtain⟨⟨r1,H1⟩,h1,h⟩:=Option.bind_eq_some_iff.1 h
 obtain⟨⟨r2,ids⟩,h2,h⟩:=Option.bind_eq_some_iff.1 h
 obtain⟨H2,h3,h⟩:=Option.map_eq_some_iff.1 h
 injection h with e1 e2
 subst e1
 subst e2
 obtain⟨hfn,hcall⟩:=hc g args [] r1 H1 h1
 refine⟨hfn,fun S σ w vs hI ha=>?_⟩
 have ha':All2 (VRel S [] [] w) args vs.toList:=QgR ha hp [] []
 refine(hcall S [] w vs (QdK hI) ha').mono ?_
 rintro e w' ⟨v,S1,σ1,rfl,hI1,hT1,hv⟩
 obtain⟨hI3,hT3⟩:=join hI hT1 hI1 (Qsi h2) h3
 exact⟨v,S1,_,rfl,hI3,hT3,hv.imp hI.len hI1.len h3 h2⟩
end
end
end Go.Ab
