/- A part of the proof: an interpreter on abstract values, proved right for every program; no condition. -/
import Derived.Test.YtiiannaficbjeaaDoorAbTop
namespace Go.Ab
set_option linter.unusedVariables false
set_option linter.unusedSimpArgs false
set_option linter.unusedSectionVars false
open Go.RowKit
theorem Q5l [Globals] (P:Program) (h:∀ f args H,Globals.fn f args H=none):Qbw P Globals.fn:=fun g args H r H' e=>by rw [h] at e;cases e
theorem Qyk [Globals] {P:Program} (hm:P.follows .mixedOrders=true) {hints:Hints} {k:Nat} {f:FuncId} {args:List AV} {b:Bool} {H':Heap} (h:QGG P hints k f args []=some (.c (.bool b),H'))
  {w:World} {vs:Array Value} (ha:All2 (VRel (fun b=>b<w.heap.size) [] [] w) args vs.toList)
  (hg:∀ (g:Nat) (cells:List IV),Globals.gl g=some cells→IRel (fun b=>b<w.heap.size) w (.iptr cells 0) (.pointer (some ⟨g,0,none⟩)))
  (hsp:Qbw P Globals.fn:=by exact Q5l _ fun _ _ _=>rfl) :
  Calls P f vs w fun e w'=>e=.returned (.bool b)∧Below w.heap.size w w':=by
 have hI:Inv (fun b=>b<w.heap.size) [] [] w:=⟨rfl,fun i b o h=>by simp at h,fun b h=>h,fun i b o h=>by simp at h,fun i j b o o' h=>by simp at h,fun i b o h=>by simp at h,fun i b t cs h=>by simp at h,hg⟩
 refine((QyX hm hsp hints k f args [] _ H' h).2 _ [] w vs hI ha).mono ?_
 rintro e w' ⟨v,S',σ',rfl,_,hT,hv⟩
 cases hv with
 | c hv =>
 cases hv
 exact⟨rfl,hT.os,hT.tape,hT.output,hT.size,fun k hk=>hT.keep k hk fun ⟨i,o,h1,_⟩=>by simp at h1⟩
end Go.Ab
