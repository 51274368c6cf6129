/- A part of the proof: what functions of the program answer, of whatever arguments, reckoned with letters by the interpreter's equations. Its conditions stand in each theorem. -/
import Derived.Test.YtbmmjfdofbdfeaaDoorF13M
import Derived.Test.YtbmmjfdofbdfeaaDoorAbArgs
/-! The arguments of this chapter's laws. -/
namespace Go.Proofs.F13
set_option linter.unusedVariables false
set_option linter.unusedSimpArgs false
set_option linter.unusedSectionVars false
open Go.Ab
section
variable {H : Type} {enc : TypeId × Value → H} {W : World} {spare : Nat → Bool} {held : Bool} {fuel : Nat} {cs : List Value} {x : DataW H × List MemPlace}
theorem cells34 : Tryd.prog.cellsOf 34 = 5 := by kernel_rfl
theorem cells3 : Tryd.prog.cellsOf 3 = 1 := by kernel_rfl
set_option maxRecDepth 10000 in
theorem open_ins (h : DataW.trod enc Tryd.prog W 0 spare held fuel 34 cs = some x) : ∃ o t a b c : Int, cs = [.int .i64 o, .int .i64 t, .int .i64 a, .int .i64 b, .int .i64 c] := by
  obtain ⟨xs, n, rfl, _, hl, hx, hf⟩ := DataW.trod_struct Tryd.underlying34 h
  rw [cells34] at hl
  have hx' : xs.length = 5 := hx.trans (by kernel_rfl)
  match cs, hl with
  | [c0, c1, c2, c3, c4], _ =>
    have g0 : DataW.trod enc Tryd.prog W 0 spare held n 3 (([c0, c1, c2, c3, c4].drop 0).take (Tryd.prog.cellsOf 3)) = xs[0]? := hf 0 _ rfl
    have g1 : DataW.trod enc Tryd.prog W 0 spare held n 3 (([c0, c1, c2, c3, c4].drop 1).take (Tryd.prog.cellsOf 3)) = xs[1]? := hf 1 _ rfl
    have g2 : DataW.trod enc Tryd.prog W 0 spare held n 3 (([c0, c1, c2, c3, c4].drop 2).take (Tryd.prog.cellsOf 3)) = xs[2]? := hf 2 _ rfl
    have g3 : DataW.trod enc Tryd.prog W 0 spare held n 3 (([c0, c1, c2, c3, c4].drop 3).take (Tryd.prog.cellsOf 3)) = xs[3]? := hf 3 _ rfl
    have g4 : DataW.trod enc Tryd.prog W 0 spare held n 3 (([c0, c1, c2, c3, c4].drop 4).take (Tryd.prog.cellsOf 3)) = xs[4]? := hf 4 _ rfl
    rw [cells3, List.getElem?_eq_getElem (by omega)] at g0 g1 g2 g3 g4
    obtain ⟨n0, e0, _⟩ := open_num Tryd.underlying3 g0
    obtain ⟨n1, e1, _⟩ := open_num Tryd.underlying3 g1
    obtain ⟨n2, e2, _⟩ := open_num Tryd.underlying3 g2
    obtain ⟨n3, e3, _⟩ := open_num Tryd.underlying3 g3
    obtain ⟨n4, e4, _⟩ := open_num Tryd.underlying3 g4
    simp at e0 e1 e2 e3 e4
    exact ⟨n0, n1, n2, n3, n4, by rw [e0, e1, e2, e3, e4]⟩
theorem agg_of {v : Value} {l : List Value} (h : v.cells.toList = l) (hl : 1 < l.length) : v = .agg l.toArray := by
  cases v with
  | agg cs =>
    have : cs.toList = l := h
    rw [← this]
  | _ =>
    have h1 := congrArg List.length h
    have h2 : l.length = 1 := by rw [← h1]; rfl
    omega
theorem open_insV {v : Value} {d : DataW H} {p : List MemPlace} (h : DataW.Trod enc Tryd.prog W 0 spare held 34 v d p) : ∃ o t a b c : Int, VRel (Old W) [] [] W (aI o t a b c) v := by
  obtain ⟨m, hm⟩ := h
  obtain ⟨o, t, a, b, c, e⟩ := open_ins hm
  refine ⟨o, t, a, b, c, ?_⟩
  rw [agg_of e (by simp)]
  exact VRel.of_rel (xs := [.int .i64 o, .int .i64 t, .int .i64 a, .int .i64 b, .int .i64 c]) (Rel.cons (.int _ _) (Rel.cons (.int _ _) (Rel.cons (.int _ _) (Rel.cons (.int _ _) (Rel.cons (.int _ _) Rel.nil)))))
end
end Go.Proofs.F13
