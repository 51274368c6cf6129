/- A part of the proof: what functions of the program answer, of whatever arguments, reckoned with letters by the interpreter's equations. Its conditions stand in each theorem. -/
import Derived.Test.YtefdgfdahmaciaaS15F
namespace Go.Proofs.Sw
set_option linter.unusedVariables false
set_option linter.unusedSimpArgs false
set_option linter.unusedSectionVars false
open Go.Ab
variable [Globals]
abbrev zP : Pg := ⟨0, 0, [], []⟩
/-- What the pass makes. -/
def deadP (p : Pg) : Pg := ⟨p.ins, p.regs, keepL p.code (neededM p), p.outs⟩
theorem deadPass_bad (k : Nat) (p : Pg) (nl : Bool) (cap : Option Nat) (nl2 : Bool) (cap2 : Option Nat) (hk : p.outs.length + p.code.length + 12 ≤ k) (hr : rightM p = false) :
    run (k+1) 30 [aP p nl cap nl2 cap2] = some (.tup [aP zP true (some 0) true (some 0), ii 80]) := by
  obtain ⟨k, rfl⟩ : ∃ j, k = j + 1 := ⟨k - 1, by omega⟩
  obtain ⟨n, hc⟩ := check_ev k p nl cap nl2 cap2 (by omega)
  simp only [run, aP, ii, bb, checkE, hr] at hc
  rw [run, ev30, ans_trim]
  simp only [Try.f30, aP, ii, bb, hc, EVb, EVc, Int.reduceEq, Int.reduceToNat, Int.reduceLE, Int.reduceLT, Int.reduceAdd, Int.reduceMul, Int.reduceSub, Int.reduceNeg, Nat.reduceAdd, Nat.reduceSub, Nat.reduceMul, Nat.reduceLT, Nat.reduceBEq, Nat.reduceEqDiff, Nat.reduceLeDiff, FACTS, TYPES]
  rfl
theorem deadPass_ev (k n : Nat) (ins : Int) (code : List Ins) (outs : List Int) (nl : Bool) (cap cap2 : Option Nat) (hk : outs.length + code.length + 110 ≤ k) (hr : rightM ⟨ins, n, code, outs⟩ = true) :
    run (k+1) 30 [aP ⟨ins, n, code, outs⟩ nl cap false cap2] =
      some (.tup [aP (deadP ⟨ins, n, code, outs⟩) (nlE (deadP ⟨ins, n, code, outs⟩).code) (cpE (deadP ⟨ins, n, code, outs⟩).code) false none, ii 0]) := by
  have hr' := hr
  simp only [rightM, headM, Bool.and_eq_true, decide_eq_true_eq] at hr'
  obtain ⟨⟨hh, ho⟩, hc⟩ := hr'
  obtain ⟨k, rfl⟩ : ∃ j, k = j + 1 := ⟨k - 1, by omega⟩
  obtain ⟨cn, hck⟩ := check_ev k ⟨ins, n, code, outs⟩ nl cap false cap2 (by simp only; omega)
  have hne := needed_ev k n ins code outs nl cap false cap2 (by omega) hr
  have hcl := clone_ev k outs false cap2 (by omega) (by omega)
  have hnl : (neededM ⟨ins, n, code, outs⟩).length = code.length := (needL_length _ _).2
  simp only [run, aP, ii, bb, sI, sC, sB, checkE, hr] at hck hne hcl
  rw [run, ev30, ans_trim]
  simp only [Try.f30, aP, ii, bb, hck, hne, EVb, EVc, Int.reduceEq, Int.reduceToNat, Int.reduceLE, Int.reduceLT, Int.reduceAdd, Int.reduceMul, Int.reduceSub, Int.reduceNeg, Nat.reduceAdd, Nat.reduceSub, Nat.reduceMul, Nat.reduceLT, Nat.reduceBEq, Nat.reduceEqDiff, Nat.reduceLeDiff, FACTS, TYPES]
  rw [evalCode_loopB LB30_6 lp30_6]; rotate_left; rfl; rfl; rfl
  generalize hz : loopR _ _ _ _ _ _ _ _ _ _ _ _ = z
  obtain rfl := loop_deadPass_6 (k + 1) (by omega) (.int .i64 ins) (.int .i64 n) (.slice (encInts outs) outs.length false cap2) _ (by rfl) code nl cap (neededM ⟨ins, n, code, outs⟩) false none hnl (by omega) _ _ z hz (by omega) (by rfl) (by rfl) (by rfl) (by rfl) (by rfl) (by rfl)
  clear hz
  have hq : (encCode (keepL code (neededM ⟨ins, n, code, outs⟩))).length = (keepL code (neededM ⟨ins, n, code, outs⟩)).length * 5 := encCode_length _
  simp only [EVb, EVc, Int.reduceEq, Int.reduceToNat, Int.reduceLE, Int.reduceLT, Int.reduceAdd, Int.reduceMul, Int.reduceSub, Int.reduceNeg, Nat.reduceAdd, Nat.reduceSub, Nat.reduceMul, Nat.reduceLT, Nat.reduceBEq, Nat.reduceEqDiff, Nat.reduceLeDiff, FACTS, TYPES]
  rw [evalCode_drawn Try.f30 11 dr30_11]; rotate_left; rfl
  simp only [hcl, hq, EVd, Nat.reducePow, Nat.reduceDiv, Nat.reduceMod, EVb, EVc, Int.reduceEq, Int.reduceToNat, Int.reduceLE, Int.reduceLT, Int.reduceAdd, Int.reduceMul, Int.reduceSub, Int.reduceNeg, Nat.reduceAdd, Nat.reduceSub, Nat.reduceMul, Nat.reduceLT, Nat.reduceBEq, Nat.reduceEqDiff, Nat.reduceLeDiff, FACTS, TYPES]
  rfl
end Go.Proofs.Sw
