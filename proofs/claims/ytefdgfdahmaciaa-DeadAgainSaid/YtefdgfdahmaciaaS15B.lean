/- A part of the proof: what functions of the program answer, of whatever arguments, reckoned with letters by the interpreter's equations. Its conditions stand in each theorem. -/
import Derived.Test.YtefdgfdahmaciaaS15A
namespace Go.Proofs.Sw
set_option linter.unusedVariables false
set_option linter.unusedSimpArgs false
set_option linter.unusedSectionVars false
open Go.Ab
variable [Globals]
theorem under1_self {n off : Nat} : AV.under1 n (.ptr n off) = false := by simp [AV.under1]
theorem Back_raw (k : Nat) (x y z w : AV) (hx : [x, y, z, w].all AV.isCell = true) (H : Heap) : evalT Try.prog (mkHints tab) (k+1) (.fn 78) [.agg [x, y, z, w]] H = some (.clo 110 [] [.ptr H.length 0], H ++ [.cells 25 [x, y, z, w]]) := by
  simp only [List.all_cons, List.all_nil, Bool.and_true, Bool.and_eq_true] at hx
  rw [ev78]
  simp only [Try.f78, hx, EVb, EVc, Int.reduceEq, Int.reduceToNat, Int.reduceLE, Int.reduceLT, Int.reduceAdd, Int.reduceMul, Int.reduceSub, Int.reduceNeg, Nat.reduceAdd, Nat.reduceSub, Nat.reduceMul, Nat.reduceLT, Nat.reduceBEq, Nat.reduceEqDiff, Nat.reduceLeDiff, FACTS, TYPES]
  rfl
theorem Back_ans (k : Nat) (x y z w : AV) (hx : [x, y, z, w].all AV.isCell = true) : ans (evalT Try.prog (mkHints tab) (k+1) (.fn 78) [.agg [x, y, z, w]] []) = none := by
  rw [Back_raw k x y z w hx]; rfl
theorem Backward_raw (k : Nat) (x : IV) (H : Heap) : evalT Try.prog (mkHints tab) (k+1) (.fn 111) [.c x] H = some (.clo 128 [] [.ptr H.length 0], H ++ [.cells 22 [.c x]]) := by
  rw [ev111]
  simp only [Try.f111, EVb, EVc, Int.reduceEq, Int.reduceToNat, Int.reduceLE, Int.reduceLT, Int.reduceAdd, Int.reduceMul, Int.reduceSub, Int.reduceNeg, Nat.reduceAdd, Nat.reduceSub, Nat.reduceMul, Nat.reduceLT, Nat.reduceBEq, Nat.reduceEqDiff, Nat.reduceLeDiff, FACTS, TYPES]
  rfl
theorem Backward_ans (k : Nat) (x : IV) : ans (evalT Try.prog (mkHints tab) (k+1) (.fn 111) [.c x] []) = none := by
  rw [Backward_raw]; rfl
end Go.Proofs.Sw
