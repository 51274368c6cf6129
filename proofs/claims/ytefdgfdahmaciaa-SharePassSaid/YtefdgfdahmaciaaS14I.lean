/- A part of the proof: what functions of the program answer, of whatever arguments, reckoned with letters by the interpreter's equations. Its conditions stand in each theorem. -/
import Derived.Test.YtefdgfdahmaciaaS14H
namespace Go.Proofs.Sw
set_option linter.unusedVariables false
set_option linter.unusedSimpArgs false
set_option linter.unusedSectionVars false
open Go.Ab
variable [Globals]
abbrev startS (ins : Int) (n : Nat) : St := ⟨startM ins n, [], ins + 1⟩
theorem l14live_ev (k : Nat) : run (k+60) 13 [] = some (bb true) := by kernel_rfl
def long14 (p : Pg) : Bool := decide (150 < p.code.length) || decide (150 < p.outs.length)
theorem l14long_ev (k : Nat) (p : Pg) (nl : Bool) (cap : Option Nat) (nl2 : Bool) (cap2 : Option Nat) : run (k+1) 14 [aP p nl cap nl2 cap2] = some (bb (long14 p)) := by
  rw [run, ev14, ans_trim]
  by_cases h1 : (150 : Int) < p.code.length
  · have : 150 < p.code.length := by omega
    simp only [Try.f14, aP, ii, bb, h1, EVb, EVc, Int.reduceEq, Int.reduceToNat, Int.reduceLE, Int.reduceLT, Int.reduceAdd, Int.reduceMul, Int.reduceSub, Int.reduceNeg, Nat.reduceAdd, Nat.reduceSub, Nat.reduceMul, Nat.reduceLT, Nat.reduceBEq, Nat.reduceEqDiff, Nat.reduceLeDiff, FACTS, TYPES]
    simp [long14, this]
  · have : ¬ 150 < p.code.length := by omega
    simp only [Try.f14, aP, ii, bb, h1, EVb, EVc, Int.reduceEq, Int.reduceToNat, Int.reduceLE, Int.reduceLT, Int.reduceAdd, Int.reduceMul, Int.reduceSub, Int.reduceNeg, Nat.reduceAdd, Nat.reduceSub, Nat.reduceMul, Nat.reduceLT, Nat.reduceBEq, Nat.reduceEqDiff, Nat.reduceLeDiff, FACTS, TYPES]
    by_cases h2 : (150 : Int) < p.outs.length
    · have h3 : 150 < p.outs.length := by omega
      simp [long14, h2, h3]
    · have h3 : ¬ 150 < p.outs.length := by omega
      simp [long14, this, h2, h3]
theorem values_bad (k : Nat) (p : Pg) (nl : Bool) (cap : Option Nat) (nl2 : Bool) (cap2 : Option Nat) (hk : p.outs.length + p.code.length + 20 ≤ k) (hr : rightM p = false) :
    run (k+2) 25 [aP p nl cap nl2 cap2] = some (.tup [.c (.slice [] 0 true (some 0)), ii 80]) := by
  obtain ⟨n, hc⟩ := check_ev k p nl cap nl2 cap2 (by omega)
  simp only [run, aP, ii, checkE, hr] at hc
  rw [run, ev25, ans_trim]
  simp only [Try.f25, aP, ii, hc, EVb, EVc, Int.reduceEq, Int.reduceToNat, Int.reduceLE, Int.reduceLT, Int.reduceAdd, Int.reduceMul, Int.reduceSub, Int.reduceNeg, Nat.reduceAdd, Nat.reduceSub, Nat.reduceMul, Nat.reduceLT, Nat.reduceBEq, Nat.reduceEqDiff, Nat.reduceLeDiff, FACTS, TYPES]
theorem values_ev (k : Nat) (ins : Int) (n : Nat) (code : List Ins) (outs : List Int) (nl : Bool) (cap : Option Nat) (nl2 : Bool) (cap2 : Option Nat) (hk : outs.length + code.length + 200 ≤ k) (hr : rightM ⟨ins, n, code, outs⟩ = true) :
    run (k+6) 25 [aP ⟨ins, n, code, outs⟩ nl cap nl2 cap2] = some (.tup [sE (valsL (startS ins n) code code.length), ii 0]) := by
  obtain ⟨m, hc⟩ := check_ev (k + 4) ⟨ins, n, code, outs⟩ nl cap nl2 cap2 (by simp only; omega)
  simp only [run, aP, ii, checkE, hr] at hc
  simp only [rightM, headM, Bool.and_eq_true, decide_eq_true_eq] at hr
  obtain ⟨⟨⟨h1, h2, h3, h4, h5, h6⟩, _⟩, hcd⟩ := hr
  have hN := newTable_ev (k + 4) ins n (.slice (encCode code) code.length nl cap) (.slice (encInts outs) outs.length nl2 cap2) (by omega) (by omega) (by omega) (by omega) (by omega)
  have hsl := startM_length ins n
  simp only [ii] at hN
  rw [run, ev25, ans_trim]
  simp only [Try.f25, aP, ii, hc, hN, EVb, EVc, Int.reduceEq, Int.reduceToNat, Int.reduceLE, Int.reduceLT, Int.reduceAdd, Int.reduceMul, Int.reduceSub, Int.reduceNeg, Nat.reduceAdd, Nat.reduceSub, Nat.reduceMul, Nat.reduceLT, Nat.reduceBEq, Nat.reduceEqDiff, Nat.reduceLeDiff, FACTS, TYPES]
  rw [evalCode_loopB LB25_7 lp25_7]; rotate_left; rfl; rfl; rfl
  generalize hz : loopR _ _ _ _ _ _ _ _ _ _ _ _ = z
  obtain ⟨l', rfl, e6, e7, e23, e24, e25⟩ := loop_Values (k + 1) (.int .i64 ins) (.int .i64 n) (.slice (encCode code) code.length nl cap) (.slice (encInts outs) outs.length nl2 cap2) (startS ins n) code nl cap
    (by rw [show (startS ins n).held.length = n from hsl]; exact fun i hi => List.all_eq_true.1 hcd i hi) (by omega) (by simp only [startS]; omega) _ _ z hz (by omega) (by rfl) (by rfl) (by rfl) (by rfl) (by rfl)
  simp only [e7, valsL_length, encInts_length, Nat.mul_one, EVb, EVc, Int.reduceEq, Int.reduceToNat, Int.reduceLE, Int.reduceLT, Int.reduceAdd, Int.reduceMul, Int.reduceSub, Int.reduceNeg, Nat.reduceAdd, Nat.reduceSub, Nat.reduceMul, Nat.reduceLT, Nat.reduceBEq, Nat.reduceEqDiff, Nat.reduceLeDiff, FACTS, TYPES]
  simp only [sE, sI, nlE, cpE, valsL_length]
theorem Twice_raw (k : Nat) (x0 x1 x2 x3 : IV) (H : Heap) : evalT Try.prog (mkHints tab) (k+1) (.fn 26) [.agg [.c x0, .c x1, .c x2, .c x3]] H = some (.clo 73 [] [.ptr H.length 0], H ++ [.cells 25 [.c x0, .c x1, .c x2, .c x3]]) := by
  rw [ev26]
  simp only [Try.f26, EVb, EVc, Int.reduceEq, Int.reduceToNat, Int.reduceLE, Int.reduceLT, Int.reduceAdd, Int.reduceMul, Int.reduceSub, Int.reduceNeg, Nat.reduceAdd, Nat.reduceSub, Nat.reduceMul, Nat.reduceLT, Nat.reduceBEq, Nat.reduceEqDiff, Nat.reduceLeDiff, FACTS, TYPES]
  rw [if_neg (fun h => h.1)]
end Go.Proofs.Sw
