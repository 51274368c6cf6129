/- A part of the proof: what functions of the program answer, of whatever arguments, reckoned with letters by the interpreter's equations. Its conditions stand in each theorem. -/
import Derived.Test.YtefdgfdahmaciaaS14M
namespace Go.Proofs.Sw
set_option linter.unusedVariables false
set_option linter.unusedSimpArgs false
set_option linter.unusedSectionVars false
open Go.Ab
variable [Globals]
theorem sharePass_bad (k : Nat) (p : Pg) (nl : Bool) (cap : Option Nat) (nl2 : Bool) (cap2 : Option Nat) (hk : p.outs.length + p.code.length + 20 ≤ k) (hr : rightM p = false) :
    ∃ G, evalT Try.prog (mkHints tab) (k+2) (.fn 16) [aP p nl cap nl2 cap2] [] = some (.tup [.agg [ii 0, ii 0, .c (.slice [] 0 true (some 0)), .c (.slice [] 0 true (some 0))], ii 80], G) := by
  obtain ⟨n, hc⟩ := check_ev k p nl cap nl2 cap2 (by omega)
  simp only [run, aP, ii, checkE, hr, Bool.false_eq_true, if_false] at hc
  rw [ev16]
  simp only [Try.f16, aP, ii, hc, EVb, EVc, Int.reduceEq, Int.reduceToNat, Int.reduceLE, Int.reduceLT, Int.reduceAdd, Int.reduceMul, Int.reduceSub, Int.reduceNeg, Nat.reduceAdd, Nat.reduceSub, Nat.reduceMul, Nat.reduceLT, Nat.reduceBEq, Nat.reduceEqDiff, Nat.reduceLeDiff, FACTS, TYPES]
  exact ⟨_, rfl⟩
/-- What the pass answers, of a program that may be. -/
theorem sharePass_ev (k : Nat) (ins : Int) (n : Nat) (code : List Ins) (outs : List Int) (nl : Bool) (cap : Option Nat) (nl2 : Bool) (cap2 : Option Nat) (hk : outs.length + code.length + 400 ≤ k) (hr : rightM ⟨ins, n, code, outs⟩ = true) :
    ∃ X, evalT Try.prog (mkHints tab) (k+9) (.fn 16) [aP ⟨ins, n, code, outs⟩ nl cap nl2 cap2] [] =
      some (.tup [.agg [ii ins, ii n, lv 0 5 (passC ins n code).length, .hsl 1 0 outs.length outs.length 1], ii 0], codeO (passC ins n code) :: rI (outsL (passS ins n code).held outs) :: X) := by
  obtain ⟨m, hc⟩ := check_ev (k + 7) ⟨ins, n, code, outs⟩ nl cap nl2 cap2 (by simp only; omega)
  simp only [run, aP, ii, checkE, hr, if_true] at hc
  simp only [rightM, headM, Bool.and_eq_true, decide_eq_true_eq] at hr
  obtain ⟨⟨⟨h1, h2, h3, h4, h5, h6⟩, hos⟩, hcd⟩ := hr
  have hN := newTable_ev (k + 7) ins n (.slice (encCode code) code.length nl cap) (.slice (encInts outs) outs.length nl2 cap2) (by omega) (by omega) (by omega) (by omega) (by omega)
  have hsl := startM_length ins n
  simp only [ii] at hN
  rw [ev16]
  simp only [Try.f16, aP, ii, hc, hN, EVb, EVc, Int.reduceEq, Int.reduceToNat, Int.reduceLE, Int.reduceLT, Int.reduceAdd, Int.reduceMul, Int.reduceSub, Int.reduceNeg, Nat.reduceAdd, Nat.reduceSub, Nat.reduceMul, Nat.reduceLT, Nat.reduceBEq, Nat.reduceEqDiff, Nat.reduceLeDiff, FACTS, TYPES]
  rw [evalCode_loopB LB16_7 lp16_7]; rotate_left; rfl; rfl; rfl
  generalize hz : loopR _ _ _ _ _ _ _ _ _ _ _ _ = z
  obtain ⟨l', rfl, e1, e2, e6, e7, e32, e33, e34⟩ := loop_sharePass k (.int .i64 ins) (.int .i64 n) (.slice (encCode code) code.length nl cap) (.slice (encInts outs) outs.length nl2 cap2) (.int .i64 ins) (.int .i64 n) _ (by rfl) (startS ins n) code nl cap
    (by rw [show (startS ins n).held.length = n from hsl]; exact fun i hi => List.all_eq_true.1 hcd i hi) (by omega) (by rw [show (startS ins n).held.length = n from hsl]; omega) (by omega) (by simp only [startS]; omega) _ _ z hz (by omega) (by rfl) (by rfl) (by rfl) (by rfl) (by rfl) (by rfl) (by rfl)
  clear hz
  have hpl : (passS ins n code).held.length = n := by rw [(passAt_facts _ _ _).1]; exact hsl
  simp only [e1, e2, e6, e7, e32, e33, e34, EVb, EVc, Int.reduceEq, Int.reduceToNat, Int.reduceLE, Int.reduceLT, Int.reduceAdd, Int.reduceMul, Int.reduceSub, Int.reduceNeg, Nat.reduceAdd, Nat.reduceSub, Nat.reduceMul, Nat.reduceLT, Nat.reduceBEq, Nat.reduceEqDiff, Nat.reduceLeDiff, FACTS, TYPES]
  rw [evalCode_loopB LB16_19 lp16_19]; rotate_left; rfl; rfl; rfl
  generalize hz : loopR _ _ _ _ _ _ _ _ _ _ _ _ = z
  obtain ⟨l2, rfl, f2, f6, f7, f84, f85, f86⟩ := loop_sharePass2 k (.int .i64 ins) (.int .i64 n) (.slice (encCode code) code.length nl cap) (.slice (encInts outs) outs.length nl2 cap2) (.int .i64 ins) (.int .i64 n) _ (by rfl) (passC ins n code).length (encCode (passC ins n code)) (passS ins n code) outs nl2 cap2
    (by rw [hpl]; exact fun r hr => by simpa using List.all_eq_true.1 hos r hr) (by omega) (by rw [hpl]; omega) (by omega) _ _ z hz (by omega) (by exact e2) (by exact e6) (by exact e7) (by rfl) (by rfl) (by rfl)
  clear hz
  have e8 := lv_pos (s := 1) (sz := 1) (show 0 < outs.length by omega)
  have e9 := lo_pos (e := 3) (cells := encInts (outsL (passS ins n code).held outs)) (show 0 < outs.length by omega)
  rw [List.take_length]
  simp only [f2, f7, e8, e9, EVb, EVc, Int.reduceEq, Int.reduceToNat, Int.reduceLE, Int.reduceLT, Int.reduceAdd, Int.reduceMul, Int.reduceSub, Int.reduceNeg, Nat.reduceAdd, Nat.reduceSub, Nat.reduceMul, Nat.reduceLT, Nat.reduceBEq, Nat.reduceEqDiff, Nat.reduceLeDiff, FACTS, TYPES]
  exact ⟨_, rfl⟩
end Go.Proofs.Sw
