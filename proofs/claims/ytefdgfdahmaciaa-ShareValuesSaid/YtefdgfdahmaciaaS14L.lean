/- A part of the proof: what functions of the program answer, of whatever arguments, reckoned with letters by the interpreter's equations. Its conditions stand in each theorem. -/
import Derived.Test.YtefdgfdahmaciaaS14K
import Derived.Test.YtefdgfdahmaciaaS08R
namespace Go.Proofs.Sw
set_option linter.unusedVariables false
set_option linter.unusedSimpArgs false
set_option linter.unusedSectionVars false
open Go.Ab
variable [Globals]
theorem ShareValues_good (k : Nat) (ins : Int) (n : Nat) (code : List Ins) (outs : List Int) (nl : Bool) (cap : Option Nat) (nl2 : Bool) (cap2 : Option Nat) (stop : Int) (hk : outs.length + code.length + 4000 ≤ k) (hr : rightM ⟨ins, n, code, outs⟩ = true) (hlg : long14 ⟨ins, n, code, outs⟩ = false) :
    run (k+61) 5 [aP ⟨ins, n, code, outs⟩ nl cap nl2 cap2, ii stop] = some (bb true) := by
  have hwk := l14live_ev k
  have hlg' := l14long_ev (k + 59) ⟨ins, n, code, outs⟩ nl cap nl2 cap2
  have hv := values_ev (k + 54) ins n code outs nl cap nl2 cap2 (by omega) hr
  have hrt := rRight_ev (k + 59) ⟨ins, n, code, outs⟩ nl cap nl2 cap2 (by simp only; omega)
  obtain ⟨cm, hck⟩ := check_ev (k + 58) ⟨ins, n, code, outs⟩ nl cap nl2 cap2 (by simp only; omega)
  have hr' := hr
  simp only [rightM, headM, Bool.and_eq_true, decide_eq_true_eq] at hr'
  obtain ⟨⟨⟨h1, h2, h3, h4, h5, h6⟩, _⟩, hcd⟩ := hr'
  have hB := Begin_ev (k + 59) ins n (.slice (encCode code) code.length nl cap) (.slice (encInts outs) outs.length nl2 cap2) (by omega) (by omega) (by omega) (by omega) (by omega)
  have hN := newTable_ev (k + 58) ins n (.slice (encCode code) code.length nl cap) (.slice (encInts outs) outs.length nl2 cap2) (by omega) (by omega) (by omega) (by omega) (by omega)
  have hT := Twice_raw (k + 59) (.int .i64 ins) (.int .i64 n) (.slice (encCode code) code.length nl cap) (.slice (encInts outs) outs.length nl2 cap2)
  simp only [run, aP, ii, bb, checkE, hlg, hr, sE, sI, if_true] at hwk hlg' hv hrt hB hck hN
  rw [valsL_length] at hv
  rw [run, ev5, ans_trim]
  simp only [Try.f5, aP, ii, bb, hwk, hlg', hv, hrt, hB, hT, EVb, EVc, Int.reduceEq, Int.reduceToNat, Int.reduceLE, Int.reduceLT, Int.reduceAdd, Int.reduceMul, Int.reduceSub, Int.reduceNeg, Nat.reduceAdd, Nat.reduceSub, Nat.reduceMul, Nat.reduceLT, Nat.reduceBEq, Nat.reduceEqDiff, Nat.reduceLeDiff, FACTS, TYPES]
  rw [evalCode_loopB LB5_19 lp5_19]; rotate_left; rfl; rfl; rfl
  generalize hz : loopR _ _ _ _ _ _ _ _ _ _ _ _ = z
  obtain ⟨l', rfl, e2, e3, e4, e5, e7, e9, e10, e11⟩ := loop_law (k + 55) (.int .i64 ins) (.int .i64 n) (.slice (encCode code) code.length nl cap) (.slice (encInts outs) outs.length nl2 cap2) (.int .i64 ins) (.int .i64 n) (.slice (encCode code) code.length nl cap) (.slice (encInts outs) outs.length nl2 cap2) stop (startS ins n) code nl cap _ _ rfl
    (by rw [show (startS ins n).held.length = n from startM_length ins n]; exact fun i hi => List.all_eq_true.1 hcd i hi) (by simp [long14] at hlg; omega) (by omega) rfl (by simp only [startS]; omega) _ _ z hz (by omega) (by rfl) (by rfl) (by rfl) (by rfl) (by rfl) (by rfl) (by rfl) (by rfl)
  clear hz
  simp only [e2, e3, e4, e5, e7, e9, e10, e11, EVb, EVc, Int.reduceEq, Int.reduceToNat, Int.reduceLE, Int.reduceLT, Int.reduceAdd, Int.reduceMul, Int.reduceSub, Int.reduceNeg, Nat.reduceAdd, Nat.reduceSub, Nat.reduceMul, Nat.reduceLT, Nat.reduceBEq, Nat.reduceEqDiff, Nat.reduceLeDiff, FACTS, TYPES]
  rw [evalCode_loopB LB5_28 lp5_28]; rotate_left; rfl; rfl; rfl
  obtain ⟨k, rfl⟩ : ∃ j, k = j + 3 := ⟨k - 3, by omega⟩
  rw [show k + 3 + 60 = (k + 62) + 1 from rfl, loopR_succ]
  simp only [e2, e3, e4, e5, e7, e9, e10, e11, loopR_succ, loopOf, findLoop, firstRegion, Option.some_or, Option.none_or, Option.getD_some, Option.some.injEq, Try.f5, EVb, EVc, Int.reduceEq, Int.reduceToNat, Int.reduceLE, Int.reduceLT, Int.reduceAdd, Int.reduceMul, Int.reduceSub, Int.reduceNeg, Nat.reduceAdd, Nat.reduceSub, Nat.reduceMul, Nat.reduceLT, Nat.reduceBEq, Nat.reduceEqDiff, Nat.reduceLeDiff, FACTS, TYPES]
  rw [evalCode_rf RA5_32 RB5_32]; rotate_left; rfl; rfl
  simp only [ev73, Try.f73, hck, hN, EVb, EVc, Int.reduceEq, Int.reduceToNat, Int.reduceLE, Int.reduceLT, Int.reduceAdd, Int.reduceMul, Int.reduceSub, Int.reduceNeg, Nat.reduceAdd, Nat.reduceSub, Nat.reduceMul, Nat.reduceLT, Nat.reduceBEq, Nat.reduceEqDiff, Nat.reduceLeDiff, FACTS, TYPES]
  rw [evalCode_loopB LB73_4 lp73_4]; rotate_left; rfl; rfl; rfl
  generalize hz : loopR _ _ _ _ _ _ _ _ _ _ _ _ = z
  have hcode : ∀ i ∈ code, mayM i (startS ins n).held.length = true := by rw [show (startS ins n).held.length = n from startM_length ins n]; exact fun i hi => List.all_eq_true.1 hcd i hi
  have hl150 : code.length ≤ 1000 := by simp [long14] at hlg; omega
  obtain ⟨l9, rfl | ⟨S8, G, rfl⟩⟩ := loop_Twice0 (k + 52) _ _ _ _ _ (by simp only [lo_under]) (by rfl) (by rfl) (by simp only [lv_under, EVb, EVc, Int.reduceEq, Int.reduceToNat, Int.reduceLE, Int.reduceLT, Int.reduceAdd, Int.reduceMul, Int.reduceSub, Int.reduceNeg, Nat.reduceAdd, Nat.reduceSub, Nat.reduceMul, Nat.reduceLT, Nat.reduceBEq, Nat.reduceEqDiff, Nat.reduceLeDiff]) (by rfl) stop (startS ins n) code nl cap hcode hl150 (by simp only [startS]; omega) _ (by simp only [EVb, EVc, Int.reduceEq, Int.reduceToNat, Int.reduceLE, Int.reduceLT, Int.reduceAdd, Int.reduceMul, Int.reduceSub, Int.reduceNeg, Nat.reduceAdd, Nat.reduceSub, Nat.reduceMul, Nat.reduceLT, Nat.reduceBEq, Nat.reduceEqDiff, Nat.reduceLeDiff]) (by rfl) (by rfl) (by rfl) (by rfl) (by rfl) _ _ z hz (by omega) (by rfl) (by rfl) (by rfl) (by rfl) (by rfl)
  · clear hz
    simp only [rfObj_under, lv_under, EVb, EVc, Int.reduceEq, Int.reduceToNat, Int.reduceLE, Int.reduceLT, Int.reduceAdd, Int.reduceMul, Int.reduceSub, Int.reduceNeg, Nat.reduceAdd, Nat.reduceSub, Nat.reduceMul, Nat.reduceLT, Nat.reduceBEq, Nat.reduceEqDiff, Nat.reduceLeDiff, FACTS, TYPES]
    rw [loopR_succ (k := k + 61), trim_not (i := 14) (by decide) (by rfl)]
    simp only [loopR_succ, loopOf, findLoop, firstRegion, Option.some_or, Option.none_or, Option.getD_some, Option.some.injEq, Try.f5, EVb, EVc, Int.reduceEq, Int.reduceToNat, Int.reduceLE, Int.reduceLT, Int.reduceAdd, Int.reduceMul, Int.reduceSub, Int.reduceNeg, Nat.reduceAdd, Nat.reduceSub, Nat.reduceMul, Nat.reduceLT, Nat.reduceBEq, Nat.reduceEqDiff, Nat.reduceLeDiff, FACTS, TYPES]
    rw [evalCode_rf RA5_32 RB5_32]; rotate_left; rfl; rfl
    simp only [ev73, Try.f73, hck, hN, EVb, EVc, Int.reduceEq, Int.reduceToNat, Int.reduceLE, Int.reduceLT, Int.reduceAdd, Int.reduceMul, Int.reduceSub, Int.reduceNeg, Nat.reduceAdd, Nat.reduceSub, Nat.reduceMul, Nat.reduceLT, Nat.reduceBEq, Nat.reduceEqDiff, Nat.reduceLeDiff, FACTS, TYPES]
    rw [evalCode_loopB LB73_4 lp73_4]; rotate_left; rfl; rfl; rfl
    generalize hz : loopR _ _ _ _ _ _ _ _ _ _ _ _ = z
    obtain ⟨l8, rfl⟩ := loop_Twice1 (k + 52) _ _ _ _ _ _ _ _ (by simp only [lo_under]) (by rfl) (by rfl) (by simp only [lv_under, EVb, EVc, Int.reduceEq, Int.reduceToNat, Int.reduceLE, Int.reduceLT, Int.reduceAdd, Int.reduceMul, Int.reduceSub, Int.reduceNeg, Nat.reduceAdd, Nat.reduceSub, Nat.reduceMul, Nat.reduceLT, Nat.reduceBEq, Nat.reduceEqDiff, Nat.reduceLeDiff]) (by rfl) (by rfl) (by rfl) (by simp only [rfObj_under, EVb, EVc, Int.reduceEq, Int.reduceToNat, Int.reduceLE, Int.reduceLT, Int.reduceAdd, Int.reduceMul, Int.reduceSub, Int.reduceNeg, Nat.reduceAdd, Nat.reduceSub, Nat.reduceMul, Nat.reduceLT, Nat.reduceBEq, Nat.reduceEqDiff, Nat.reduceLeDiff]) stop (startS ins n) code nl cap hcode hl150 (by simp only [startS]; omega) _ (by simp only [EVb, EVc, Int.reduceEq, Int.reduceToNat, Int.reduceLE, Int.reduceLT, Int.reduceAdd, Int.reduceMul, Int.reduceSub, Int.reduceNeg, Nat.reduceAdd, Nat.reduceSub, Nat.reduceMul, Nat.reduceLT, Nat.reduceBEq, Nat.reduceEqDiff, Nat.reduceLeDiff]) (by rfl) (by rfl) (by rfl) (by rfl) (by rfl) _ _ z hz (by omega) (by rfl) (by rfl) (by rfl) (by rfl) (by rfl)
    clear hz
    simp only [rfObj_under, lv_under, EVb, EVc, Int.reduceEq, Int.reduceToNat, Int.reduceLE, Int.reduceLT, Int.reduceAdd, Int.reduceMul, Int.reduceSub, Int.reduceNeg, Nat.reduceAdd, Nat.reduceSub, Nat.reduceMul, Nat.reduceLT, Nat.reduceBEq, Nat.reduceEqDiff, Nat.reduceLeDiff, FACTS, TYPES]
    rw [loopR_succ (k := k + 60), trim_not (i := 14) (by decide) (by rfl)]
    simp only [loopR_succ, loopOf, findLoop, firstRegion, Option.some_or, Option.none_or, Option.getD_some, Option.some.injEq, Try.f5, EVb, EVc, Int.reduceEq, Int.reduceToNat, Int.reduceLE, Int.reduceLT, Int.reduceAdd, Int.reduceMul, Int.reduceSub, Int.reduceNeg, Nat.reduceAdd, Nat.reduceSub, Nat.reduceMul, Nat.reduceLT, Nat.reduceBEq, Nat.reduceEqDiff, Nat.reduceLeDiff, FACTS, TYPES]
  · clear hz
    by_cases hse : stop = (((twL (startS ins n) code code.length).length : Nat) : Int)
    · have hse' := eq_true hse
      simp only [rfObj_under, lv_under, List.cons_append, List.nil_append, hse', EVb, EVc, Int.reduceEq, Int.reduceToNat, Int.reduceLE, Int.reduceLT, Int.reduceAdd, Int.reduceMul, Int.reduceSub, Int.reduceNeg, Nat.reduceAdd, Nat.reduceSub, Nat.reduceMul, Nat.reduceLT, Nat.reduceBEq, Nat.reduceEqDiff, Nat.reduceLeDiff, FACTS, TYPES]
      rw [loopR_succ (k := k + 61), trim_not (i := 14) (by decide) (by rfl)]
      simp only [loopR_succ, loopOf, findLoop, firstRegion, Option.some_or, Option.none_or, Option.getD_some, Option.some.injEq, Try.f5, EVb, EVc, Int.reduceEq, Int.reduceToNat, Int.reduceLE, Int.reduceLT, Int.reduceAdd, Int.reduceMul, Int.reduceSub, Int.reduceNeg, Nat.reduceAdd, Nat.reduceSub, Nat.reduceMul, Nat.reduceLT, Nat.reduceBEq, Nat.reduceEqDiff, Nat.reduceLeDiff, FACTS, TYPES]
      rw [evalCode_rf RA5_32 RB5_32]; rotate_left; rfl; rfl
      simp only [ev73, Try.f73, hck, hN, EVb, EVc, Int.reduceEq, Int.reduceToNat, Int.reduceLE, Int.reduceLT, Int.reduceAdd, Int.reduceMul, Int.reduceSub, Int.reduceNeg, Nat.reduceAdd, Nat.reduceSub, Nat.reduceMul, Nat.reduceLT, Nat.reduceBEq, Nat.reduceEqDiff, Nat.reduceLeDiff, FACTS, TYPES]
      rw [evalCode_loopB LB73_4 lp73_4]; rotate_left; rfl; rfl; rfl
      generalize hz : loopR _ _ _ _ _ _ _ _ _ _ _ _ = z
      obtain ⟨l8, rfl⟩ := loop_Twice1 (k + 52) _ _ _ _ _ _ _ _ (by simp only [lo_under]) (by rfl) (by rfl) (by simp only [lv_under, EVb, EVc, Int.reduceEq, Int.reduceToNat, Int.reduceLE, Int.reduceLT, Int.reduceAdd, Int.reduceMul, Int.reduceSub, Int.reduceNeg, Nat.reduceAdd, Nat.reduceSub, Nat.reduceMul, Nat.reduceLT, Nat.reduceBEq, Nat.reduceEqDiff, Nat.reduceLeDiff]) (by rfl) (by rfl) (by rfl) (by simp only [rfObj_under, EVb, EVc, Int.reduceEq, Int.reduceToNat, Int.reduceLE, Int.reduceLT, Int.reduceAdd, Int.reduceMul, Int.reduceSub, Int.reduceNeg, Nat.reduceAdd, Nat.reduceSub, Nat.reduceMul, Nat.reduceLT, Nat.reduceBEq, Nat.reduceEqDiff, Nat.reduceLeDiff]) stop (startS ins n) code nl cap hcode hl150 (by simp only [startS]; omega) _ (by simp only [EVb, EVc, Int.reduceEq, Int.reduceToNat, Int.reduceLE, Int.reduceLT, Int.reduceAdd, Int.reduceMul, Int.reduceSub, Int.reduceNeg, Nat.reduceAdd, Nat.reduceSub, Nat.reduceMul, Nat.reduceLT, Nat.reduceBEq, Nat.reduceEqDiff, Nat.reduceLeDiff]) (by rfl) (by rfl) (by rfl) (by rfl) (by rfl) _ _ z hz (by omega) (by rfl) (by rfl) (by rfl) (by rfl) (by rfl)
      clear hz
      simp only [rfObj_under, lv_under, EVb, EVc, Int.reduceEq, Int.reduceToNat, Int.reduceLE, Int.reduceLT, Int.reduceAdd, Int.reduceMul, Int.reduceSub, Int.reduceNeg, Nat.reduceAdd, Nat.reduceSub, Nat.reduceMul, Nat.reduceLT, Nat.reduceBEq, Nat.reduceEqDiff, Nat.reduceLeDiff, FACTS, TYPES]
      rw [loopR_succ (k := k + 60), trim_not (i := 14) (by decide) (by rfl)]
      simp only [loopR_succ, loopOf, findLoop, firstRegion, Option.some_or, Option.none_or, Option.getD_some, Option.some.injEq, Try.f5, EVb, EVc, Int.reduceEq, Int.reduceToNat, Int.reduceLE, Int.reduceLT, Int.reduceAdd, Int.reduceMul, Int.reduceSub, Int.reduceNeg, Nat.reduceAdd, Nat.reduceSub, Nat.reduceMul, Nat.reduceLT, Nat.reduceBEq, Nat.reduceEqDiff, Nat.reduceLeDiff, FACTS, TYPES]
    · simp only [rfObj_under, lv_under, List.cons_append, List.nil_append, hse, EVb, EVc, Int.reduceEq, Int.reduceToNat, Int.reduceLE, Int.reduceLT, Int.reduceAdd, Int.reduceMul, Int.reduceSub, Int.reduceNeg, Nat.reduceAdd, Nat.reduceSub, Nat.reduceMul, Nat.reduceLT, Nat.reduceBEq, Nat.reduceEqDiff, Nat.reduceLeDiff, FACTS, TYPES]
      rw [loopR_succ (k := k + 61), trim_not (i := 14) (by decide) (by rfl)]
      simp only [loopR_succ, loopOf, findLoop, firstRegion, Option.some_or, Option.none_or, Option.getD_some, Option.some.injEq, Try.f5, EVb, EVc, Int.reduceEq, Int.reduceToNat, Int.reduceLE, Int.reduceLT, Int.reduceAdd, Int.reduceMul, Int.reduceSub, Int.reduceNeg, Nat.reduceAdd, Nat.reduceSub, Nat.reduceMul, Nat.reduceLT, Nat.reduceBEq, Nat.reduceEqDiff, Nat.reduceLeDiff, FACTS, TYPES]
      rw [evalCode_rf RA5_32 RB5_32]; rotate_left; rfl; rfl
      simp only [ev73, Try.f73, hck, hN, EVb, EVc, Int.reduceEq, Int.reduceToNat, Int.reduceLE, Int.reduceLT, Int.reduceAdd, Int.reduceMul, Int.reduceSub, Int.reduceNeg, Nat.reduceAdd, Nat.reduceSub, Nat.reduceMul, Nat.reduceLT, Nat.reduceBEq, Nat.reduceEqDiff, Nat.reduceLeDiff, FACTS, TYPES]
      rw [evalCode_loopB LB73_4 lp73_4]; rotate_left; rfl; rfl; rfl
      generalize hz : loopR _ _ _ _ _ _ _ _ _ _ _ _ = z
      obtain ⟨l8, rfl⟩ := loop_Twice1 (k + 52) _ _ _ _ _ _ _ _ (by simp only [lo_under]) (by rfl) (by rfl) (by simp only [lv_under, EVb, EVc, Int.reduceEq, Int.reduceToNat, Int.reduceLE, Int.reduceLT, Int.reduceAdd, Int.reduceMul, Int.reduceSub, Int.reduceNeg, Nat.reduceAdd, Nat.reduceSub, Nat.reduceMul, Nat.reduceLT, Nat.reduceBEq, Nat.reduceEqDiff, Nat.reduceLeDiff]) (by rfl) (by rfl) (by rfl) (by simp only [rfObj_under, EVb, EVc, Int.reduceEq, Int.reduceToNat, Int.reduceLE, Int.reduceLT, Int.reduceAdd, Int.reduceMul, Int.reduceSub, Int.reduceNeg, Nat.reduceAdd, Nat.reduceSub, Nat.reduceMul, Nat.reduceLT, Nat.reduceBEq, Nat.reduceEqDiff, Nat.reduceLeDiff]) stop (startS ins n) code nl cap hcode hl150 (by simp only [startS]; omega) _ (by simp only [EVb, EVc, Int.reduceEq, Int.reduceToNat, Int.reduceLE, Int.reduceLT, Int.reduceAdd, Int.reduceMul, Int.reduceSub, Int.reduceNeg, Nat.reduceAdd, Nat.reduceSub, Nat.reduceMul, Nat.reduceLT, Nat.reduceBEq, Nat.reduceEqDiff, Nat.reduceLeDiff]) (by rfl) (by rfl) (by rfl) (by rfl) (by rfl) _ _ z hz (by omega) (by rfl) (by rfl) (by rfl) (by rfl) (by rfl)
      clear hz
      simp only [rfObj_under, lv_under, EVb, EVc, Int.reduceEq, Int.reduceToNat, Int.reduceLE, Int.reduceLT, Int.reduceAdd, Int.reduceMul, Int.reduceSub, Int.reduceNeg, Nat.reduceAdd, Nat.reduceSub, Nat.reduceMul, Nat.reduceLT, Nat.reduceBEq, Nat.reduceEqDiff, Nat.reduceLeDiff, FACTS, TYPES]
      rw [loopR_succ (k := k + 60), trim_not (i := 14) (by decide) (by rfl)]
      simp only [loopR_succ, loopOf, findLoop, firstRegion, Option.some_or, Option.none_or, Option.getD_some, Option.some.injEq, Try.f5, EVb, EVc, Int.reduceEq, Int.reduceToNat, Int.reduceLE, Int.reduceLT, Int.reduceAdd, Int.reduceMul, Int.reduceSub, Int.reduceNeg, Nat.reduceAdd, Nat.reduceSub, Nat.reduceMul, Nat.reduceLT, Nat.reduceBEq, Nat.reduceEqDiff, Nat.reduceLeDiff, FACTS, TYPES]
theorem ShareValues_bad (k : Nat) (p : Pg) (nl : Bool) (cap : Option Nat) (nl2 : Bool) (cap2 : Option Nat) (stop : Int) (hk : p.outs.length + p.code.length + 400 ≤ k) (hr : rightM p = false) (hlg : long14 p = false) :
    run (k+61) 5 [aP p nl cap nl2 cap2, ii stop] = some (bb true) := by
  have hwk := l14live_ev k
  have hlg' := l14long_ev (k + 59) p nl cap nl2 cap2
  have hv := values_bad (k + 58) p nl cap nl2 cap2 (by omega) hr
  have hrt := rRight_ev (k + 59) p nl cap nl2 cap2 (by omega)
  obtain ⟨cm, hck⟩ := check_ev (k + 58) p nl cap nl2 cap2 (by omega)
  have hT := Twice_raw (k + 59) (.int .i64 p.ins) (.int .i64 p.regs) (.slice (encCode p.code) p.code.length nl cap) (.slice (encInts p.outs) p.outs.length nl2 cap2)
  simp only [run, aP, ii, bb, checkE, hlg, hr, sE, sI, Bool.false_eq_true, if_false] at hwk hlg' hv hrt hck
  rw [run, ev5, ans_trim]
  simp only [Try.f5, aP, ii, bb, hwk, hlg', hv, hrt, hT, EVb, EVc, Int.reduceEq, Int.reduceToNat, Int.reduceLE, Int.reduceLT, Int.reduceAdd, Int.reduceMul, Int.reduceSub, Int.reduceNeg, Nat.reduceAdd, Nat.reduceSub, Nat.reduceMul, Nat.reduceLT, Nat.reduceBEq, Nat.reduceEqDiff, Nat.reduceLeDiff, FACTS, TYPES]
  rw [evalCode_rf RA5_12 RB5_12]; rotate_left; rfl; rfl
  simp only [ev73, Try.f73, hck, EVb, EVc, Int.reduceEq, Int.reduceToNat, Int.reduceLE, Int.reduceLT, Int.reduceAdd, Int.reduceMul, Int.reduceSub, Int.reduceNeg, Nat.reduceAdd, Nat.reduceSub, Nat.reduceMul, Nat.reduceLT, Nat.reduceBEq, Nat.reduceEqDiff, Nat.reduceLeDiff, FACTS, TYPES]
theorem ShareValues_ev (k : Nat) (p : Pg) (nl : Bool) (cap : Option Nat) (nl2 : Bool) (cap2 : Option Nat) (e : Int) (hk : p.outs.length + p.code.length + 5000 ≤ k) (_ : nl = true → p.code = []) (_ : nl2 = true → p.outs = []) (_ : p.code.length * 40 ≤ roomBytes) (_ : p.outs.length * 8 ≤ roomBytes) :
    run (k+1) 5 [aP p nl cap nl2 cap2, ii e] = some (bb true) := by
  obtain ⟨k, rfl⟩ : ∃ j, k = j + 60 := ⟨k - 60, by omega⟩
  cases hlg : long14 p with
  | true =>
    have hwk := l14live_ev k
    have hlg' := l14long_ev (k + 59) p nl cap nl2 cap2
    simp only [run, aP, ii, sC, sI, bb, hlg] at hwk hlg'
    rw [run, ev5, ans_trim]
    simp only [Try.f5, aP, ii, bb, hwk, hlg', EVb, EVc, Int.reduceEq, Int.reduceToNat, Int.reduceLE, Int.reduceLT, Int.reduceAdd, Int.reduceMul, Int.reduceSub, Int.reduceNeg, Nat.reduceAdd, Nat.reduceSub, Nat.reduceMul, Nat.reduceLT, Nat.reduceBEq, Nat.reduceEqDiff, Nat.reduceLeDiff, FACTS, TYPES]
  | false =>
    cases hr : rightM p with
    | false => exact ShareValues_bad k p nl cap nl2 cap2 e (by omega) hr hlg
    | true =>
      obtain ⟨ins, regs, code, outs⟩ := p
      obtain ⟨n, hn⟩ : ∃ n : Nat, regs = n := by
        have hr' := hr
        simp only [rightM, headM, Bool.and_eq_true, decide_eq_true_eq] at hr'
        exact ⟨regs.toNat, by omega⟩
      subst hn
      exact ShareValues_good k ins n code outs nl cap nl2 cap2 e (by simp only at hk; omega) hr hlg
end Go.Proofs.Sw
