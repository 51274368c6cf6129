/- A part of the proof: what functions of the program answer, of whatever arguments, reckoned with letters by the interpreter's equations. Its conditions stand in each theorem. -/
import Derived.Test.YtefdgfdahmaciaaS15K
namespace Go.Proofs.Sw
set_option linter.unusedVariables false
set_option linter.unusedSimpArgs false
set_option linter.unusedSectionVars false
open Go.Ab
variable [Globals]
theorem keepL_mem : ∀ (c : List Ins) (fl : List Bool) (x : Ins), x ∈ keepL c fl → x ∈ c
  | [], _, x, h => by simp [keepL] at h
  | i :: c, [], x, h => by simp [keepL] at h
  | i :: c, f :: fl, x, h => by
    simp only [keepL] at h
    split at h
    · rcases List.mem_cons.1 h with rfl | h
      · simp
      · exact List.mem_cons_of_mem _ (keepL_mem c fl x h)
    · exact List.mem_cons_of_mem _ (keepL_mem c fl x h)
theorem deadP_right {p : Pg} (hr : rightM p = true) : rightM (deadP p) = true := by
  simp only [rightM, Bool.and_eq_true] at hr ⊢
  obtain ⟨⟨h1, h2⟩, h3⟩ := hr
  refine ⟨⟨?_, h2⟩, ?_⟩
  · have := keepL_len p.code (neededM p)
    unfold headM at h1 ⊢
    rw [decide_eq_true_eq] at h1 ⊢
    show _ ∧ _ ∧ _ ∧ (keepL p.code (neededM p)).length ≤ 16384 ∧ _
    exact ⟨h1.1, h1.2.1, h1.2.2.1, by have := h1.2.2.2.1; omega, h1.2.2.2.2⟩
  · simp only [codeM, deadP, List.all_eq_true] at h3 ⊢
    exact fun x hx => h3 x (keepL_mem _ _ x hx)
theorem Needed_bad (k : Nat) (p : Pg) (nl : Bool) (cap : Option Nat) (nl2 : Bool) (cap2 : Option Nat) (hk : p.outs.length + p.code.length + 100 ≤ k) (hr : rightM p = false) :
    run (k+1) 46 [aP p nl cap nl2 cap2] = some (.tup [.c (.slice [] 0 true (some 0)), ii 80]) := by
  have hrt := right_ev (k - 1) p nl cap nl2 cap2 (by omega)
  rw [show k - 1 + 1 = k by omega] at hrt
  simp only [run, aP, ii, sC, sI, bb, hr] at hrt
  rw [run, ev46, ans_trim]
  simp only [Try.f46, aP, ii, bb, hrt, EVb, EVc, Int.reduceEq, Int.reduceToNat, Int.reduceLE, Int.reduceLT, Int.reduceAdd, Int.reduceMul, Int.reduceSub, Int.reduceNeg, Nat.reduceAdd, Nat.reduceSub, Nat.reduceMul, Nat.reduceLT, Nat.reduceBEq, Nat.reduceEqDiff, Nat.reduceLeDiff, FACTS, TYPES]
/-- What is needed, as the layer below tells it. -/
theorem Needed_ev (k n : Nat) (ins : Int) (code : List Ins) (outs : List Int) (nl : Bool) (cap : Option Nat) (nl2 : Bool) (cap2 : Option Nat) (hk : outs.length + code.length + 100 ≤ k) (hr : rightM ⟨ins, n, code, outs⟩ = true) :
    run (k+1) 46 [aP ⟨ins, n, code, outs⟩ nl cap nl2 cap2] = some (.tup [sB (neededM ⟨ins, n, code, outs⟩) false none, ii 0]) := by
  have hr' := hr
  simp only [rightM, headM, Bool.and_eq_true, decide_eq_true_eq] at hr'
  obtain ⟨⟨hh, ho⟩, hc⟩ := hr'
  have q1 : (0 : Int) ≤ n := by omega
  have q2 : n ≤ roomBytes := Nat.le_trans (show n ≤ 128 by omega) (by decide)
  have q3 : (0 : Int) ≤ code.length := by omega
  have q4 : code.length ≤ roomBytes := Nat.le_trans (show code.length ≤ 16384 by omega) (by decide)
  have hout : ∀ r ∈ outs, 0 ≤ r ∧ r < (n : Int) := fun r h => by have := List.all_eq_true.1 ho r h; simpa using this
  have hcode : ∀ i ∈ code, mayM i n = true := fun i h => List.all_eq_true.1 hc i h
  obtain ⟨k, rfl⟩ : ∃ j, k = j + 60 := ⟨k - 60, by omega⟩
  have hbk := Back_raw (k + 59) (ii ins) (ii n) (sC code nl cap) (sI outs nl2 cap2) rfl
  have hba := Back_ans (k + 59) (ii ins) (ii n) (sC code nl cap) (sI outs nl2 cap2) rfl
  have hrt := right_ev (k + 58) ⟨ins, n, code, outs⟩ nl cap nl2 cap2 (by simp only; omega)
  have hrt0 := right_ev (k + 59) ⟨ins, n, code, outs⟩ nl cap nl2 cap2 (by simp only; omega)
  have hwr := Backward_raw (k + 58) (.slice (encCode code) code.length nl cap)
  have hwa := Backward_ans (k + 58) (.slice (encCode code) code.length nl cap)
  have hw : IntKind.wrap .i64 ((code.length : Int) - 1) = (code.length : Int) - 1 := by rw [wrap64 (by omega) (by omega)]
  simp only [run, aP, ii, sC, sI, bb, hr] at hbk hba hrt hrt0
  rw [run, ev46, ans_trim]
  simp only [Try.f46, aP, ii, bb, q1, q2, q3, q4, hrt0, encB_rep, EVb, EVc, Int.reduceEq, Int.reduceToNat, Int.reduceLE, Int.reduceLT, Int.reduceAdd, Int.reduceMul, Int.reduceSub, Int.reduceNeg, Nat.reduceAdd, Nat.reduceSub, Nat.reduceMul, Nat.reduceLT, Nat.reduceBEq, Nat.reduceEqDiff, Nat.reduceLeDiff, FACTS, TYPES]
  rw [evalCode_loopB LB46_6 lp46_6]; rotate_left; rfl; rfl; rfl
  generalize hz : loopR _ _ _ _ _ _ _ _ _ _ _ _ = z
  obtain rfl := loop_Needed_6 (k + 60) _ _ _ n outs nl2 cap2 (by omega) hout (List.replicate n false) (by simp) _ _ _ z hz (by omega) (by rfl) (by rfl) (by rfl) (by rfl) (by rfl) (by rfl) (by rfl)
  clear hz
  simp only [q3, q4, encB_rep, hba, hbk, EVb, EVc, Int.reduceEq, Int.reduceToNat, Int.reduceLE, Int.reduceLT, Int.reduceAdd, Int.reduceMul, Int.reduceSub, Int.reduceNeg, Nat.reduceAdd, Nat.reduceSub, Nat.reduceMul, Nat.reduceLT, Nat.reduceBEq, Nat.reduceEqDiff, Nat.reduceLeDiff, FACTS, TYPES]
  rw [evalCode_rf RA46_11 RB46_11]; rotate_left; rfl; rfl
  simp only [q3, q4, hba, hbk, ev110, Try.f110, hrt, hwa, hwr, EVb, EVc, Int.reduceEq, Int.reduceToNat, Int.reduceLE, Int.reduceLT, Int.reduceAdd, Int.reduceMul, Int.reduceSub, Int.reduceNeg, Nat.reduceAdd, Nat.reduceSub, Nat.reduceMul, Nat.reduceLT, Nat.reduceBEq, Nat.reduceEqDiff, Nat.reduceLeDiff, FACTS, TYPES]
  rw [evalCode_rf RA110_3 RB110_3]; rotate_left; rfl; rfl
  simp only [ev128, Try.f128, hw, EVb, EVc, Int.reduceEq, Int.reduceToNat, Int.reduceLE, Int.reduceLT, Int.reduceAdd, Int.reduceMul, Int.reduceSub, Int.reduceNeg, Nat.reduceAdd, Nat.reduceSub, Nat.reduceMul, Nat.reduceLT, Nat.reduceBEq, Nat.reduceEqDiff, Nat.reduceLeDiff, FACTS, TYPES]
  rw [evalCode_loopB LB128_1 lp128_1]; rotate_left; rfl; rfl; rfl
  generalize hz : loopR _ _ _ _ _ _ _ _ _ _ _ _ = z
  obtain ⟨l', rfl⟩ := loop_Needed_B (k + 48) (.int .i64 ins) (.int .i64 n) (.slice (encCode code) code.length nl cap) (.slice (encInts outs) outs.length nl2 cap2) n code nl cap _ _ (by rfl) (by rfl) (by rfl) (by rfl) (by rfl)
    (asked0 n outs) (by simp [asked0, mark_length]) hcode (by omega) _ _ z hz (by omega) (by rfl) (by rfl) (by rfl)
  have hfl : (encB (needL (asked0 n outs) code).2).length = code.length := by rw [encB_length, (needL_length _ _).2]
  have htk : (encB (needL (asked0 n outs) code).2).take code.length = encB (needL (asked0 n outs) code).2 := by rw [← hfl, List.take_length]
  have hnm : neededM ⟨ins, n, code, outs⟩ = (needL (asked0 n outs) code).2 := rfl
  simp only [EVb, EVc, Int.reduceEq, Int.reduceToNat, Int.reduceLE, Int.reduceLT, Int.reduceAdd, Int.reduceMul, Int.reduceSub, Int.reduceNeg, Nat.reduceAdd, Nat.reduceSub, Nat.reduceMul, Nat.reduceLT, Nat.reduceBEq, Nat.reduceEqDiff, Nat.reduceLeDiff, FACTS, TYPES]
  rw [hnm]
  simp only [hfl, htk, encB_length, Nat.le_refl, sB, (needL_length _ _).2, EVb, EVc, Int.reduceEq, Int.reduceToNat, Int.reduceLE, Int.reduceLT, Int.reduceAdd, Int.reduceMul, Int.reduceSub, Int.reduceNeg, Nat.reduceAdd, Nat.reduceSub, Nat.reduceMul, Nat.reduceLT, Nat.reduceBEq, Nat.reduceEqDiff, Nat.reduceLeDiff, FACTS, TYPES]
theorem Asked_bad (k : Nat) (p : Pg) (nl : Bool) (cap : Option Nat) (nl2 : Bool) (cap2 : Option Nat) (hk : p.outs.length + p.code.length + 100 ≤ k) (hr : rightM p = false) :
    run (k+1) 31 [aP p nl cap nl2 cap2] = some (.tup [.c (.slice [] 0 true (some 0)), ii 80]) := by
  have hrt := deadPass_bad (k - 1) p nl cap nl2 cap2 (by omega) hr
  rw [show k - 1 + 1 = k by omega] at hrt
  simp only [run, aP, ii, sC, sI, bb] at hrt
  rw [run, ev31, ans_trim]
  simp only [Try.f31, aP, ii, bb, hrt, EVb, EVc, Int.reduceEq, Int.reduceToNat, Int.reduceLE, Int.reduceLT, Int.reduceAdd, Int.reduceMul, Int.reduceSub, Int.reduceNeg, Nat.reduceAdd, Nat.reduceSub, Nat.reduceMul, Nat.reduceLT, Nat.reduceBEq, Nat.reduceEqDiff, Nat.reduceLeDiff, FACTS, TYPES]
theorem Asked_ev (k n : Nat) (ins : Int) (code0 : List Ins) (outs : List Int) (nl0 : Bool) (cap0 cap2 : Option Nat) (hk : outs.length + code0.length + 200 ≤ k) (hr0 : rightM ⟨ins, n, code0, outs⟩ = true) :
    run (k+1) 31 [aP ⟨ins, n, code0, outs⟩ nl0 cap0 false cap2] = some (.tup [sB (askedM (deadP ⟨ins, n, code0, outs⟩)) false none, ii 0]) := by
  obtain ⟨k, rfl⟩ : ∃ j, k = j + 60 := ⟨k - 60, by omega⟩
  have hps := deadPass_ev (k + 59) n ins code0 outs nl0 cap0 cap2 (by omega) hr0
  have hr := deadP_right hr0
  obtain ⟨code, hcd⟩ : ∃ code, code = keepL code0 (neededM ⟨ins, n, code0, outs⟩) := ⟨_, rfl⟩
  have hdp : deadP ⟨ins, n, code0, outs⟩ = ⟨ins, n, code, outs⟩ := by rw [hcd]; rfl
  rw [hdp] at hr hps ⊢
  have hcl : code.length ≤ code0.length := by rw [hcd]; exact keepL_len _ _
  have hr' := hr
  simp only [rightM, headM, Bool.and_eq_true, decide_eq_true_eq] at hr'
  obtain ⟨⟨hh, ho⟩, hc⟩ := hr'
  have q1 : (0 : Int) ≤ n := by omega
  have q2 : n ≤ roomBytes := Nat.le_trans (show n ≤ 128 by omega) (by decide)
  have hout : ∀ r ∈ outs, 0 ≤ r ∧ r < (n : Int) := fun r h => by have := List.all_eq_true.1 ho r h; simpa using this
  have hcode : ∀ i ∈ code, mayM i n = true := fun i h => List.all_eq_true.1 hc i h
  obtain ⟨nl, hnl⟩ : ∃ nl, nl = nlE code := ⟨_, rfl⟩
  obtain ⟨cap, hcap⟩ : ∃ cap, cap = cpE code := ⟨_, rfl⟩
  simp only [← hnl, ← hcap] at hps
  have hbk := Back_raw (k + 59) (ii ins) (ii n) (sC code nl cap) (sI outs false none) rfl
  have hba := Back_ans (k + 59) (ii ins) (ii n) (sC code nl cap) (sI outs false none) rfl
  have hrt := right_ev (k + 58) ⟨ins, n, code, outs⟩ nl cap false none (by simp only; omega)
  have hwr := Backward_raw (k + 58) (.slice (encCode code) code.length nl cap)
  have hwa := Backward_ans (k + 58) (.slice (encCode code) code.length nl cap)
  have hw : IntKind.wrap .i64 ((code.length : Int) - 1) = (code.length : Int) - 1 := by rw [wrap64 (by omega) (by omega)]
  simp only [run, aP, ii, sC, sI, bb, hr] at hbk hba hrt hps
  rw [run, ev31, ans_trim]
  simp only [Try.f31, aP, ii, bb, q1, q2, hps, encB_rep, EVb, EVc, Int.reduceEq, Int.reduceToNat, Int.reduceLE, Int.reduceLT, Int.reduceAdd, Int.reduceMul, Int.reduceSub, Int.reduceNeg, Nat.reduceAdd, Nat.reduceSub, Nat.reduceMul, Nat.reduceLT, Nat.reduceBEq, Nat.reduceEqDiff, Nat.reduceLeDiff, FACTS, TYPES]
  rw [evalCode_loopB LB31_6 lp31_6]; rotate_left; rfl; rfl; rfl
  generalize hz : loopR _ _ _ _ _ _ _ _ _ _ _ _ = z
  obtain rfl := loop_Asked_6 (k + 60) _ _ n outs false none (by omega) hout (List.replicate n false) (by simp) _ _ _ z hz (by omega) (by rfl) (by rfl) (by rfl) (by rfl) (by rfl) (by rfl)
  clear hz
  simp only [hba, hbk, EVb, EVc, Int.reduceEq, Int.reduceToNat, Int.reduceLE, Int.reduceLT, Int.reduceAdd, Int.reduceMul, Int.reduceSub, Int.reduceNeg, Nat.reduceAdd, Nat.reduceSub, Nat.reduceMul, Nat.reduceLT, Nat.reduceBEq, Nat.reduceEqDiff, Nat.reduceLeDiff, FACTS, TYPES]
  rw [evalCode_rf RA31_11 RB31_11]; rotate_left; rfl; rfl
  simp only [hba, hbk, ev110, Try.f110, hrt, hwa, hwr, EVb, EVc, Int.reduceEq, Int.reduceToNat, Int.reduceLE, Int.reduceLT, Int.reduceAdd, Int.reduceMul, Int.reduceSub, Int.reduceNeg, Nat.reduceAdd, Nat.reduceSub, Nat.reduceMul, Nat.reduceLT, Nat.reduceBEq, Nat.reduceEqDiff, Nat.reduceLeDiff, FACTS, TYPES]
  rw [evalCode_rf RA110_3 RB110_3]; rotate_left; rfl; rfl
  simp only [ev128, Try.f128, hw, EVb, EVc, Int.reduceEq, Int.reduceToNat, Int.reduceLE, Int.reduceLT, Int.reduceAdd, Int.reduceMul, Int.reduceSub, Int.reduceNeg, Nat.reduceAdd, Nat.reduceSub, Nat.reduceMul, Nat.reduceLT, Nat.reduceBEq, Nat.reduceEqDiff, Nat.reduceLeDiff, FACTS, TYPES]
  rw [evalCode_loopB LB128_1 lp128_1]; rotate_left; rfl; rfl; rfl
  generalize hz : loopR _ _ _ _ _ _ _ _ _ _ _ _ = z
  obtain ⟨l', rfl⟩ := loop_Asked_B (k + 48) (.int .i64 ins) (.int .i64 n) (.slice (encCode code0) code0.length nl0 cap0) (.slice (encInts outs) outs.length false cap2) (.int .i64 ins) (.int .i64 n) (.slice (encCode code) code.length nl cap) (.slice (encInts outs) outs.length false none) n code nl cap _ _ (by rfl) (by rfl) (by rfl) (by rfl)
    (asked0 n outs) (by simp [asked0, mark_length]) hcode (by omega) _ _ z hz (by omega) (by rfl) (by rfl) (by rfl)
  have hal : (askL (asked0 n outs) code).length = n := by rw [askL_length]; simp [asked0, mark_length]
  have hfl : (encB (askL (asked0 n outs) code)).length = n := by rw [encB_length, hal]
  have htk : (encB (askL (asked0 n outs) code)).take n = encB (askL (asked0 n outs) code) := List.take_of_length_le (by omega)
  have hnm : askedM ⟨ins, n, code, outs⟩ = askL (asked0 n outs) code := rfl
  simp only [EVb, EVc, Int.reduceEq, Int.reduceToNat, Int.reduceLE, Int.reduceLT, Int.reduceAdd, Int.reduceMul, Int.reduceSub, Int.reduceNeg, Nat.reduceAdd, Nat.reduceSub, Nat.reduceMul, Nat.reduceLT, Nat.reduceBEq, Nat.reduceEqDiff, Nat.reduceLeDiff, FACTS, TYPES]
  rw [hnm]
  simp only [hfl, htk, encB_length, Nat.le_refl, sB, hal, EVb, EVc, Int.reduceEq, Int.reduceToNat, Int.reduceLE, Int.reduceLT, Int.reduceAdd, Int.reduceMul, Int.reduceSub, Int.reduceNeg, Nat.reduceAdd, Nat.reduceSub, Nat.reduceMul, Nat.reduceLT, Nat.reduceBEq, Nat.reduceEqDiff, Nat.reduceLeDiff, FACTS, TYPES]
end Go.Proofs.Sw
