/- A part of the proof: what functions of the program answer, of whatever arguments, reckoned with letters by the interpreter's equations. Its conditions stand in each theorem. -/
import Derived.Test.YtefdgfdahmaciaaWG
namespace Go.Proofs.Sw
set_option linter.unusedVariables false
set_option linter.unusedSimpArgs false
set_option linter.unusedSectionVars false
open Go.Ab
variable [Globals]
set_option maxHeartbeats 8000000 in
theorem DeadPasses_A (k n : Nat) (ins : Int) (code : List Ins) (outs : List Int) (nl : Bool) (cap cap2 : Option Nat) (e : Int) (hk : outs.length + code.length + 400 ≤ k) (hl : ¬ (300 < code.length ∧ code.length ≤ 16384)) (hr : rightM ⟨ins, n, code, outs⟩ = true) (hN : 0 < (deadP ⟨ins, n, code, outs⟩).code.length) :
    run (k+1) 7 [aP ⟨ins, n, code, outs⟩ nl cap false cap2, ii e] = some (bb true) := by
  have hr' := hr
  simp only [rightM, headM, Bool.and_eq_true, decide_eq_true_eq] at hr'
  obtain ⟨⟨hh, ho⟩, hc⟩ := hr'
  obtain ⟨k, rfl⟩ : ∃ j, k = j + 60 := ⟨k - 60, by omega⟩
  have hwk := l15works_ev k
  have hlg := long_ev (k + 59) ⟨ins, n, code, outs⟩ nl cap false cap2
  have hro : (roomBytes : Nat) = 140737488355328 := rfl
  have hcp := rCopy_ev (k + 59) ⟨ins, n, code, outs⟩ nl false cap cap2 (Nat.le_trans (Nat.mul_le_mul_right 40 (show code.length ≤ 16384 by omega)) (by decide)) (Nat.le_trans (Nat.mul_le_mul_right 8 (show outs.length ≤ 128 by omega)) (by decide))
  obtain ⟨b1, b2, hps⟩ := deadPass_raw (k + 59) n ins code outs nl cap cap2 (by omega) hr
  have has := Asked_ev (k + 59) n ins code outs nl cap cap2 (by omega) hr
  have hbk := Idle_raw (k + 59) (ii ins) (ii n) (sC code nl cap) (sI outs false cap2) rfl
  have hba := Idle_ans (k + 59) (ii ins) (ii n) (sC code nl cap) (sI outs false cap2) rfl
  obtain ⟨cn, hck⟩ := check_ev (k + 58) ⟨ins, n, code, outs⟩ nl cap false cap2 (by simp only; omega)
  have hne := needed_ev (k + 58) n ins code outs nl cap false cap2 (by omega) hr
  have hids := idle_ev (k + 59) n ins code outs nl cap false cap2 (by omega) hr
  have hsm := rSame_ev (k + 59) ⟨ins, n, code, outs⟩ (nlE code) (nlE outs) nl false (cpE code) (cpE outs) cap cap2 (by simp only; omega) (by simp only; omega) (by simp only; omega)
  have hrt := rRight_ev (k + 59) ⟨ins, n, code, outs⟩ nl cap false cap2 (by simp only; omega)
  have hri := r15Idle_ev (k + 59) n ins code outs nl cap false cap2 (by omega) hr
  have hrp := r15Pass_ev (k + 59) n ins code outs nl cap false cap2 (by omega) hr
  have hra := r15Asked_ev (k + 59) n ins code outs nl cap false cap2 (by omega) hr
  have hnl : (neededM ⟨ins, n, code, outs⟩).length = code.length := (needL_length _ _).2
  have hil := idleL_len code (neededM ⟨ins, n, code, outs⟩) 0 hnl
  obtain ⟨I, hI⟩ : ∃ I, I = idleL 0 code (neededM ⟨ins, n, code, outs⟩) := ⟨_, rfl⟩
  obtain ⟨cq, hcq⟩ : ∃ cq, cq = keepL code (neededM ⟨ins, n, code, outs⟩) := ⟨_, rfl⟩
  have hdp : deadP ⟨ins, n, code, outs⟩ = ⟨ins, n, cq, outs⟩ := by rw [hcq]; rfl
  rw [hdp] at hps has hrp hra hN
  rw [← hI] at hids hil
  have hcl : cq.length ≤ code.length := by rw [hcq]; exact keepL_len _ _
  have hal : (askedM ⟨ins, n, cq, outs⟩).length = n := by show (askL _ _).length = n; rw [askL_length]; simp [asked0, mark_length]
  have heq := eqBools_ev (k + 59) (askedM ⟨ins, n, cq, outs⟩) false false none none (by omega) (by omega)
  have heqi := eqInts_ev (k + 59) I (nlE I) false (cpE I) none (by omega) (by omega)
  have heqz : run (k + 59 + 1) 39 [.c (.slice [] 0 true (some 0)), .c (.slice [] 0 true (some 0))] = some (bb true) := eqInts_ev (k + 59) [] true true (some 0) (some 0) (by simp) (by simp)
  have hsq := rSame_ev (k + 59) ⟨ins, n, cq, outs⟩ false false (nlE cq) (nlE outs) none none (cpE cq) (cpE outs) (by simp only; omega) (by simp only; omega) (by simp only; omega)
  have hkp : ∀ H, keepO (some (.tup [.agg [.c (.int .i64 ins), .c (.int .i64 n), lv 0 5 cq.length, .hsl 3 0 outs.length outs.length 1], .c (.int .i64 0)], [lo 34 cq.length (encCode cq), b1, b2, .row false 3 (encInts outs)])) H = _ := fun H => keepO_A hN
  simp only [run, aP, ii, sC, sI, sB, bb, hl, checkE, hr] at hwk hlg hcp hps has hbk hba hck hne hids hsm hrt hri hrp hra heq heqi heqz hsq
  rw [run, ev7, ans_trim]
  simp only [Try.f7, aP, ii, bb, hwk, hlg, hcp, hps, hkp, has, hbk, hba, doCall_cxK, EVb, EVc, Int.reduceEq, Int.reduceToNat, Int.reduceLE, Int.reduceLT, Int.reduceAdd, Int.reduceMul, Int.reduceSub, Int.reduceNeg, Nat.reduceAdd, Nat.reduceSub, Nat.reduceMul, Nat.reduceLT, Nat.reduceBEq, Nat.reduceEqDiff, Nat.reduceLeDiff, FACTS, TYPES]
  rw [evalCode_rf RA7_10 RB7_10]; rotate_left; rfl; rfl
  simp only [ev80, Try.f80, hck, hne, EVb, EVc, Int.reduceEq, Int.reduceToNat, Int.reduceLE, Int.reduceLT, Int.reduceAdd, Int.reduceMul, Int.reduceSub, Int.reduceNeg, Nat.reduceAdd, Nat.reduceSub, Nat.reduceMul, Nat.reduceLT, Nat.reduceBEq, Nat.reduceEqDiff, Nat.reduceLeDiff, FACTS, TYPES]
  rw [evalCode_loopB LB80_3 lp80_3]; rotate_left; rfl; rfl; rfl
  generalize hz : loopR _ _ _ _ _ _ _ _ _ _ _ _ = z
  obtain ⟨l1, c1, st, pend, hz1⟩ := loop_count_A (k + 54) _ _ _ _ _ _ (.int .i64 ins) (.int .i64 n) (.slice (encInts outs) outs.length false cap2) e _ (by rfl) (by rfl) code nl cap (neededM ⟨ins, n, code, outs⟩) false none hnl (by omega) _ _ z hz (by omega) (by rfl) (by rfl) (by rfl) (by rfl) (by rfl)
  clear hz
  have hq1 := encCode_length cq
  have hq2 := encInts_length outs
  have hq3 := encInts_length I
  have ht1 : (encCode cq).take (cq.length * 5) = encCode cq := List.take_of_length_le (by omega)
  have ht2 : (encInts outs).take outs.length = encInts outs := List.take_of_length_le (by omega)
  have ht3 : (encInts I).take I.length = encInts I := List.take_of_length_le (by omega)
  have hle1 : cq.length * 5 ≤ cq.length * 5 := Nat.le_refl _
  have hle2 : outs.length ≤ outs.length := Nat.le_refl _
  have hpo : 0 < outs.length := by omega
  have hclr := fun (a0 a1 a2 a3 a4 : AObj) (X : Heap) => clear23 (H := a0 :: a1 :: a2 :: a3 :: a4 :: .row false 3 (encInts outs) :: X) (id := 5) rfl hq2 hpo
  have hle3 : I.length ≤ I.length := Nat.le_refl _
  rcases hz1 with ⟨rfl, rfl, rfl⟩ | ⟨rfl, rfl, rfl⟩
  · simp only [hids, hsm, hrt, hri, rf7_under, under_tup1, EVb, EVc, Int.reduceEq, Int.reduceToNat, Int.reduceLE, Int.reduceLT, Int.reduceAdd, Int.reduceMul, Int.reduceSub, Int.reduceNeg, Nat.reduceAdd, Nat.reduceSub, Nat.reduceMul, Nat.reduceLT, Nat.reduceBEq, Nat.reduceEqDiff, Nat.reduceLeDiff, FACTS, TYPES]
    rw [evalCode_loopB LB7_19 lp7_19]; rotate_left; rfl; rfl; rfl
    generalize hz : loopR _ _ _ _ _ _ _ _ _ _ _ _ = z
    obtain ⟨l2, G, rfl, q2, q5, q6, q7, q8, q9, q11, q12⟩ := loop_want_19 (k + 60) _ (.ptr 1 0) (.ptr 3 0) (.ptr 6 0) (ii 0) (sB (askedM ⟨ins, n, cq, outs⟩) false none) (ii 0) (sE I) code (neededM ⟨ins, n, code, outs⟩) (nlE code) (cpE code) hnl (by omega) _ _ _ z hz (by rfl) (by omega) (by rfl) (by rfl) (by rfl) (by rfl) (by rfl) (by rfl) (by rfl) (by rfl) (by rfl) (by rfl) (by rfl)
    clear hz
    rw [← hI] at q12 ⊢
    generalize rfObj _ _ _ _ _ _ _ = rfo
    rcases Nat.eq_zero_or_pos I.length with hI0 | hI0
    · have q11' : asc l2 11 = .c (.slice [] 0 true (some 0)) := by
        rw [q11, show I = [] from List.eq_nil_of_length_eq_zero hI0]; rfl
      clear q11 heqi
      rw [hI0, lv_zero] at q12
      rw [hI0, lo_zero]
      simp only [q2, q5, q6, q7, q8, q9, q11', q12, EVb, EVc, Int.reduceEq, Int.reduceToNat, Int.reduceLE, Int.reduceLT, Int.reduceAdd, Int.reduceMul, Int.reduceSub, Int.reduceNeg, Nat.reduceAdd, Nat.reduceSub, Nat.reduceMul, Nat.reduceLT, Nat.reduceBEq, Nat.reduceEqDiff, Nat.reduceLeDiff, FACTS, TYPES]
      rw [evalCode_drawn Try.f7 24 dr7_24]; rotate_left; rfl
      simp (config := { maxSteps := 10000000 }) only [q2, q5, q6, q7, q8, q9, q11', q12, heqz, hrp, hsq, hra, heq, hq1, hq2, ht1, ht2, hle1, hle2, EVd, Nat.reducePow, Nat.reduceDiv, Nat.reduceMod, EVb, EVc, Int.reduceEq, Int.reduceToNat, Int.reduceLE, Int.reduceLT, Int.reduceAdd, Int.reduceMul, Int.reduceSub, Int.reduceNeg, Nat.reduceAdd, Nat.reduceSub, Nat.reduceMul, Nat.reduceLT, Nat.reduceBEq, Nat.reduceEqDiff, Nat.reduceLeDiff, FACTS, TYPES]
      rw [evalCode_loopB LB7_27 lp7_27]; rotate_left; rfl; rfl; rfl
      generalize hz : loopR _ _ _ _ _ _ _ _ _ _ _ _ = z
      obtain ⟨l3, cs', rfl, w2, w5, w6⟩ := loop_spoil_27 (k + 60) _ _ _ _ _ _ _ _ _ cq.length (by omega) (encCode cq) hq1 _ _ (by rfl) _ z hz (by omega) (by exact q2) (by exact q5) (by exact q6) (by rfl) (by rfl)
      clear hz
      simp only [w2, w5, w6, hclr, hsm, EVb, EVc, Int.reduceEq, Int.reduceToNat, Int.reduceLE, Int.reduceLT, Int.reduceAdd, Int.reduceMul, Int.reduceSub, Int.reduceNeg, Nat.reduceAdd, Nat.reduceSub, Nat.reduceMul, Nat.reduceLT, Nat.reduceBEq, Nat.reduceEqDiff, Nat.reduceLeDiff, FACTS, TYPES]
    · rw [lv_pos hI0] at q12
      rw [lo_pos hI0]
      simp only [q2, q5, q6, q7, q8, q9, q11, q12, EVb, EVc, Int.reduceEq, Int.reduceToNat, Int.reduceLE, Int.reduceLT, Int.reduceAdd, Int.reduceMul, Int.reduceSub, Int.reduceNeg, Nat.reduceAdd, Nat.reduceSub, Nat.reduceMul, Nat.reduceLT, Nat.reduceBEq, Nat.reduceEqDiff, Nat.reduceLeDiff, FACTS, TYPES]
      rw [evalCode_drawn Try.f7 24 dr7_24]; rotate_left; rfl
      simp (config := { maxSteps := 10000000 }) only [q2, q5, q6, q7, q8, q9, q11, q12, heqi, hq3, ht3, hle3, hrp, hsq, hra, heq, hq1, hq2, ht1, ht2, hle1, hle2, EVd, Nat.reducePow, Nat.reduceDiv, Nat.reduceMod, EVb, EVc, Int.reduceEq, Int.reduceToNat, Int.reduceLE, Int.reduceLT, Int.reduceAdd, Int.reduceMul, Int.reduceSub, Int.reduceNeg, Nat.reduceAdd, Nat.reduceSub, Nat.reduceMul, Nat.reduceLT, Nat.reduceBEq, Nat.reduceEqDiff, Nat.reduceLeDiff, FACTS, TYPES]
      rw [evalCode_loopB LB7_27 lp7_27]; rotate_left; rfl; rfl; rfl
      generalize hz : loopR _ _ _ _ _ _ _ _ _ _ _ _ = z
      obtain ⟨l3, cs', rfl, w2, w5, w6⟩ := loop_spoil_27 (k + 60) _ _ _ _ _ _ _ _ _ cq.length (by omega) (encCode cq) hq1 _ _ (by rfl) _ z hz (by omega) (by exact q2) (by exact q5) (by exact q6) (by rfl) (by rfl)
      clear hz
      simp only [w2, w5, w6, hclr, hsm, EVb, EVc, Int.reduceEq, Int.reduceToNat, Int.reduceLE, Int.reduceLT, Int.reduceAdd, Int.reduceMul, Int.reduceSub, Int.reduceNeg, Nat.reduceAdd, Nat.reduceSub, Nat.reduceMul, Nat.reduceLT, Nat.reduceBEq, Nat.reduceEqDiff, Nat.reduceLeDiff, FACTS, TYPES]
  · simp only [hids, hsm, hrt, hri, rf7_under, under_tup1, EVb, EVc, Int.reduceEq, Int.reduceToNat, Int.reduceLE, Int.reduceLT, Int.reduceAdd, Int.reduceMul, Int.reduceSub, Int.reduceNeg, Nat.reduceAdd, Nat.reduceSub, Nat.reduceMul, Nat.reduceLT, Nat.reduceBEq, Nat.reduceEqDiff, Nat.reduceLeDiff, FACTS, TYPES]
    rw [evalCode_loopB LB7_19 lp7_19]; rotate_left; rfl; rfl; rfl
    generalize hz : loopR _ _ _ _ _ _ _ _ _ _ _ _ = z
    obtain ⟨l2, G, rfl, q2, q5, q6, q7, q8, q9, q11, q12⟩ := loop_want_19 (k + 60) _ (.ptr 1 0) (.ptr 3 0) (.ptr 6 0) (ii 0) (sB (askedM ⟨ins, n, cq, outs⟩) false none) (ii 0) (sE I) code (neededM ⟨ins, n, code, outs⟩) (nlE code) (cpE code) hnl (by omega) _ _ _ z hz (by rfl) (by omega) (by rfl) (by rfl) (by rfl) (by rfl) (by rfl) (by rfl) (by rfl) (by rfl) (by rfl) (by rfl) (by rfl)
    clear hz
    rw [← hI] at q12 ⊢
    generalize rfObj _ _ _ _ _ _ _ = rfo
    rcases Nat.eq_zero_or_pos I.length with hI0 | hI0
    · have q11' : asc l2 11 = .c (.slice [] 0 true (some 0)) := by
        rw [q11, show I = [] from List.eq_nil_of_length_eq_zero hI0]; rfl
      clear q11 heqi
      rw [hI0, lv_zero] at q12
      rw [hI0, lo_zero]
      simp only [q2, q5, q6, q7, q8, q9, q11', q12, EVb, EVc, Int.reduceEq, Int.reduceToNat, Int.reduceLE, Int.reduceLT, Int.reduceAdd, Int.reduceMul, Int.reduceSub, Int.reduceNeg, Nat.reduceAdd, Nat.reduceSub, Nat.reduceMul, Nat.reduceLT, Nat.reduceBEq, Nat.reduceEqDiff, Nat.reduceLeDiff, FACTS, TYPES]
      rw [evalCode_drawn Try.f7 24 dr7_24]; rotate_left; rfl
      simp (config := { maxSteps := 10000000 }) only [q2, q5, q6, q7, q8, q9, q11', q12, heqz, hrp, hsq, hra, heq, hq1, hq2, ht1, ht2, hle1, hle2, EVd, Nat.reducePow, Nat.reduceDiv, Nat.reduceMod, EVb, EVc, Int.reduceEq, Int.reduceToNat, Int.reduceLE, Int.reduceLT, Int.reduceAdd, Int.reduceMul, Int.reduceSub, Int.reduceNeg, Nat.reduceAdd, Nat.reduceSub, Nat.reduceMul, Nat.reduceLT, Nat.reduceBEq, Nat.reduceEqDiff, Nat.reduceLeDiff, FACTS, TYPES]
      rw [evalCode_loopB LB7_27 lp7_27]; rotate_left; rfl; rfl; rfl
      generalize hz : loopR _ _ _ _ _ _ _ _ _ _ _ _ = z
      obtain ⟨l3, cs', rfl, w2, w5, w6⟩ := loop_spoil_27 (k + 60) _ _ _ _ _ _ _ _ _ cq.length (by omega) (encCode cq) hq1 _ _ (by rfl) _ z hz (by omega) (by exact q2) (by exact q5) (by exact q6) (by rfl) (by rfl)
      clear hz
      simp only [w2, w5, w6, hclr, hsm, EVb, EVc, Int.reduceEq, Int.reduceToNat, Int.reduceLE, Int.reduceLT, Int.reduceAdd, Int.reduceMul, Int.reduceSub, Int.reduceNeg, Nat.reduceAdd, Nat.reduceSub, Nat.reduceMul, Nat.reduceLT, Nat.reduceBEq, Nat.reduceEqDiff, Nat.reduceLeDiff, FACTS, TYPES]
    · rw [lv_pos hI0] at q12
      rw [lo_pos hI0]
      simp only [q2, q5, q6, q7, q8, q9, q11, q12, EVb, EVc, Int.reduceEq, Int.reduceToNat, Int.reduceLE, Int.reduceLT, Int.reduceAdd, Int.reduceMul, Int.reduceSub, Int.reduceNeg, Nat.reduceAdd, Nat.reduceSub, Nat.reduceMul, Nat.reduceLT, Nat.reduceBEq, Nat.reduceEqDiff, Nat.reduceLeDiff, FACTS, TYPES]
      rw [evalCode_drawn Try.f7 24 dr7_24]; rotate_left; rfl
      simp (config := { maxSteps := 10000000 }) only [q2, q5, q6, q7, q8, q9, q11, q12, heqi, hq3, ht3, hle3, hrp, hsq, hra, heq, hq1, hq2, ht1, ht2, hle1, hle2, EVd, Nat.reducePow, Nat.reduceDiv, Nat.reduceMod, EVb, EVc, Int.reduceEq, Int.reduceToNat, Int.reduceLE, Int.reduceLT, Int.reduceAdd, Int.reduceMul, Int.reduceSub, Int.reduceNeg, Nat.reduceAdd, Nat.reduceSub, Nat.reduceMul, Nat.reduceLT, Nat.reduceBEq, Nat.reduceEqDiff, Nat.reduceLeDiff, FACTS, TYPES]
      rw [evalCode_loopB LB7_27 lp7_27]; rotate_left; rfl; rfl; rfl
      generalize hz : loopR _ _ _ _ _ _ _ _ _ _ _ _ = z
      obtain ⟨l3, cs', rfl, w2, w5, w6⟩ := loop_spoil_27 (k + 60) _ _ _ _ _ _ _ _ _ cq.length (by omega) (encCode cq) hq1 _ _ (by rfl) _ z hz (by omega) (by exact q2) (by exact q5) (by exact q6) (by rfl) (by rfl)
      clear hz
      simp only [w2, w5, w6, hclr, hsm, EVb, EVc, Int.reduceEq, Int.reduceToNat, Int.reduceLE, Int.reduceLT, Int.reduceAdd, Int.reduceMul, Int.reduceSub, Int.reduceNeg, Nat.reduceAdd, Nat.reduceSub, Nat.reduceMul, Nat.reduceLT, Nat.reduceBEq, Nat.reduceEqDiff, Nat.reduceLeDiff, FACTS, TYPES]
end Go.Proofs.Sw
namespace Go.Proofs.Sw
set_option linter.unusedVariables false
set_option linter.unusedSimpArgs false
set_option linter.unusedSectionVars false
open Go.Ab
variable [Globals]
set_option maxHeartbeats 8000000 in
theorem DeadPasses_B (k n : Nat) (ins : Int) (code : List Ins) (outs : List Int) (nl : Bool) (cap cap2 : Option Nat) (e : Int) (hk : outs.length + code.length + 400 ≤ k) (hl : ¬ (300 < code.length ∧ code.length ≤ 16384)) (hr : rightM ⟨ins, n, code, outs⟩ = true) (hN : (deadP ⟨ins, n, code, outs⟩).code.length = 0) :
    run (k+1) 7 [aP ⟨ins, n, code, outs⟩ nl cap false cap2, ii e] = some (bb true) := by
  have hr' := hr
  simp only [rightM, headM, Bool.and_eq_true, decide_eq_true_eq] at hr'
  obtain ⟨⟨hh, ho⟩, hc⟩ := hr'
  obtain ⟨k, rfl⟩ : ∃ j, k = j + 60 := ⟨k - 60, by omega⟩
  have hwk := l15works_ev k
  have hlg := long_ev (k + 59) ⟨ins, n, code, outs⟩ nl cap false cap2
  have hro : (roomBytes : Nat) = 140737488355328 := rfl
  have hcp := rCopy_ev (k + 59) ⟨ins, n, code, outs⟩ nl false cap cap2 (Nat.le_trans (Nat.mul_le_mul_right 40 (show code.length ≤ 16384 by omega)) (by decide)) (Nat.le_trans (Nat.mul_le_mul_right 8 (show outs.length ≤ 128 by omega)) (by decide))
  obtain ⟨b1, b2, hps⟩ := deadPass_raw (k + 59) n ins code outs nl cap cap2 (by omega) hr
  have has := Asked_ev (k + 59) n ins code outs nl cap cap2 (by omega) hr
  have hbk := Idle_raw (k + 59) (ii ins) (ii n) (sC code nl cap) (sI outs false cap2) rfl
  have hba := Idle_ans (k + 59) (ii ins) (ii n) (sC code nl cap) (sI outs false cap2) rfl
  obtain ⟨cn, hck⟩ := check_ev (k + 58) ⟨ins, n, code, outs⟩ nl cap false cap2 (by simp only; omega)
  have hne := needed_ev (k + 58) n ins code outs nl cap false cap2 (by omega) hr
  have hids := idle_ev (k + 59) n ins code outs nl cap false cap2 (by omega) hr
  have hsm := rSame_ev (k + 59) ⟨ins, n, code, outs⟩ (nlE code) (nlE outs) nl false (cpE code) (cpE outs) cap cap2 (by simp only; omega) (by simp only; omega) (by simp only; omega)
  have hrt := rRight_ev (k + 59) ⟨ins, n, code, outs⟩ nl cap false cap2 (by simp only; omega)
  have hri := r15Idle_ev (k + 59) n ins code outs nl cap false cap2 (by omega) hr
  have hrp := r15Pass_ev (k + 59) n ins code outs nl cap false cap2 (by omega) hr
  have hra := r15Asked_ev (k + 59) n ins code outs nl cap false cap2 (by omega) hr
  have hnl : (neededM ⟨ins, n, code, outs⟩).length = code.length := (needL_length _ _).2
  have hil := idleL_len code (neededM ⟨ins, n, code, outs⟩) 0 hnl
  obtain ⟨I, hI⟩ : ∃ I, I = idleL 0 code (neededM ⟨ins, n, code, outs⟩) := ⟨_, rfl⟩
  obtain ⟨cq, hcq⟩ : ∃ cq, cq = keepL code (neededM ⟨ins, n, code, outs⟩) := ⟨_, rfl⟩
  have hdp : deadP ⟨ins, n, code, outs⟩ = ⟨ins, n, cq, outs⟩ := by rw [hcq]; rfl
  rw [hdp] at hps has hrp hra hN
  rw [← hI] at hids hil
  have hcl : cq.length ≤ code.length := by rw [hcq]; exact keepL_len _ _
  obtain rfl : cq = [] := List.eq_nil_of_length_eq_zero hN
  have hal : (askedM ⟨ins, n, ([] : List Ins), outs⟩).length = n := by show (askL _ _).length = n; rw [askL_length]; simp [asked0, mark_length]
  have heq := eqBools_ev (k + 59) (askedM ⟨ins, n, ([] : List Ins), outs⟩) false false none none (by omega) (by omega)
  have heqi := eqInts_ev (k + 59) I (nlE I) false (cpE I) none (by omega) (by omega)
  have heqz : run (k + 59 + 1) 39 [.c (.slice [] 0 true (some 0)), .c (.slice [] 0 true (some 0))] = some (bb true) := eqInts_ev (k + 59) [] true true (some 0) (some 0) (by simp) (by simp)
  have hsq := rSame_ev (k + 59) ⟨ins, n, ([] : List Ins), outs⟩ true false (nlE ([] : List Ins)) (nlE outs) (some 0) none (cpE ([] : List Ins)) (cpE outs) (by simp only; omega) (by simp only; omega) (by simp only; omega)
  have hkp : ∀ H, keepO (some (.tup [.agg [.c (.int .i64 ins), .c (.int .i64 n), lv 0 5 0, .hsl 3 0 outs.length outs.length 1], .c (.int .i64 0)], [lo 34 0 [], b1, b2, .row false 3 (encInts outs)])) H = _ := fun H => keepO_B
  simp only [run, aP, ii, sC, sI, sB, bb, hl, checkE, hr, encCode, List.length_nil] at hwk hlg hcp hps has hbk hba hck hne hids hsm hrt hri hrp hra heq heqi heqz hsq
  rw [run, ev7, ans_trim]
  simp only [Try.f7, aP, ii, bb, hwk, hlg, hcp, hps, hkp, has, hbk, hba, doCall_cxK, EVb, EVc, Int.reduceEq, Int.reduceToNat, Int.reduceLE, Int.reduceLT, Int.reduceAdd, Int.reduceMul, Int.reduceSub, Int.reduceNeg, Nat.reduceAdd, Nat.reduceSub, Nat.reduceMul, Nat.reduceLT, Nat.reduceBEq, Nat.reduceEqDiff, Nat.reduceLeDiff, FACTS, TYPES]
  rw [evalCode_rf RA7_10 RB7_10]; rotate_left; rfl; rfl
  simp only [ev80, Try.f80, hck, hne, EVb, EVc, Int.reduceEq, Int.reduceToNat, Int.reduceLE, Int.reduceLT, Int.reduceAdd, Int.reduceMul, Int.reduceSub, Int.reduceNeg, Nat.reduceAdd, Nat.reduceSub, Nat.reduceMul, Nat.reduceLT, Nat.reduceBEq, Nat.reduceEqDiff, Nat.reduceLeDiff, FACTS, TYPES]
  rw [evalCode_loopB LB80_3 lp80_3]; rotate_left; rfl; rfl; rfl
  generalize hz : loopR _ _ _ _ _ _ _ _ _ _ _ _ = z
  obtain ⟨l1, c1, st, pend, hz1⟩ := loop_count_B (k + 54) _ _ _ _ _ (.int .i64 ins) (.int .i64 n) (.slice (encInts outs) outs.length false cap2) e _ (by rfl) (by rfl) code nl cap (neededM ⟨ins, n, code, outs⟩) false none hnl (by omega) _ _ z hz (by omega) (by rfl) (by rfl) (by rfl) (by rfl) (by rfl)
  clear hz
  have hq1 := encCode_length ([] : List Ins)
  have hq2 := encInts_length outs
  have hq3 := encInts_length I
  have ht1 : (encCode ([] : List Ins)).take (([] : List Ins).length * 5) = encCode ([] : List Ins) := List.take_of_length_le (by omega)
  have ht2 : (encInts outs).take outs.length = encInts outs := List.take_of_length_le (by omega)
  have ht3 : (encInts I).take I.length = encInts I := List.take_of_length_le (by omega)
  have hle1 : ([] : List Ins).length * 5 ≤ ([] : List Ins).length * 5 := Nat.le_refl _
  have hle2 : outs.length ≤ outs.length := Nat.le_refl _
  have hpo : 0 < outs.length := by omega
  have hclr := fun (a0 a1 a2 a3 : AObj) (X : Heap) => clear23 (H := a0 :: a1 :: a2 :: a3 :: .row false 3 (encInts outs) :: X) (id := 4) rfl hq2 hpo
  have hle3 : I.length ≤ I.length := Nat.le_refl _
  rcases hz1 with ⟨rfl, rfl, rfl⟩ | ⟨rfl, rfl, rfl⟩
  · simp only [hids, hsm, hrt, hri, rf7_under, under_tup1, EVb, EVc, Int.reduceEq, Int.reduceToNat, Int.reduceLE, Int.reduceLT, Int.reduceAdd, Int.reduceMul, Int.reduceSub, Int.reduceNeg, Nat.reduceAdd, Nat.reduceSub, Nat.reduceMul, Nat.reduceLT, Nat.reduceBEq, Nat.reduceEqDiff, Nat.reduceLeDiff, FACTS, TYPES]
    rw [evalCode_loopB LB7_19 lp7_19]; rotate_left; rfl; rfl; rfl
    generalize hz : loopR _ _ _ _ _ _ _ _ _ _ _ _ = z
    obtain ⟨l2, G, rfl, q2, q5, q6, q7, q8, q9, q11, q12⟩ := loop_want_19 (k + 60) _ (.ptr 1 0) (.ptr 3 0) (.ptr 5 0) (ii 0) (sB (askedM ⟨ins, n, ([] : List Ins), outs⟩) false none) (ii 0) (sE I) code (neededM ⟨ins, n, code, outs⟩) (nlE code) (cpE code) hnl (by omega) _ _ _ z hz (by rfl) (by omega) (by rfl) (by rfl) (by rfl) (by rfl) (by rfl) (by rfl) (by rfl) (by rfl) (by rfl) (by rfl) (by rfl)
    clear hz
    rw [← hI] at q12 ⊢
    generalize rfObj _ _ _ _ _ _ _ = rfo
    rcases Nat.eq_zero_or_pos I.length with hI0 | hI0
    · have q11' : asc l2 11 = .c (.slice [] 0 true (some 0)) := by
        rw [q11, show I = [] from List.eq_nil_of_length_eq_zero hI0]; rfl
      clear q11 heqi
      rw [hI0, lv_zero] at q12
      rw [hI0, lo_zero]
      simp only [q2, q5, q6, q7, q8, q9, q11', q12, EVb, EVc, Int.reduceEq, Int.reduceToNat, Int.reduceLE, Int.reduceLT, Int.reduceAdd, Int.reduceMul, Int.reduceSub, Int.reduceNeg, Nat.reduceAdd, Nat.reduceSub, Nat.reduceMul, Nat.reduceLT, Nat.reduceBEq, Nat.reduceEqDiff, Nat.reduceLeDiff, FACTS, TYPES]
      rw [evalCode_drawn Try.f7 24 dr7_24]; rotate_left; rfl
      simp (config := { maxSteps := 10000000 }) only [q2, q5, q6, q7, q8, q9, q11', q12, heqz, hrp, hsq, hra, heq, hq1, hq2, ht1, ht2, hle1, hle2, EVd, Nat.reducePow, Nat.reduceDiv, Nat.reduceMod, EVb, EVc, Int.reduceEq, Int.reduceToNat, Int.reduceLE, Int.reduceLT, Int.reduceAdd, Int.reduceMul, Int.reduceSub, Int.reduceNeg, Nat.reduceAdd, Nat.reduceSub, Nat.reduceMul, Nat.reduceLT, Nat.reduceBEq, Nat.reduceEqDiff, Nat.reduceLeDiff, FACTS, TYPES]
      rw [evalCode_loopB LB7_27 lp7_27]; rotate_left; rfl; rfl; rfl
      simp only [q2, q5, q6, hclr, hsm, loopR_succ, loopOf, findLoop, firstRegion, Option.some_or, Option.none_or, Option.getD_some, Option.some.injEq, Try.f7, EVb, EVc, Int.reduceEq, Int.reduceToNat, Int.reduceLE, Int.reduceLT, Int.reduceAdd, Int.reduceMul, Int.reduceSub, Int.reduceNeg, Nat.reduceAdd, Nat.reduceSub, Nat.reduceMul, Nat.reduceLT, Nat.reduceBEq, Nat.reduceEqDiff, Nat.reduceLeDiff, FACTS, TYPES]
    · rw [lv_pos hI0] at q12
      rw [lo_pos hI0]
      simp only [q2, q5, q6, q7, q8, q9, q11, q12, EVb, EVc, Int.reduceEq, Int.reduceToNat, Int.reduceLE, Int.reduceLT, Int.reduceAdd, Int.reduceMul, Int.reduceSub, Int.reduceNeg, Nat.reduceAdd, Nat.reduceSub, Nat.reduceMul, Nat.reduceLT, Nat.reduceBEq, Nat.reduceEqDiff, Nat.reduceLeDiff, FACTS, TYPES]
      rw [evalCode_drawn Try.f7 24 dr7_24]; rotate_left; rfl
      simp (config := { maxSteps := 10000000 }) only [q2, q5, q6, q7, q8, q9, q11, q12, heqi, hq3, ht3, hle3, hrp, hsq, hra, heq, hq1, hq2, ht1, ht2, hle1, hle2, EVd, Nat.reducePow, Nat.reduceDiv, Nat.reduceMod, EVb, EVc, Int.reduceEq, Int.reduceToNat, Int.reduceLE, Int.reduceLT, Int.reduceAdd, Int.reduceMul, Int.reduceSub, Int.reduceNeg, Nat.reduceAdd, Nat.reduceSub, Nat.reduceMul, Nat.reduceLT, Nat.reduceBEq, Nat.reduceEqDiff, Nat.reduceLeDiff, FACTS, TYPES]
      rw [evalCode_loopB LB7_27 lp7_27]; rotate_left; rfl; rfl; rfl
      simp only [q2, q5, q6, hclr, hsm, loopR_succ, loopOf, findLoop, firstRegion, Option.some_or, Option.none_or, Option.getD_some, Option.some.injEq, Try.f7, EVb, EVc, Int.reduceEq, Int.reduceToNat, Int.reduceLE, Int.reduceLT, Int.reduceAdd, Int.reduceMul, Int.reduceSub, Int.reduceNeg, Nat.reduceAdd, Nat.reduceSub, Nat.reduceMul, Nat.reduceLT, Nat.reduceBEq, Nat.reduceEqDiff, Nat.reduceLeDiff, FACTS, TYPES]
  · simp only [hids, hsm, hrt, hri, rf7_under, under_tup1, EVb, EVc, Int.reduceEq, Int.reduceToNat, Int.reduceLE, Int.reduceLT, Int.reduceAdd, Int.reduceMul, Int.reduceSub, Int.reduceNeg, Nat.reduceAdd, Nat.reduceSub, Nat.reduceMul, Nat.reduceLT, Nat.reduceBEq, Nat.reduceEqDiff, Nat.reduceLeDiff, FACTS, TYPES]
    rw [evalCode_loopB LB7_19 lp7_19]; rotate_left; rfl; rfl; rfl
    generalize hz : loopR _ _ _ _ _ _ _ _ _ _ _ _ = z
    obtain ⟨l2, G, rfl, q2, q5, q6, q7, q8, q9, q11, q12⟩ := loop_want_19 (k + 60) _ (.ptr 1 0) (.ptr 3 0) (.ptr 5 0) (ii 0) (sB (askedM ⟨ins, n, ([] : List Ins), outs⟩) false none) (ii 0) (sE I) code (neededM ⟨ins, n, code, outs⟩) (nlE code) (cpE code) hnl (by omega) _ _ _ z hz (by rfl) (by omega) (by rfl) (by rfl) (by rfl) (by rfl) (by rfl) (by rfl) (by rfl) (by rfl) (by rfl) (by rfl) (by rfl)
    clear hz
    rw [← hI] at q12 ⊢
    generalize rfObj _ _ _ _ _ _ _ = rfo
    rcases Nat.eq_zero_or_pos I.length with hI0 | hI0
    · have q11' : asc l2 11 = .c (.slice [] 0 true (some 0)) := by
        rw [q11, show I = [] from List.eq_nil_of_length_eq_zero hI0]; rfl
      clear q11 heqi
      rw [hI0, lv_zero] at q12
      rw [hI0, lo_zero]
      simp only [q2, q5, q6, q7, q8, q9, q11', q12, EVb, EVc, Int.reduceEq, Int.reduceToNat, Int.reduceLE, Int.reduceLT, Int.reduceAdd, Int.reduceMul, Int.reduceSub, Int.reduceNeg, Nat.reduceAdd, Nat.reduceSub, Nat.reduceMul, Nat.reduceLT, Nat.reduceBEq, Nat.reduceEqDiff, Nat.reduceLeDiff, FACTS, TYPES]
      rw [evalCode_drawn Try.f7 24 dr7_24]; rotate_left; rfl
      simp (config := { maxSteps := 10000000 }) only [q2, q5, q6, q7, q8, q9, q11', q12, heqz, hrp, hsq, hra, heq, hq1, hq2, ht1, ht2, hle1, hle2, EVd, Nat.reducePow, Nat.reduceDiv, Nat.reduceMod, EVb, EVc, Int.reduceEq, Int.reduceToNat, Int.reduceLE, Int.reduceLT, Int.reduceAdd, Int.reduceMul, Int.reduceSub, Int.reduceNeg, Nat.reduceAdd, Nat.reduceSub, Nat.reduceMul, Nat.reduceLT, Nat.reduceBEq, Nat.reduceEqDiff, Nat.reduceLeDiff, FACTS, TYPES]
      rw [evalCode_loopB LB7_27 lp7_27]; rotate_left; rfl; rfl; rfl
      simp only [q2, q5, q6, hclr, hsm, loopR_succ, loopOf, findLoop, firstRegion, Option.some_or, Option.none_or, Option.getD_some, Option.some.injEq, Try.f7, EVb, EVc, Int.reduceEq, Int.reduceToNat, Int.reduceLE, Int.reduceLT, Int.reduceAdd, Int.reduceMul, Int.reduceSub, Int.reduceNeg, Nat.reduceAdd, Nat.reduceSub, Nat.reduceMul, Nat.reduceLT, Nat.reduceBEq, Nat.reduceEqDiff, Nat.reduceLeDiff, FACTS, TYPES]
    · rw [lv_pos hI0] at q12
      rw [lo_pos hI0]
      simp only [q2, q5, q6, q7, q8, q9, q11, q12, EVb, EVc, Int.reduceEq, Int.reduceToNat, Int.reduceLE, Int.reduceLT, Int.reduceAdd, Int.reduceMul, Int.reduceSub, Int.reduceNeg, Nat.reduceAdd, Nat.reduceSub, Nat.reduceMul, Nat.reduceLT, Nat.reduceBEq, Nat.reduceEqDiff, Nat.reduceLeDiff, FACTS, TYPES]
      rw [evalCode_drawn Try.f7 24 dr7_24]; rotate_left; rfl
      simp (config := { maxSteps := 10000000 }) only [q2, q5, q6, q7, q8, q9, q11, q12, heqi, hq3, ht3, hle3, hrp, hsq, hra, heq, hq1, hq2, ht1, ht2, hle1, hle2, EVd, Nat.reducePow, Nat.reduceDiv, Nat.reduceMod, EVb, EVc, Int.reduceEq, Int.reduceToNat, Int.reduceLE, Int.reduceLT, Int.reduceAdd, Int.reduceMul, Int.reduceSub, Int.reduceNeg, Nat.reduceAdd, Nat.reduceSub, Nat.reduceMul, Nat.reduceLT, Nat.reduceBEq, Nat.reduceEqDiff, Nat.reduceLeDiff, FACTS, TYPES]
      rw [evalCode_loopB LB7_27 lp7_27]; rotate_left; rfl; rfl; rfl
      simp only [q2, q5, q6, hclr, hsm, loopR_succ, loopOf, findLoop, firstRegion, Option.some_or, Option.none_or, Option.getD_some, Option.some.injEq, Try.f7, EVb, EVc, Int.reduceEq, Int.reduceToNat, Int.reduceLE, Int.reduceLT, Int.reduceAdd, Int.reduceMul, Int.reduceSub, Int.reduceNeg, Nat.reduceAdd, Nat.reduceSub, Nat.reduceMul, Nat.reduceLT, Nat.reduceBEq, Nat.reduceEqDiff, Nat.reduceLeDiff, FACTS, TYPES]
end Go.Proofs.Sw
namespace Go.Proofs.Sw
set_option linter.unusedVariables false
set_option linter.unusedSimpArgs false
set_option linter.unusedSectionVars false
open Go.Ab
variable [Globals]
theorem DeadPasses_ev (k : Nat) (p : Pg) (nl : Bool) (cap : Option Nat) (nl2 : Bool) (cap2 : Option Nat) (e : Int) (hk : p.outs.length + p.code.length + 400 ≤ k) (_ : nl = true → p.code = []) (hn2 : nl2 = true → p.outs = []) (hs : p.code.length * 40 ≤ roomBytes) (hs2 : p.outs.length * 8 ≤ roomBytes) :
    run (k+1) 7 [aP p nl cap nl2 cap2, ii e] = some (bb true) := by
  by_cases hl : 300 < p.code.length ∧ p.code.length ≤ 16384
  · obtain ⟨k, rfl⟩ : ∃ j, k = j + 60 := ⟨k - 60, by omega⟩
    have hwk := l15works_ev k
    have hlg := long_ev (k + 59) p nl cap nl2 cap2
    simp only [run, aP, ii, sC, sI, bb, hl] at hwk hlg
    rw [run, ev7, ans_trim]
    simp only [Try.f7, aP, ii, bb, hwk, hlg, EVb, EVc, Int.reduceEq, Int.reduceToNat, Int.reduceLE, Int.reduceLT, Int.reduceAdd, Int.reduceMul, Int.reduceSub, Int.reduceNeg, Nat.reduceAdd, Nat.reduceSub, Nat.reduceMul, Nat.reduceLT, Nat.reduceBEq, Nat.reduceEqDiff, Nat.reduceLeDiff, FACTS, TYPES]
  · cases hr : rightM p with
    | false => exact DeadPasses_bad k p nl cap nl2 cap2 e hk hs hs2 hl hr
    | true =>
      obtain ⟨n, hn⟩ := right_nat hr
      obtain ⟨ins, regs, code, outs⟩ := p
      simp only at hn hk hn2 hl
      subst hn
      have hr' := hr
      simp only [rightM, headM, Bool.and_eq_true, decide_eq_true_eq] at hr'
      have hnl2 : nl2 = false := by
        cases nl2 with
        | false => rfl
        | true => have := hn2 rfl; subst this; simp at hr'
      subst hnl2
      rcases Nat.eq_zero_or_pos (deadP ⟨ins, n, code, outs⟩).code.length with hN | hN
      · exact DeadPasses_B k n ins code outs nl cap cap2 e hk hl hr hN
      · exact DeadPasses_A k n ins code outs nl cap cap2 e hk hl hr hN
end Go.Proofs.Sw
