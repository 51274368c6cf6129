/- A part of the proof: what functions of the program answer, of whatever arguments, reckoned with letters by the interpreter's equations. Its conditions stand in each theorem. -/
import Derived.Test.YtefdgfdahmaciaaWA
namespace Go.Proofs.Sw
set_option linter.unusedVariables false
set_option linter.unusedSimpArgs false
set_option linter.unusedSectionVars false
open Go.Ab
variable [Globals]
theorem rMay_ev (k : Nat) (o t a b c regs : Int) : run (k+1) 102 [aI o t a b c, ii regs] = some (bb (mayM ⟨o, t, a, b, c⟩ regs)) := by
  rw [run, ev102, ans_trim]
  simp only [Try.f102, aI, ii, bb, EVb, EVc, Int.reduceEq, Int.reduceToNat, Int.reduceLE, Int.reduceLT, Int.reduceAdd, Int.reduceMul, Int.reduceSub, Int.reduceNeg, Nat.reduceAdd, Nat.reduceSub, Nat.reduceMul, Nat.reduceLT, Nat.reduceBEq, Nat.reduceEqDiff, Nat.reduceLeDiff, FACTS, TYPES]
  repeat' (first
    | (rw [condO_dec]; split <;> simp only [*, EVb, EVc, Int.reduceEq, Int.reduceToNat, Int.reduceLE, Int.reduceLT, Int.reduceAdd, Int.reduceMul, Int.reduceSub, Int.reduceNeg, Nat.reduceAdd, Nat.reduceSub, Nat.reduceMul, Nat.reduceLT, Nat.reduceBEq, Nat.reduceEqDiff, Nat.reduceLeDiff, FACTS, TYPES])
    | (rw [condO_ite]; split <;> simp only [*, EVb, EVc, Int.reduceEq, Int.reduceToNat, Int.reduceLE, Int.reduceLT, Int.reduceAdd, Int.reduceMul, Int.reduceSub, Int.reduceNeg, Nat.reduceAdd, Nat.reduceSub, Nat.reduceMul, Nat.reduceLT, Nat.reduceBEq, Nat.reduceEqDiff, Nat.reduceLeDiff, FACTS, TYPES])
    | (split <;> simp only [*, EVb, EVc, Int.reduceEq, Int.reduceToNat, Int.reduceLE, Int.reduceLT, Int.reduceAdd, Int.reduceMul, Int.reduceSub, Int.reduceNeg, Nat.reduceAdd, Nat.reduceSub, Nat.reduceMul, Nat.reduceLT, Nat.reduceBEq, Nat.reduceEqDiff, Nat.reduceLeDiff, FACTS, TYPES]))
  all_goals first
    | (simp [mayM, constant, *]; done)
    | (rw [Option.some.injEq, AV.c.injEq, IV.bool.injEq, Bool.eq_iff_iff]; simp [mayM, constant, *]; omega)
theorem rAsks_ev (k : Nat) (o t a b c : Int) : run (k+1) 81 [aI o t a b c] = some (.c (.slice (encInts (asks ⟨o, t, a, b, c⟩)) (asks ⟨o, t, a, b, c⟩).length (nlE (asks ⟨o, t, a, b, c⟩)) (cpE (asks ⟨o, t, a, b, c⟩)))) := by
  rw [run, ev81, ans_trim]
  simp only [Try.f81, aI, ii, EVb, EVc, Int.reduceEq, Int.reduceToNat, Int.reduceLE, Int.reduceLT, Int.reduceAdd, Int.reduceMul, Int.reduceSub, Int.reduceNeg, Nat.reduceAdd, Nat.reduceSub, Nat.reduceMul, Nat.reduceLT, Nat.reduceBEq, Nat.reduceEqDiff, Nat.reduceLeDiff, FACTS, TYPES]
  repeat' (first
    | (rw [condO_dec]; split <;> simp only [*, EVb, EVc, Int.reduceEq, Int.reduceToNat, Int.reduceLE, Int.reduceLT, Int.reduceAdd, Int.reduceMul, Int.reduceSub, Int.reduceNeg, Nat.reduceAdd, Nat.reduceSub, Nat.reduceMul, Nat.reduceLT, Nat.reduceBEq, Nat.reduceEqDiff, Nat.reduceLeDiff, FACTS, TYPES])
    | (rw [condO_ite]; split <;> simp only [*, EVb, EVc, Int.reduceEq, Int.reduceToNat, Int.reduceLE, Int.reduceLT, Int.reduceAdd, Int.reduceMul, Int.reduceSub, Int.reduceNeg, Nat.reduceAdd, Nat.reduceSub, Nat.reduceMul, Nat.reduceLT, Nat.reduceBEq, Nat.reduceEqDiff, Nat.reduceLeDiff, FACTS, TYPES])
    | (split <;> simp only [*, EVb, EVc, Int.reduceEq, Int.reduceToNat, Int.reduceLE, Int.reduceLT, Int.reduceAdd, Int.reduceMul, Int.reduceSub, Int.reduceNeg, Nat.reduceAdd, Nat.reduceSub, Nat.reduceMul, Nat.reduceLT, Nat.reduceBEq, Nat.reduceEqDiff, Nat.reduceLeDiff, FACTS, TYPES]))
  all_goals simp [asks, encInts, *]
  all_goals (try omega)
theorem loop_rCheck_4 (kf : Nat) (ins regs : Int) (cv : AV) (outs : List Int) (nl : Bool) (cap : Option Nat) (hlen : outs.length ≤ 1000000) (k : Nat) (l : Ass) (z : Option Out)
    (hz : loopR Try.prog tab kf none LB67_4 67 79 [1, 4] 1 k l [cP ins regs cv (sI outs nl cap)] = z) (hk : outs.length < k)
    (h1 : asc l 1 = .ptr 0 0) (h4 : asc l 4 = ii (0 : Nat)) :
    ∃ l', (z = some (.exit 0 (fr 79 l') [cP ins regs cv (sI outs nl cap)]) ∧ asc l' 1 = .ptr 0 0 ∧ outs.all (fun r => decide (0 ≤ r ∧ r < regs)) = true) ∨
      (z = some (.ret (fr 79 l') [cP ins regs cv (sI outs nl cap)]) ∧ (∃ n, asc l' 2 = ii n) ∧ asc l' 3 = bb true ∧ outs.all (fun r => decide (0 ≤ r ∧ r < regs)) = false) := by
  subst hz
  refine loop_nat outs.length (fun k l H => loopR Try.prog tab kf none LB67_4 67 79 [1, 4] 1 k l H)
    (fun i l H => asc l 1 = .ptr 0 0 ∧ asc l 4 = ii i ∧ (∀ j, (h : j < i) → ∀ h2 : j < outs.length, 0 ≤ outs[j] ∧ outs[j] < regs) ∧ H = [cP ins regs cv (sI outs nl cap)])
    (fun z => ∃ l', (z = some (.exit 0 (fr 79 l') [cP ins regs cv (sI outs nl cap)]) ∧ asc l' 1 = .ptr 0 0 ∧ outs.all (fun r => decide (0 ≤ r ∧ r < regs)) = true) ∨
      (z = some (.ret (fr 79 l') [cP ins regs cv (sI outs nl cap)]) ∧ (∃ n, asc l' 2 = ii n) ∧ asc l' 3 = bb true ∧ outs.all (fun r => decide (0 ≤ r ∧ r < regs)) = false)) ?_ outs.length 0 k l _ (by omega) hk ⟨h1, h4, fun j h => absurd h (by omega), rfl⟩
  clear h1 h4 hk
  rintro i k l H hi ⟨h1, h4, hp, rfl⟩
  by_cases hc : i < outs.length
  · have hc' : ((i : Int) < outs.length) := by omega
    have hc0 : (0 : Int) ≤ i := by omega
    have hx := encInts_get hc
    have hw := wrap_succ hc (by omega)
    have hall : ¬ (0 ≤ outs[i] ∧ outs[i] < regs) → outs.all (fun r => decide (0 ≤ r ∧ r < regs)) = false := fun h => by
      rw [List.all_eq_false]; exact ⟨outs[i], List.getElem_mem hc, by simpa using h⟩
    simp only [h1, h4, hc', hc0, hx, loopR_succ, loopOf, findLoop, firstRegion, Option.some_or, Option.none_or, Option.getD_some, Option.some.injEq, Try.f67, EVb, EVc, Int.reduceEq, Int.reduceToNat, Int.reduceLE, Int.reduceLT, Int.reduceAdd, Int.reduceMul, Int.reduceSub, Int.reduceNeg, Nat.reduceAdd, Nat.reduceSub, Nat.reduceMul, Nat.reduceLT, Nat.reduceBEq, Nat.reduceEqDiff, Nat.reduceLeDiff, FACTS, TYPES]
    rw [evalCode_drawn Try.f67 6 dr67_6]; rotate_left; rfl
    by_cases hr : outs[i] < 0
    · refine .inl ?_
      simp only [hc', hc0, hx, hr, EVd, Nat.reducePow, Nat.reduceDiv, Nat.reduceMod, EVb, EVc, Int.reduceEq, Int.reduceToNat, Int.reduceLE, Int.reduceLT, Int.reduceAdd, Int.reduceMul, Int.reduceSub, Int.reduceNeg, Nat.reduceAdd, Nat.reduceSub, Nat.reduceMul, Nat.reduceLT, Nat.reduceBEq, Nat.reduceEqDiff, Nat.reduceLeDiff, FACTS, TYPES]
      exact ⟨_, .inr ⟨rfl, ⟨_, (by rfl)⟩, (by rfl), hall (by omega)⟩⟩
    · by_cases hr2 : regs ≤ outs[i]
      · refine .inl ?_
        simp only [hc', hc0, hx, hr, hr2, EVd, Nat.reducePow, Nat.reduceDiv, Nat.reduceMod, EVb, EVc, Int.reduceEq, Int.reduceToNat, Int.reduceLE, Int.reduceLT, Int.reduceAdd, Int.reduceMul, Int.reduceSub, Int.reduceNeg, Nat.reduceAdd, Nat.reduceSub, Nat.reduceMul, Nat.reduceLT, Nat.reduceBEq, Nat.reduceEqDiff, Nat.reduceLeDiff, FACTS, TYPES]
        exact ⟨_, .inr ⟨rfl, ⟨_, (by rfl)⟩, (by rfl), hall (by omega)⟩⟩
      · refine .inr ?_
        simp only [hc', hc0, hx, hr, hr2, hw, EVd, Nat.reducePow, Nat.reduceDiv, Nat.reduceMod, EVb, EVc, Int.reduceEq, Int.reduceToNat, Int.reduceLE, Int.reduceLT, Int.reduceAdd, Int.reduceMul, Int.reduceSub, Int.reduceNeg, Nat.reduceAdd, Nat.reduceSub, Nat.reduceMul, Nat.reduceLT, Nat.reduceBEq, Nat.reduceEqDiff, Nat.reduceLeDiff, FACTS, TYPES]
        refine ⟨_, _, hc, rfl, (by rfl), (by rfl), fun j hj h2 => ?_, rfl⟩
        by_cases e : j = i
        · subst e; omega
        · exact hp j (by omega) h2
  · have hc' : ¬ ((i : Int) < outs.length) := by omega
    refine .inl ?_
    simp only [h1, h4, hc', loopR_succ, loopOf, findLoop, firstRegion, Option.some_or, Option.none_or, Option.getD_some, Option.some.injEq, Try.f67, EVb, EVc, Int.reduceEq, Int.reduceToNat, Int.reduceLE, Int.reduceLT, Int.reduceAdd, Int.reduceMul, Int.reduceSub, Int.reduceNeg, Nat.reduceAdd, Nat.reduceSub, Nat.reduceMul, Nat.reduceLT, Nat.reduceBEq, Nat.reduceEqDiff, Nat.reduceLeDiff, FACTS, TYPES]
    refine ⟨_, .inl ⟨rfl, (by rfl), ?_⟩⟩
    exact all_of fun j hj => by simpa using hp j (by omega) hj
theorem loop_rCheck_9 (kf : Nat) (hkf : 1 ≤ kf) (ins regs : Int) (ov : AV) (hov : AV.under 1 ov = true) (code : List Ins) (nl : Bool) (cap : Option Nat) (hlen : code.length ≤ 1000000) (k : Nat) (l : Ass) (z : Option Out)
    (hz : loopR Try.prog tab kf none LB67_9 67 79 [1, 5] 1 k l [cP ins regs (sC code nl cap) ov] = z) (hk : code.length < k)
    (h1 : asc l 1 = .ptr 0 0) (h5 : asc l 5 = ii (0 : Nat)) :
    ∃ l' H', (z = some (.exit 2 (fr 79 l') H') ∧ code.all (fun i => mayM i regs) = true) ∨
      (z = some (.ret (fr 79 l') H') ∧ (∃ n, asc l' 2 = ii n) ∧ asc l' 3 = bb true ∧ code.all (fun i => mayM i regs) = false) := by
  subst hz
  obtain ⟨kf, rfl⟩ : ∃ j, kf = j + 1 := ⟨kf - 1, by omega⟩
  refine loop_nat code.length (fun k l H => loopR Try.prog tab (kf + 1) none LB67_9 67 79 [1, 5] 1 k l H)
    (fun i l H => asc l 1 = .ptr 0 0 ∧ asc l 5 = ii i ∧ (∀ j, (h : j < i) → ∀ h2 : j < code.length, mayM code[j] regs = true) ∧ H = [cP ins regs (sC code nl cap) ov])
    (fun z => ∃ l' H', (z = some (.exit 2 (fr 79 l') H') ∧ code.all (fun i => mayM i regs) = true) ∨
      (z = some (.ret (fr 79 l') H') ∧ (∃ n, asc l' 2 = ii n) ∧ asc l' 3 = bb true ∧ code.all (fun i => mayM i regs) = false)) ?_ code.length 0 k l _ (by omega) hk ⟨h1, h5, fun j h => absurd h (by omega), rfl⟩
  clear h1 h5 hk
  rintro i k l H hi ⟨h1, h5, hp, rfl⟩
  by_cases hc : i < code.length
  · have hc' : ((i : Int) < code.length) := by omega
    have hc0 : (0 : Int) ≤ i := by omega
    have hx := encCode_get hc
    have hw := wrap_succ hc (by omega)
    obtain ⟨x, hX⟩ : ∃ x, x = code[i] := ⟨_, rfl⟩
    rw [← hX] at hx
    have hm := rMay_ev kf x.op x.to x.a x.b x.c regs
    simp only [run, aI, ii, bb] at hm
    simp only [h1, h5, hc', hc0, hx, loopR_succ, loopOf, findLoop, firstRegion, Option.some_or, Option.none_or, Option.getD_some, Option.some.injEq, Try.f67, EVb, EVc, Int.reduceEq, Int.reduceToNat, Int.reduceLE, Int.reduceLT, Int.reduceAdd, Int.reduceMul, Int.reduceSub, Int.reduceNeg, Nat.reduceAdd, Nat.reduceSub, Nat.reduceMul, Nat.reduceLT, Nat.reduceBEq, Nat.reduceEqDiff, Nat.reduceLeDiff, FACTS, TYPES]
    rw [evalCode_drawn Try.f67 11 dr67_11]; rotate_left; rfl
    cases hd : mayM x regs with
    | false =>
      rw [show mayM ⟨x.op, x.to, x.a, x.b, x.c⟩ regs = false from hd] at hm
      refine .inl ?_
      simp only [hc', hc0, hx, hm, EVd, Nat.reducePow, Nat.reduceDiv, Nat.reduceMod, EVb, EVc, Int.reduceEq, Int.reduceToNat, Int.reduceLE, Int.reduceLT, Int.reduceAdd, Int.reduceMul, Int.reduceSub, Int.reduceNeg, Nat.reduceAdd, Nat.reduceSub, Nat.reduceMul, Nat.reduceLT, Nat.reduceBEq, Nat.reduceEqDiff, Nat.reduceLeDiff, FACTS, TYPES]
      exact ⟨_, _, .inr ⟨rfl, ⟨_, rfl⟩, (by rfl), all_not hc (by rw [← hX]; exact hd)⟩⟩
    | true =>
      rw [show mayM ⟨x.op, x.to, x.a, x.b, x.c⟩ regs = true from hd] at hm
      refine .inr ?_
      simp only [hc', hc0, hx, hm, hw, EVd, Nat.reducePow, Nat.reduceDiv, Nat.reduceMod, EVb, EVc, Int.reduceEq, Int.reduceToNat, Int.reduceLE, Int.reduceLT, Int.reduceAdd, Int.reduceMul, Int.reduceSub, Int.reduceNeg, Nat.reduceAdd, Nat.reduceSub, Nat.reduceMul, Nat.reduceLT, Nat.reduceBEq, Nat.reduceEqDiff, Nat.reduceLeDiff, FACTS, TYPES]
      refine ⟨_, _, hc, rfl, (by rfl), (by rfl), fun j hj h2 => ?_, rfl⟩
      by_cases e : j = i
      · subst e; rw [← hX]; exact hd
      · exact hp j (by omega) h2
  · have hc' : ¬ ((i : Int) < code.length) := by omega
    refine .inl ?_
    simp only [h1, h5, hc', loopR_succ, loopOf, findLoop, firstRegion, Option.some_or, Option.none_or, Option.getD_some, Option.some.injEq, Try.f67, EVb, EVc, Int.reduceEq, Int.reduceToNat, Int.reduceLE, Int.reduceLT, Int.reduceAdd, Int.reduceMul, Int.reduceSub, Int.reduceNeg, Nat.reduceAdd, Nat.reduceSub, Nat.reduceMul, Nat.reduceLT, Nat.reduceBEq, Nat.reduceEqDiff, Nat.reduceLeDiff, FACTS, TYPES]
    exact ⟨_, _, .inl ⟨rfl, all_of fun j hj => hp j (by omega) hj⟩⟩
theorem rCheck_ev (k : Nat) (p : Pg) (nl : Bool) (cap : Option Nat) (nl2 : Bool) (cap2 : Option Nat) (hk : p.outs.length + p.code.length + 10 ≤ k) :
    ∃ n, run (k+1) 67 [aP p nl cap nl2 cap2] = some (.tup [ii n, bb (!rightM p)]) := by
  obtain ⟨ins, regs, code, outs⟩ := p
  simp only at hk
  rw [run, ev67, ans_trim]
  simp only [Try.f67, aP, ii, bb, EVb, EVc, Int.reduceEq, Int.reduceToNat, Int.reduceLE, Int.reduceLT, Int.reduceAdd, Int.reduceMul, Int.reduceSub, Int.reduceNeg, Nat.reduceAdd, Nat.reduceSub, Nat.reduceMul, Nat.reduceLT, Nat.reduceBEq, Nat.reduceEqDiff, Nat.reduceLeDiff, FACTS, TYPES]
  by_cases hm : headM ⟨ins, regs, code, outs⟩ = true
  · have hm' := hm
    simp only [headM, decide_eq_true_eq] at hm'
    have q1 : ¬ ins < 1 := by omega
    have q2 : ¬ regs < ins := by omega
    have q3 : ¬ 128 < regs := by omega
    have q4 : ¬ (16384 : Int) < code.length := by omega
    have q5 : ¬ (outs.length : Int) < 1 := by omega
    have q6 : ¬ (128 : Int) < outs.length := by omega
    simp only [q1, q2, q3, q4, q5, q6, EVb, EVc, Int.reduceEq, Int.reduceToNat, Int.reduceLE, Int.reduceLT, Int.reduceAdd, Int.reduceMul, Int.reduceSub, Int.reduceNeg, Nat.reduceAdd, Nat.reduceSub, Nat.reduceMul, Nat.reduceLT, Nat.reduceBEq, Nat.reduceEqDiff, Nat.reduceLeDiff, FACTS, TYPES]
    rw [evalCode_loopB LB67_4 lp67_4]; rotate_left; rfl; rfl; rfl
    generalize hz : loopR _ _ _ _ _ _ _ _ _ _ _ _ = z
    obtain ⟨l1, ⟨rfl, g1, ho⟩ | ⟨rfl, ⟨n, g1⟩, g2, ho⟩⟩ := loop_rCheck_4 k ins regs (sC code nl cap) outs nl2 cap2 (by omega) _ _ z hz (by omega) (by rfl) (by rfl)
    · simp only [g1, EVb, EVc, Int.reduceEq, Int.reduceToNat, Int.reduceLE, Int.reduceLT, Int.reduceAdd, Int.reduceMul, Int.reduceSub, Int.reduceNeg, Nat.reduceAdd, Nat.reduceSub, Nat.reduceMul, Nat.reduceLT, Nat.reduceBEq, Nat.reduceEqDiff, Nat.reduceLeDiff, FACTS, TYPES]
      clear hz
      rw [evalCode_loopB LB67_9 lp67_9]; rotate_left; rfl; rfl; rfl
      generalize hz : loopR _ _ _ _ _ _ _ _ _ _ _ _ = z
      obtain ⟨l2, H2, ⟨rfl, hc⟩ | ⟨rfl, ⟨n, g2⟩, g3, hc⟩⟩ := loop_rCheck_9 k (by omega) ins regs (sI outs nl2 cap2) (by rfl) code nl cap (by omega) _ _ z hz (by omega) (by exact g1) (by rfl)
      · refine ⟨0, ?_⟩
        simp only [EVb, EVc, Int.reduceEq, Int.reduceToNat, Int.reduceLE, Int.reduceLT, Int.reduceAdd, Int.reduceMul, Int.reduceSub, Int.reduceNeg, Nat.reduceAdd, Nat.reduceSub, Nat.reduceMul, Nat.reduceLT, Nat.reduceBEq, Nat.reduceEqDiff, Nat.reduceLeDiff, FACTS, TYPES]
        simp [rightM, hm, show outsM ⟨ins, regs, code, outs⟩ = _ from ho, show codeM ⟨ins, regs, code, outs⟩ = _ from hc]
      · refine ⟨n, ?_⟩
        simp only [g2, g3, EVb, EVc, Int.reduceEq, Int.reduceToNat, Int.reduceLE, Int.reduceLT, Int.reduceAdd, Int.reduceMul, Int.reduceSub, Int.reduceNeg, Nat.reduceAdd, Nat.reduceSub, Nat.reduceMul, Nat.reduceLT, Nat.reduceBEq, Nat.reduceEqDiff, Nat.reduceLeDiff, FACTS, TYPES]
        simp [rightM, hm, show outsM ⟨ins, regs, code, outs⟩ = _ from ho, show codeM ⟨ins, regs, code, outs⟩ = _ from hc]
    · refine ⟨n, ?_⟩
      simp only [g1, g2, EVb, EVc, Int.reduceEq, Int.reduceToNat, Int.reduceLE, Int.reduceLT, Int.reduceAdd, Int.reduceMul, Int.reduceSub, Int.reduceNeg, Nat.reduceAdd, Nat.reduceSub, Nat.reduceMul, Nat.reduceLT, Nat.reduceBEq, Nat.reduceEqDiff, Nat.reduceLeDiff, FACTS, TYPES]
      simp [rightM, hm, show outsM ⟨ins, regs, code, outs⟩ = _ from ho]
  · refine ⟨-1, ?_⟩
    have hr : rightM ⟨ins, regs, code, outs⟩ = false := by simp [rightM, hm]
    rw [hr]
    simp only [headM, decide_eq_true_eq] at hm
    repeat' (first
    | (rw [condO_dec]; split <;> simp only [*, EVb, EVc, Int.reduceEq, Int.reduceToNat, Int.reduceLE, Int.reduceLT, Int.reduceAdd, Int.reduceMul, Int.reduceSub, Int.reduceNeg, Nat.reduceAdd, Nat.reduceSub, Nat.reduceMul, Nat.reduceLT, Nat.reduceBEq, Nat.reduceEqDiff, Nat.reduceLeDiff, FACTS, TYPES])
    | (rw [condO_ite]; split <;> simp only [*, EVb, EVc, Int.reduceEq, Int.reduceToNat, Int.reduceLE, Int.reduceLT, Int.reduceAdd, Int.reduceMul, Int.reduceSub, Int.reduceNeg, Nat.reduceAdd, Nat.reduceSub, Nat.reduceMul, Nat.reduceLT, Nat.reduceBEq, Nat.reduceEqDiff, Nat.reduceLeDiff, FACTS, TYPES])
    | (split <;> simp only [*, EVb, EVc, Int.reduceEq, Int.reduceToNat, Int.reduceLE, Int.reduceLT, Int.reduceAdd, Int.reduceMul, Int.reduceSub, Int.reduceNeg, Nat.reduceAdd, Nat.reduceSub, Nat.reduceMul, Nat.reduceLT, Nat.reduceBEq, Nat.reduceEqDiff, Nat.reduceLeDiff, FACTS, TYPES]))
    all_goals first
      | rfl
      | (exfalso; omega)
theorem rRight_ev (k : Nat) (p : Pg) (nl : Bool) (cap : Option Nat) (nl2 : Bool) (cap2 : Option Nat) (hk : p.outs.length + p.code.length + 11 ≤ k) :
    run (k+1) 17 [aP p nl cap nl2 cap2] = some (bb (rightM p)) := by
  obtain ⟨k, rfl⟩ : ∃ j, k = j + 1 := ⟨k - 1, by omega⟩
  obtain ⟨n, hc⟩ := rCheck_ev k p nl cap nl2 cap2 (by omega)
  simp only [run, aP, ii, bb] at hc
  rw [run, ev17, ans_trim]
  simp only [Try.f17, aP, ii, bb, hc, EVb, EVc, Int.reduceEq, Int.reduceToNat, Int.reduceLE, Int.reduceLT, Int.reduceAdd, Int.reduceMul, Int.reduceSub, Int.reduceNeg, Nat.reduceAdd, Nat.reduceSub, Nat.reduceMul, Nat.reduceLT, Nat.reduceBEq, Nat.reduceEqDiff, Nat.reduceLeDiff, FACTS, TYPES]
  cases hr : rightM p <;> simp
end Go.Proofs.Sw
namespace Go.Proofs.Sw
set_option linter.unusedVariables false
set_option linter.unusedSimpArgs false
set_option linter.unusedSectionVars false
open Go.Ab
variable [Globals]
theorem loop_rSame_4 (kf : Nat) (ins regs : Int) (code : List Ins) (nl nl3 : Bool) (cap cap3 : Option Nat) (ov ov2 : AV) (hlen : code.length ≤ 4611686018427387904) (k : Nat) (l : Ass) (z : Option Out)
    (hz : loopR Try.prog tab kf none LB20_4 20 73 [2, 3, 5] 2 k l [cP ins regs (sC code nl cap) ov, cP ins regs (sC code nl3 cap3) ov2] = z) (hk : code.length < k)
    (h2 : asc l 2 = .ptr 0 0) (h3 : asc l 3 = .ptr 1 0) (h5 : asc l 5 = ii (0 : Nat)) :
    ∃ l', z = some (.exit 0 (fr 73 l') [cP ins regs (sC code nl cap) ov, cP ins regs (sC code nl3 cap3) ov2]) ∧ asc l' 2 = .ptr 0 0 ∧ asc l' 3 = .ptr 1 0 := by
  subst hz
  refine loop_nat code.length (fun k l H => loopR Try.prog tab kf none LB20_4 20 73 [2, 3, 5] 2 k l H)
    (fun i l H => asc l 2 = .ptr 0 0 ∧ asc l 3 = .ptr 1 0 ∧ asc l 5 = ii i ∧ H = [cP ins regs (sC code nl cap) ov, cP ins regs (sC code nl3 cap3) ov2])
    (fun z => ∃ l', z = some (.exit 0 (fr 73 l') [cP ins regs (sC code nl cap) ov, cP ins regs (sC code nl3 cap3) ov2]) ∧ asc l' 2 = .ptr 0 0 ∧ asc l' 3 = .ptr 1 0) ?_ code.length 0 k l _ (by omega) hk ⟨h2, h3, h5, rfl⟩
  clear h2 h3 h5 hk
  rintro i k l H hi ⟨h2, h3, h5, rfl⟩
  by_cases hc : i < code.length
  · have hc' : ((i : Int) < code.length) := by omega
    have hc0 : (0 : Int) ≤ i := by omega
    have hx := encCode_get hc
    have hw := wrap_succ hc (by omega)
    obtain ⟨x, hX⟩ : ∃ x, x = code[i] := ⟨_, rfl⟩
    rw [← hX] at hx
    refine .inr ?_
    simp only [h2, h3, h5, hc', hc0, hx, loopR_succ, loopOf, findLoop, firstRegion, Option.some_or, Option.none_or, Option.getD_some, Option.some.injEq, Try.f20, EVb, EVc, Int.reduceEq, Int.reduceToNat, Int.reduceLE, Int.reduceLT, Int.reduceAdd, Int.reduceMul, Int.reduceSub, Int.reduceNeg, Nat.reduceAdd, Nat.reduceSub, Nat.reduceMul, Nat.reduceLT, Nat.reduceBEq, Nat.reduceEqDiff, Nat.reduceLeDiff, FACTS, TYPES]
    rw [evalCode_drawn Try.f20 6 dr20_6]; rotate_left; rfl
    simp only [hc', hc0, hx, hw, EVd, Nat.reducePow, Nat.reduceDiv, Nat.reduceMod, EVb, EVc, Int.reduceEq, Int.reduceToNat, Int.reduceLE, Int.reduceLT, Int.reduceAdd, Int.reduceMul, Int.reduceSub, Int.reduceNeg, Nat.reduceAdd, Nat.reduceSub, Nat.reduceMul, Nat.reduceLT, Nat.reduceBEq, Nat.reduceEqDiff, Nat.reduceLeDiff, FACTS, TYPES]
    exact ⟨_, _, hc, rfl, (by rfl), (by rfl), (by rfl), rfl⟩
  · have hc' : ¬ ((i : Int) < code.length) := by omega
    refine .inl ?_
    simp only [h2, h3, h5, hc', loopR_succ, loopOf, findLoop, firstRegion, Option.some_or, Option.none_or, Option.getD_some, Option.some.injEq, Try.f20, EVb, EVc, Int.reduceEq, Int.reduceToNat, Int.reduceLE, Int.reduceLT, Int.reduceAdd, Int.reduceMul, Int.reduceSub, Int.reduceNeg, Nat.reduceAdd, Nat.reduceSub, Nat.reduceMul, Nat.reduceLT, Nat.reduceBEq, Nat.reduceEqDiff, Nat.reduceLeDiff, FACTS, TYPES]
    exact ⟨_, rfl, (by rfl), (by rfl)⟩
theorem loop_rSame_9 (kf : Nat) (ins regs : Int) (outs : List Int) (nl nl3 : Bool) (cap cap3 : Option Nat) (cv cv2 : AV) (hlen : outs.length ≤ 4611686018427387904) (k : Nat) (l : Ass) (z : Option Out)
    (hz : loopR Try.prog tab kf none LB20_9 20 73 [2, 3, 6] 2 k l [cP ins regs cv (sI outs nl cap), cP ins regs cv2 (sI outs nl3 cap3)] = z) (hk : outs.length < k)
    (h2 : asc l 2 = .ptr 0 0) (h3 : asc l 3 = .ptr 1 0) (h6 : asc l 6 = ii (0 : Nat)) :
    ∃ l' H', z = some (.exit 2 (fr 73 l') H') := by
  subst hz
  refine loop_nat outs.length (fun k l H => loopR Try.prog tab kf none LB20_9 20 73 [2, 3, 6] 2 k l H)
    (fun i l H => asc l 2 = .ptr 0 0 ∧ asc l 3 = .ptr 1 0 ∧ asc l 6 = ii i ∧ H = [cP ins regs cv (sI outs nl cap), cP ins regs cv2 (sI outs nl3 cap3)])
    (fun z => ∃ l' H', z = some (.exit 2 (fr 73 l') H')) ?_ outs.length 0 k l _ (by omega) hk ⟨h2, h3, h6, rfl⟩
  clear h2 h3 h6 hk
  rintro i k l H hi ⟨h2, h3, h6, rfl⟩
  by_cases hc : i < outs.length
  · have hc' : ((i : Int) < outs.length) := by omega
    have hc0 : (0 : Int) ≤ i := by omega
    have hx := encInts_get hc
    have hw := wrap_succ hc (by omega)
    refine .inr ?_
    simp only [h2, h3, h6, hc', hc0, hx, loopR_succ, loopOf, findLoop, firstRegion, Option.some_or, Option.none_or, Option.getD_some, Option.some.injEq, Try.f20, EVb, EVc, Int.reduceEq, Int.reduceToNat, Int.reduceLE, Int.reduceLT, Int.reduceAdd, Int.reduceMul, Int.reduceSub, Int.reduceNeg, Nat.reduceAdd, Nat.reduceSub, Nat.reduceMul, Nat.reduceLT, Nat.reduceBEq, Nat.reduceEqDiff, Nat.reduceLeDiff, FACTS, TYPES]
    rw [evalCode_drawn Try.f20 11 dr20_11]; rotate_left; rfl
    simp only [hc', hc0, hx, hw, EVd, Nat.reducePow, Nat.reduceDiv, Nat.reduceMod, EVb, EVc, Int.reduceEq, Int.reduceToNat, Int.reduceLE, Int.reduceLT, Int.reduceAdd, Int.reduceMul, Int.reduceSub, Int.reduceNeg, Nat.reduceAdd, Nat.reduceSub, Nat.reduceMul, Nat.reduceLT, Nat.reduceBEq, Nat.reduceEqDiff, Nat.reduceLeDiff, FACTS, TYPES]
    exact ⟨_, _, hc, rfl, (by rfl), (by rfl), (by rfl), rfl⟩
  · have hc' : ¬ ((i : Int) < outs.length) := by omega
    refine .inl ?_
    simp only [h2, h3, h6, hc', loopR_succ, loopOf, findLoop, firstRegion, Option.some_or, Option.none_or, Option.getD_some, Option.some.injEq, Try.f20, EVb, EVc, Int.reduceEq, Int.reduceToNat, Int.reduceLE, Int.reduceLT, Int.reduceAdd, Int.reduceMul, Int.reduceSub, Int.reduceNeg, Nat.reduceAdd, Nat.reduceSub, Nat.reduceMul, Nat.reduceLT, Nat.reduceBEq, Nat.reduceEqDiff, Nat.reduceLeDiff, FACTS, TYPES]
    exact ⟨_, _, rfl⟩
theorem rSame_ev (k : Nat) (p : Pg) (a1 a2 b1 b2 : Bool) (c1 c2 d1 d2 : Option Nat) (hl : p.code.length ≤ 4611686018427387904) (hl2 : p.outs.length ≤ 4611686018427387904) (hk : p.code.length + p.outs.length + 10 ≤ k) :
    run (k+1) 20 [aP p a1 c1 a2 c2, aP p b1 d1 b2 d2] = some (bb true) := by
  obtain ⟨ins, regs, code, outs⟩ := p
  simp only at hk hl hl2
  rw [run, ev20, ans_trim]
  simp only [Try.f20, aP, ii, bb, EVb, EVc, Int.reduceEq, Int.reduceToNat, Int.reduceLE, Int.reduceLT, Int.reduceAdd, Int.reduceMul, Int.reduceSub, Int.reduceNeg, Nat.reduceAdd, Nat.reduceSub, Nat.reduceMul, Nat.reduceLT, Nat.reduceBEq, Nat.reduceEqDiff, Nat.reduceLeDiff, FACTS, TYPES]
  rw [evalCode_loopB LB20_4 lp20_4]; rotate_left; rfl; rfl; rfl
  generalize hz : loopR _ _ _ _ _ _ _ _ _ _ _ _ = z
  obtain ⟨l', rfl, e2, e3⟩ := loop_rSame_4 k ins regs code a1 b1 c1 d1 (sI outs a2 c2) (sI outs b2 d2) hl _ _ z hz (by omega) (by rfl) (by rfl) (by rfl)
  clear hz
  simp only [e2, e3, EVb, EVc, Int.reduceEq, Int.reduceToNat, Int.reduceLE, Int.reduceLT, Int.reduceAdd, Int.reduceMul, Int.reduceSub, Int.reduceNeg, Nat.reduceAdd, Nat.reduceSub, Nat.reduceMul, Nat.reduceLT, Nat.reduceBEq, Nat.reduceEqDiff, Nat.reduceLeDiff, FACTS, TYPES]
  rw [evalCode_loopB LB20_9 lp20_9]; rotate_left; rfl; rfl; rfl
  generalize hz : loopR _ _ _ _ _ _ _ _ _ _ _ _ = z
  obtain ⟨l2, H2, rfl⟩ := loop_rSame_9 k ins regs outs a2 b2 c2 d2 (sC code a1 c1) (sC code b1 d1) hl2 _ _ z hz (by omega) (by exact e2) (by exact e3) (by rfl)
  simp only [EVb, EVc, Int.reduceEq, Int.reduceToNat, Int.reduceLE, Int.reduceLT, Int.reduceAdd, Int.reduceMul, Int.reduceSub, Int.reduceNeg, Nat.reduceAdd, Nat.reduceSub, Nat.reduceMul, Nat.reduceLT, Nat.reduceBEq, Nat.reduceEqDiff, Nat.reduceLeDiff, FACTS, TYPES]
theorem apO_start {e : TypeId} {sz by_ m s : Nat} {H : Heap} {cs : List IV} (hb : m * by_ ≤ Go.Ab.roomBytes) (hs : 0 < sz) (hH : H[s]? = some .slot) (hl : cs.length = m * sz) :
    apO e sz by_ (some s) (.c (.slice [] 0 true (some 0))) H (some (cs, m)) = some (lv s sz m, H.set s (lo e m cs)) := by
  rcases Nat.eq_zero_or_pos m with rfl | hm
  · rw [apO_zero, lv_zero, lo_zero]
    congr 2
    apply List.ext_getElem?
    intro i
    rw [List.getElem?_set]
    split
    · rename_i e; subst e; split
      · exact hH
      · rename_i hlt; rw [List.getElem?_eq_none (by omega)]
    · rfl
  · have := apO_lv (e := e) (sz := sz) (by_ := by_) (m := m) (n := 0) (s := s) (H := H) (cells := []) (cs := cs) hm (by rw [Nat.zero_add]; exact hb) hs hH (by simp)
    rw [Nat.zero_add, List.nil_append, lv_zero] at this
    exact this
theorem rCopy_ev (k : Nat) (p : Pg) (a1 a2 : Bool) (c1 c2 : Option Nat) (hl : p.code.length * 40 ≤ roomBytes) (hl2 : p.outs.length * 8 ≤ roomBytes) :
    run (k+1) 15 [aP p a1 c1 a2 c2] = some (aP p (nlE p.code) (cpE p.code) (nlE p.outs) (cpE p.outs)) := by
  obtain ⟨ins, regs, code, outs⟩ := p
  simp only at hl hl2
  rw [run, ev15, ans_trim]
  simp only [Try.f15, aP, ii, bb, EVb, EVc, Int.reduceEq, Int.reduceToNat, Int.reduceLE, Int.reduceLT, Int.reduceAdd, Int.reduceMul, Int.reduceSub, Int.reduceNeg, Nat.reduceAdd, Nat.reduceSub, Nat.reduceMul, Nat.reduceLT, Nat.reduceBEq, Nat.reduceEqDiff, Nat.reduceLeDiff, FACTS, TYPES]
  have hq := encCode_length code
  have hq2 := encInts_length outs
  have h1 : ∀ b c d e : AObj, apO 34 5 40 (some 0) (.c (.slice [] 0 true (some 0))) [.slot, b, c, d, e] (some (encCode code, code.length)) = some (lv 0 5 code.length, [lo 34 code.length (encCode code), b, c, d, e]) :=
    fun _ _ _ _ => apO_start hl (by decide) rfl hq
  have h2 : ∀ a c d e : AObj, apO 3 1 8 (some 1) (.c (.slice [] 0 true (some 0))) [a, .slot, c, d, e] (some (encInts outs, outs.length)) = some (lv 1 1 outs.length, [a, lo 3 outs.length (encInts outs), c, d, e]) :=
    fun _ _ _ _ => apO_start hl2 (by decide) rfl (by rw [hq2, Nat.mul_one])
  simp only [hq, hq2, h1, h2, EVb, EVc, Int.reduceEq, Int.reduceToNat, Int.reduceLE, Int.reduceLT, Int.reduceAdd, Int.reduceMul, Int.reduceSub, Int.reduceNeg, Nat.reduceAdd, Nat.reduceSub, Nat.reduceMul, Nat.reduceLT, Nat.reduceBEq, Nat.reduceEqDiff, Nat.reduceLeDiff, FACTS, TYPES]
  rcases Nat.eq_zero_or_pos code.length with hz | hz
  · rcases Nat.eq_zero_or_pos outs.length with hz2 | hz2
    · simp [hq, hq2, hz, hz2, nlE, cpE, sC, sI, EVb, EVc, Int.reduceEq, Int.reduceToNat, Int.reduceLE, Int.reduceLT, Int.reduceAdd, Int.reduceMul, Int.reduceSub, Int.reduceNeg, Nat.reduceAdd, Nat.reduceSub, Nat.reduceMul, Nat.reduceLT, Nat.reduceBEq, Nat.reduceEqDiff, Nat.reduceLeDiff, FACTS, TYPES]
    · have : outs.length ≠ 0 := by omega
      simp [hq, hq2, hz, this, nlE, cpE, sC, sI, EVb, EVc, Int.reduceEq, Int.reduceToNat, Int.reduceLE, Int.reduceLT, Int.reduceAdd, Int.reduceMul, Int.reduceSub, Int.reduceNeg, Nat.reduceAdd, Nat.reduceSub, Nat.reduceMul, Nat.reduceLT, Nat.reduceBEq, Nat.reduceEqDiff, Nat.reduceLeDiff, FACTS, TYPES]
  · have : code.length ≠ 0 := by omega
    rcases Nat.eq_zero_or_pos outs.length with hz2 | hz2
    · simp [hq, hq2, this, hz2, nlE, cpE, sC, sI, EVb, EVc, Int.reduceEq, Int.reduceToNat, Int.reduceLE, Int.reduceLT, Int.reduceAdd, Int.reduceMul, Int.reduceSub, Int.reduceNeg, Nat.reduceAdd, Nat.reduceSub, Nat.reduceMul, Nat.reduceLT, Nat.reduceBEq, Nat.reduceEqDiff, Nat.reduceLeDiff, FACTS, TYPES]
    · have h2 : outs.length ≠ 0 := by omega
      simp [hq, hq2, this, h2, nlE, cpE, sC, sI, EVb, EVc, Int.reduceEq, Int.reduceToNat, Int.reduceLE, Int.reduceLT, Int.reduceAdd, Int.reduceMul, Int.reduceSub, Int.reduceNeg, Nat.reduceAdd, Nat.reduceSub, Nat.reduceMul, Nat.reduceLT, Nat.reduceBEq, Nat.reduceEqDiff, Nat.reduceLeDiff, FACTS, TYPES]
end Go.Proofs.Sw
namespace Go.Proofs.Sw
set_option linter.unusedVariables false
set_option linter.unusedSimpArgs false
set_option linter.unusedSectionVars false
open Go.Ab
variable [Globals]
/-- What the reference asks of a register, going on from an instruction. -/
def needF (outs : List Int) (r : Int) : List Ins → List Bool → Bool
  | i :: rest, f :: fl => (f && (asks i).any (· == r)) || (!(decide (i.to = r)) && needF outs r rest fl)
  | _, _ => outs.any (· == r)
def needR (outs : List Int) : List Ins → List Bool
  | [] => []
  | i :: rest => needF outs i.to rest (needR outs rest) :: needR outs rest
theorem needR_length (outs : List Int) : ∀ c, (needR outs c).length = c.length
  | [] => rfl
  | i :: rest => by simp [needR, needR_length outs rest]
/-- A mark, and what else sets it. -/
def orA (acc f : Bool) (l : List Int) (r : Int) : Bool := acc || (f && l.any (· == r))
theorem orA_nil {acc f : Bool} {r : Int} : orA acc f [] r = acc := by simp [orA]
theorem orA_yes {acc f : Bool} {l : List Int} {r : Int} {i : Nat} (h : i < l.length) (hx : l[i] = r) : orA acc f (l.take (i + 1)) r = (orA acc f (l.take i) r || f) := by
  unfold orA
  rw [List.take_succ_eq_append_getElem h, List.any_append]
  simp only [List.any_cons, hx, beq_self_eq_true, List.any_nil, Bool.or_true, Bool.or_false]
  cases acc <;> cases f <;> simp
theorem orA_no {acc f : Bool} {l : List Int} {r : Int} {i : Nat} (h : i < l.length) (hx : l[i] ≠ r) : orA acc f (l.take (i + 1)) r = orA acc f (l.take i) r := by
  unfold orA
  rw [List.take_succ_eq_append_getElem h, List.any_append]
  simp only [List.any_cons, show (l[i] == r) = false by simpa using hx, List.any_nil, Bool.or_false]
theorem encB_of {l : List Bool} {j : Nat} {f : Bool} (h : j < l.length) (hf : l.getD j false = f) : (encB l)[j]? = some (.bool f) := by
  rw [← hf]; simp [encB, h]
theorem loop_rNeeded_12 (kf : Nat) (c0 : AObj) (B : List Bool) (n kk j : Nat) (r : Int) (acc f : Bool) (ls : List Int) (nl : Bool) (cap : Option Nat) (hl : ls.length ≤ 1000000) (hB : B.length = n) (hkk : kk < n) (hj : j < n) (hne : kk ≠ j) (hf : B.getD j false = f) (k : Nat) (l : Ass) (z : Option Out)
    (hz : loopR Try.prog tab kf none LB53_12 53 99 [1, 3, 4, 5, 7, 8, 9] 2 k l [c0, rB (B.set kk acc)] = z) (hk : ls.length < k)
    (h1 : asc l 1 = .ptr 0 0) (h3 : asc l 3 = .hsl 1 0 n n 1) (h4 : asc l 4 = ii kk) (h5 : asc l 5 = ii r) (h7 : asc l 7 = ii j) (h8 : asc l 8 = sI ls nl cap) (h9 : asc l 9 = ii (0 : Nat)) :
    ∃ l', z = some (.exit 4 (fr 99 l') [c0, rB (B.set kk (orA acc f ls r))]) ∧ asc l' 1 = .ptr 0 0 ∧ asc l' 3 = .hsl 1 0 n n 1 ∧ asc l' 4 = ii kk ∧ asc l' 5 = ii r ∧ asc l' 7 = ii j := by
  subst hz
  refine loop_nat ls.length (fun k l H => loopR Try.prog tab kf none LB53_12 53 99 [1, 3, 4, 5, 7, 8, 9] 2 k l H)
    (fun i l H => asc l 1 = .ptr 0 0 ∧ asc l 3 = .hsl 1 0 n n 1 ∧ asc l 4 = ii kk ∧ asc l 5 = ii r ∧ asc l 7 = ii j ∧ asc l 8 = sI ls nl cap ∧ asc l 9 = ii i ∧ H = [c0, rB (B.set kk (orA acc f (ls.take i) r))])
    (fun z => ∃ l', z = some (.exit 4 (fr 99 l') [c0, rB (B.set kk (orA acc f ls r))]) ∧ asc l' 1 = .ptr 0 0 ∧ asc l' 3 = .hsl 1 0 n n 1 ∧ asc l' 4 = ii kk ∧ asc l' 5 = ii r ∧ asc l' 7 = ii j) ?_ ls.length 0 k l _ (by omega) hk ⟨h1, h3, h4, h5, h7, h8, h9, by rw [List.take_zero, orA_nil]⟩
  clear h1 h3 h4 h5 h7 h8 h9 hk
  rintro i k l H hi ⟨h1, h3, h4, h5, h7, h8, h9, rfl⟩
  have ht : ∀ q : List Bool, trim 2 (fr 99 (keep l [1, 3, 4, 5, 7, 8, 9])) [c0, rB q] = [c0, rB q] := fun q => trim_same rfl
  by_cases hc : i < ls.length
  · refine .inr ?_
    have hc' : ((i : Int) < ls.length) := by omega
    have hc0 : (0 : Int) ≤ i := by omega
    have hx := encInts_get hc
    have hw := wrap_succ hc (by omega)
    obtain ⟨x, hX⟩ : ∃ x, x = ls[i] := ⟨_, rfl⟩
    rw [← hX] at hx
    have hyes := fun h : x = r => orA_yes (acc := acc) (f := f) hc (hX.symm.trans h)
    have hno := fun h : x ≠ r => orA_no (acc := acc) (f := f) hc (fun h' => h (hX.trans h'))
    obtain ⟨A, hA⟩ : ∃ A, A = orA acc f (ls.take i) r := ⟨_, rfl⟩
    rw [← hA] at hyes hno ⊢
    obtain ⟨A2, hA2⟩ : ∃ A, A = orA acc f (ls.take (i + 1)) r := ⟨_, rfl⟩
    rw [← hA2] at hyes hno ⊢
    have hk0 : (0 : Int) ≤ kk := by omega
    have hk1 : (kk : Int) < n := by omega
    have hj0 : (0 : Int) ≤ j := by omega
    have hj1 : (j : Int) < n := by omega
    have hel : (encB (B.set kk A)).length = n := by rw [encB_length, List.length_set, hB]
    have hg : (encB (B.set kk A))[j]? = some (.bool f) := encB_of (by simp; omega) (by rw [← hf]; simp [List.getElem?_set_ne hne])
    simp only [loopR_succ, ht]
    by_cases hxr : x = r
    · have he := hyes hxr
      clear hyes hno hA hA2
      cases hff : f with
      | true =>
        rw [hff] at hg he
        simp only [h1, h3, h4, h5, h7, h8, h9, hc', hc0, hx, hw, hxr, hg, hk0, hk1, hkk, hj0, hj1, hj, hel, encB_set, List.set_set, loopR_succ, loopOf, findLoop, firstRegion, Option.some_or, Option.none_or, Option.getD_some, Option.some.injEq, Try.f53, EVb, EVc, Int.reduceEq, Int.reduceToNat, Int.reduceLE, Int.reduceLT, Int.reduceAdd, Int.reduceMul, Int.reduceSub, Int.reduceNeg, Nat.reduceAdd, Nat.reduceSub, Nat.reduceMul, Nat.reduceLT, Nat.reduceBEq, Nat.reduceEqDiff, Nat.reduceLeDiff, FACTS, TYPES]
        exact ⟨_, _, hc, rfl, (by rfl), (by rfl), (by rfl), (by rfl), (by rfl), (by rfl), (by rfl), by rw [he, Bool.or_true]⟩
      | false =>
        rw [hff] at hg he
        simp only [h1, h3, h4, h5, h7, h8, h9, hc', hc0, hx, hw, hxr, hg, hk0, hk1, hkk, hj0, hj1, hj, hel, encB_set, List.set_set, loopR_succ, loopOf, findLoop, firstRegion, Option.some_or, Option.none_or, Option.getD_some, Option.some.injEq, Try.f53, EVb, EVc, Int.reduceEq, Int.reduceToNat, Int.reduceLE, Int.reduceLT, Int.reduceAdd, Int.reduceMul, Int.reduceSub, Int.reduceNeg, Nat.reduceAdd, Nat.reduceSub, Nat.reduceMul, Nat.reduceLT, Nat.reduceBEq, Nat.reduceEqDiff, Nat.reduceLeDiff, FACTS, TYPES]
        exact ⟨_, _, hc, rfl, (by rfl), (by rfl), (by rfl), (by rfl), (by rfl), (by rfl), (by rfl), by rw [he, Bool.or_false]⟩
    · have he := hno hxr
      simp only [h1, h3, h4, h5, h7, h8, h9, hc', hc0, hx, hw, hxr, hk0, hk1, hkk, hj0, hj1, hj, hel, loopR_succ, loopOf, findLoop, firstRegion, Option.some_or, Option.none_or, Option.getD_some, Option.some.injEq, Try.f53, EVb, EVc, Int.reduceEq, Int.reduceToNat, Int.reduceLE, Int.reduceLT, Int.reduceAdd, Int.reduceMul, Int.reduceSub, Int.reduceNeg, Nat.reduceAdd, Nat.reduceSub, Nat.reduceMul, Nat.reduceLT, Nat.reduceBEq, Nat.reduceEqDiff, Nat.reduceLeDiff, FACTS, TYPES]
      exact ⟨_, _, hc, rfl, (by rfl), (by rfl), (by rfl), (by rfl), (by rfl), (by rfl), (by rfl), by rw [he]⟩
  · have hc' : ¬ ((i : Int) < ls.length) := by omega
    have he : ls.take i = ls := List.take_of_length_le (by omega)
    refine .inl ?_
    simp only [loopR_succ, ht]
    simp only [h1, h3, h4, h5, h7, h8, h9, hc', he, loopR_succ, loopOf, findLoop, firstRegion, Option.some_or, Option.none_or, Option.getD_some, Option.some.injEq, Try.f53, EVb, EVc, Int.reduceEq, Int.reduceToNat, Int.reduceLE, Int.reduceLT, Int.reduceAdd, Int.reduceMul, Int.reduceSub, Int.reduceNeg, Nat.reduceAdd, Nat.reduceSub, Nat.reduceMul, Nat.reduceLT, Nat.reduceBEq, Nat.reduceEqDiff, Nat.reduceLeDiff, FACTS, TYPES]
    exact ⟨_, rfl, (by rfl), (by rfl), (by rfl), (by rfl), (by rfl)⟩
theorem loop_rNeeded_18 (kf : Nat) (ins regs : Int) (cv : AV) (B : List Bool) (n kk : Nat) (r : Int) (acc over : Bool) (outs : List Int) (nl : Bool) (cap : Option Nat) (hl : outs.length ≤ 1000000) (hB : B.length = n) (hkk : kk < n) (k : Nat) (l : Ass) (z : Option Out)
    (hz : loopR Try.prog tab kf none LB53_18 53 99 [1, 3, 4, 5, 6, 10] 2 k l [cP ins regs cv (sI outs nl cap), rB (B.set kk acc)] = z) (hk : outs.length < k)
    (h1 : asc l 1 = .ptr 0 0) (h3 : asc l 3 = .hsl 1 0 n n 1) (h4 : asc l 4 = ii kk) (h5 : asc l 5 = ii r) (h6 : asc l 6 = bb over) (h10 : asc l 10 = ii (0 : Nat)) :
    ∃ l', z = some (.exit 6 (fr 99 l') [cP ins regs cv (sI outs nl cap), rB (B.set kk (orA acc (!over) outs r))]) ∧ asc l' 1 = .ptr 0 0 ∧ asc l' 3 = .hsl 1 0 n n 1 ∧ asc l' 4 = ii kk := by
  subst hz
  refine loop_nat outs.length (fun k l H => loopR Try.prog tab kf none LB53_18 53 99 [1, 3, 4, 5, 6, 10] 2 k l H)
    (fun i l H => asc l 1 = .ptr 0 0 ∧ asc l 3 = .hsl 1 0 n n 1 ∧ asc l 4 = ii kk ∧ asc l 5 = ii r ∧ asc l 6 = bb over ∧ asc l 10 = ii i ∧ H = [cP ins regs cv (sI outs nl cap), rB (B.set kk (orA acc (!over) (outs.take i) r))])
    (fun z => ∃ l', z = some (.exit 6 (fr 99 l') [cP ins regs cv (sI outs nl cap), rB (B.set kk (orA acc (!over) outs r))]) ∧ asc l' 1 = .ptr 0 0 ∧ asc l' 3 = .hsl 1 0 n n 1 ∧ asc l' 4 = ii kk) ?_ outs.length 0 k l _ (by omega) hk ⟨h1, h3, h4, h5, h6, h10, by rw [List.take_zero, orA_nil]⟩
  clear h1 h3 h4 h5 h6 h10 hk
  rintro i k l H hi ⟨h1, h3, h4, h5, h6, h10, rfl⟩
  have ht : ∀ (a : AObj) (q : List Bool), trim 2 (fr 99 (keep l [1, 3, 4, 5, 6, 10])) [a, rB q] = [a, rB q] := fun a q => trim_same rfl
  by_cases hc : i < outs.length
  · have hc' : ((i : Int) < outs.length) := by omega
    have hc0 : (0 : Int) ≤ i := by omega
    have hx := encInts_get hc
    have hw := wrap_succ hc (by omega)
    obtain ⟨x, hX⟩ : ∃ x, x = outs[i] := ⟨_, rfl⟩
    rw [← hX] at hx
    have hyes := fun h : x = r => orA_yes (acc := acc) (f := !over) hc (hX.symm.trans h)
    have hno := fun h : x ≠ r => orA_no (acc := acc) (f := !over) hc (fun h' => h (hX.trans h'))
    obtain ⟨A, hA⟩ : ∃ A, A = orA acc (!over) (outs.take i) r := ⟨_, rfl⟩
    rw [← hA] at hyes hno
    by_cases hov : over = true
    · have hA' : A = orA acc (!over) outs r := by rw [hA, hov]; simp [orA]
      refine .inl ?_
      have h6' : asc l 6 = bb true := by rw [h6, hov]
      rw [← hA, ← hA']
      simp only [loopR_succ, ht]
      simp only [h1, h3, h4, h5, h6', h10, hc', loopR_succ, loopOf, findLoop, firstRegion, Option.some_or, Option.none_or, Option.getD_some, Option.some.injEq, Try.f53, EVb, EVc, Int.reduceEq, Int.reduceToNat, Int.reduceLE, Int.reduceLT, Int.reduceAdd, Int.reduceMul, Int.reduceSub, Int.reduceNeg, Nat.reduceAdd, Nat.reduceSub, Nat.reduceMul, Nat.reduceLT, Nat.reduceBEq, Nat.reduceEqDiff, Nat.reduceLeDiff, FACTS, TYPES]
      exact ⟨_, rfl, (by rfl), (by rfl), (by rfl)⟩
    · refine .inr ?_
      have hov' : over = false := by simpa using hov
      have h6' : asc l 6 = bb false := by rw [h6, hov']
      obtain ⟨A2, hA2⟩ : ∃ A, A = orA acc (!over) (outs.take (i + 1)) r := ⟨_, rfl⟩
      rw [← hA2] at hyes hno ⊢
      rw [← hA]
      have hk0 : (0 : Int) ≤ kk := by omega
      have hk1 : (kk : Int) < n := by omega
      have hel : (encB (B.set kk A)).length = n := by rw [encB_length, List.length_set, hB]
      simp only [loopR_succ, ht]
      by_cases hxr : x = r
      · have he := hyes hxr
        rw [hov', Bool.not_false, Bool.or_true] at he
        simp only [h1, h3, h4, h5, h6', h10, hc', hc0, hx, hw, hxr, hk0, hk1, hkk, hel, encB_set, List.set_set, loopR_succ, loopOf, findLoop, firstRegion, Option.some_or, Option.none_or, Option.getD_some, Option.some.injEq, Try.f53, EVb, EVc, Int.reduceEq, Int.reduceToNat, Int.reduceLE, Int.reduceLT, Int.reduceAdd, Int.reduceMul, Int.reduceSub, Int.reduceNeg, Nat.reduceAdd, Nat.reduceSub, Nat.reduceMul, Nat.reduceLT, Nat.reduceBEq, Nat.reduceEqDiff, Nat.reduceLeDiff, FACTS, TYPES]
        exact ⟨_, _, hc, rfl, (by rfl), (by rfl), (by rfl), (by rfl), (by rw [hov']; rfl), (by rfl), by rw [he]⟩
      · have he := hno hxr
        simp only [h1, h3, h4, h5, h6', h10, hc', hc0, hx, hw, hxr, hk0, hk1, hkk, hel, loopR_succ, loopOf, findLoop, firstRegion, Option.some_or, Option.none_or, Option.getD_some, Option.some.injEq, Try.f53, EVb, EVc, Int.reduceEq, Int.reduceToNat, Int.reduceLE, Int.reduceLT, Int.reduceAdd, Int.reduceMul, Int.reduceSub, Int.reduceNeg, Nat.reduceAdd, Nat.reduceSub, Nat.reduceMul, Nat.reduceLT, Nat.reduceBEq, Nat.reduceEqDiff, Nat.reduceLeDiff, FACTS, TYPES]
        exact ⟨_, _, hc, rfl, (by rfl), (by rfl), (by rfl), (by rfl), (by rw [hov']; rfl), (by rfl), by rw [he]⟩
  · have hc' : ¬ ((i : Int) < outs.length) := by omega
    have he : outs.take i = outs := List.take_of_length_le (by omega)
    refine .inl ?_
    simp only [loopR_succ, ht]
    simp only [h1, h3, h4, h5, h6, h10, hc', he, loopR_succ, loopOf, findLoop, firstRegion, Option.some_or, Option.none_or, Option.getD_some, Option.some.injEq, Try.f53, EVb, EVc, Int.reduceEq, Int.reduceToNat, Int.reduceLE, Int.reduceLT, Int.reduceAdd, Int.reduceMul, Int.reduceSub, Int.reduceNeg, Nat.reduceAdd, Nat.reduceSub, Nat.reduceMul, Nat.reduceLT, Nat.reduceBEq, Nat.reduceEqDiff, Nat.reduceLeDiff, FACTS, TYPES]
    exact ⟨_, rfl, (by rfl), (by rfl), (by rfl)⟩
end Go.Proofs.Sw
namespace Go.Proofs.Sw
set_option linter.unusedVariables false
set_option linter.unusedSimpArgs false
set_option linter.unusedSectionVars false
open Go.Ab
variable [Globals]
theorem encCode_to {l : List Ins} {i : Nat} (h : i < l.length) : (encCode l)[i * 5 + 1]? = some (.int .i64 l[i].to) := by
  rw [← List.getElem?_drop, encCode_drop, List.drop_eq_getElem_cons h, encCode]
  simp
theorem asks_len (x : Ins) : (asks x).length ≤ 2 := by unfold asks; split <;> (try split) <;> simp
theorem getD_lt {B : List Bool} {j : Nat} (h : j < B.length) : B.getD j false = B[j] := by simp [h]
theorem needF_step {outs : List Int} {r : Int} {code : List Ins} {B : List Bool} {j : Nat} (h : j < code.length) (h2 : j < B.length) :
    needF outs r (code.drop j) (B.drop j) = ((B[j] && (asks code[j]).any (· == r)) || (!(decide (code[j].to = r)) && needF outs r (code.drop (j + 1)) (B.drop (j + 1)))) := by
  rw [List.drop_eq_getElem_cons h, List.drop_eq_getElem_cons h2, needF]
theorem loop_rNeeded_8 (kf : Nat) (hkf : 1 ≤ kf) (ins regs : Int) (code : List Ins) (nl : Bool) (cap : Option Nat) (ov : AV) (B : List Bool) (kk : Nat) (r : Int) (outs : List Int) (hl : code.length ≤ 1000000) (hB : B.length = code.length) (hkk : kk < code.length) (k : Nat) (l : Ass) (z : Option Out)
    (hz : loopR Try.prog tab kf none LB53_8 53 99 [1, 3, 4, 5, 6, 7] 2 k l [cP ins regs (sC code nl cap) ov, rB (B.set kk false)] = z) (hk : code.length + 5 < k) (hkf2 : 5 ≤ kf)
    (h1 : asc l 1 = .ptr 0 0) (h3 : asc l 3 = .hsl 1 0 code.length code.length 1) (h4 : asc l 4 = ii kk) (h5 : asc l 5 = ii r) (h6 : asc l 6 = bb false) (h7 : asc l 7 = ii ((kk + 1 : Nat) : Int)) :
    ∃ l' over acc, z = some (.exit 2 (fr 99 l') [cP ins regs (sC code nl cap) ov, rB (B.set kk acc)]) ∧ asc l' 1 = .ptr 0 0 ∧ asc l' 3 = .hsl 1 0 code.length code.length 1 ∧ asc l' 4 = ii kk ∧ asc l' 5 = ii r ∧ asc l' 6 = bb over ∧
      orA acc (!over) outs r = needF outs r (code.drop (kk + 1)) (B.drop (kk + 1)) := by
  subst hz
  obtain ⟨T, hT⟩ : ∃ T, T = needF outs r (code.drop (kk + 1)) (B.drop (kk + 1)) := ⟨_, rfl⟩
  rw [← hT]
  obtain ⟨kf, rfl⟩ : ∃ j, kf = j + 1 := ⟨kf - 1, by omega⟩
  refine loop_nat (code.length - (kk + 1)) (fun k l H => loopR Try.prog tab (kf + 1) none LB53_8 53 99 [1, 3, 4, 5, 6, 7] 2 k l H)
    (fun i l H => ∃ over acc, asc l 1 = .ptr 0 0 ∧ asc l 3 = .hsl 1 0 code.length code.length 1 ∧ asc l 4 = ii kk ∧ asc l 5 = ii r ∧ asc l 6 = bb over ∧ asc l 7 = ii ((kk + 1 + i : Nat) : Int) ∧ H = [cP ins regs (sC code nl cap) ov, rB (B.set kk acc)] ∧ T = (acc || (!over && needF outs r (code.drop (kk + 1 + i)) (B.drop (kk + 1 + i)))))
    (fun z => ∃ l' over acc, z = some (.exit 2 (fr 99 l') [cP ins regs (sC code nl cap) ov, rB (B.set kk acc)]) ∧ asc l' 1 = .ptr 0 0 ∧ asc l' 3 = .hsl 1 0 code.length code.length 1 ∧ asc l' 4 = ii kk ∧ asc l' 5 = ii r ∧ asc l' 6 = bb over ∧
      orA acc (!over) outs r = T) ?_ (code.length - (kk + 1)) 0 k l _ (by omega) (by omega) ⟨false, false, h1, h3, h4, h5, h6, h7, rfl, by simp [hT]⟩
  clear h1 h3 h4 h5 h6 h7 hk
  rintro i k l H hi ⟨over, acc, h1, h3, h4, h5, h6, h7, rfl, hI⟩
  have ht : ∀ (a : AObj) (q : List Bool), trim 2 (fr 99 (keep l [1, 3, 4, 5, 6, 7])) [a, rB q] = [a, rB q] := fun a q => trim_same rfl
  obtain ⟨j, hj⟩ : ∃ j, j = kk + 1 + i := ⟨_, rfl⟩
  rw [← hj] at h7 hI
  by_cases hov : over = true
  · refine .inl ?_
    subst hov
    have hA : orA acc (!true) outs r = T := by rw [hI]; simp [orA]
    by_cases hc : j < code.length
    · have hc' : ((j : Int) < code.length) := by omega
      simp only [loopR_succ, ht]
      simp only [h1, h3, h4, h5, h6, h7, hc', loopR_succ, loopOf, findLoop, firstRegion, Option.some_or, Option.none_or, Option.getD_some, Option.some.injEq, Try.f53, EVb, EVc, Int.reduceEq, Int.reduceToNat, Int.reduceLE, Int.reduceLT, Int.reduceAdd, Int.reduceMul, Int.reduceSub, Int.reduceNeg, Nat.reduceAdd, Nat.reduceSub, Nat.reduceMul, Nat.reduceLT, Nat.reduceBEq, Nat.reduceEqDiff, Nat.reduceLeDiff, FACTS, TYPES]
      exact ⟨_, true, acc, rfl, (by rfl), (by rfl), (by rfl), (by rfl), (by rfl), hA⟩
    · have hc' : ¬ ((j : Int) < code.length) := by omega
      simp only [loopR_succ, ht]
      simp only [h1, h3, h4, h5, h6, h7, hc', loopR_succ, loopOf, findLoop, firstRegion, Option.some_or, Option.none_or, Option.getD_some, Option.some.injEq, Try.f53, EVb, EVc, Int.reduceEq, Int.reduceToNat, Int.reduceLE, Int.reduceLT, Int.reduceAdd, Int.reduceMul, Int.reduceSub, Int.reduceNeg, Nat.reduceAdd, Nat.reduceSub, Nat.reduceMul, Nat.reduceLT, Nat.reduceBEq, Nat.reduceEqDiff, Nat.reduceLeDiff, FACTS, TYPES]
      exact ⟨_, true, acc, rfl, (by rfl), (by rfl), (by rfl), (by rfl), (by rfl), hA⟩
  · have hov' : over = false := by simpa using hov
    subst hov'
    clear hov
    by_cases hc : j < code.length
    · refine .inr ?_
      have hc' : ((j : Int) < code.length) := by omega
      have hc0 : (0 : Int) ≤ j := by omega
      have hx := encCode_get hc
      have hw := wrap_succ hc (by omega)
      have hto := encCode_to hc
      rw [needF_step hc (by omega)] at hI
      have hgd := getD_lt (B := B) (j := j) (by omega)
      obtain ⟨x, hX⟩ : ∃ x, x = code[j] := ⟨_, rfl⟩
      obtain ⟨f, hF⟩ : ∃ f, f = B[j] := ⟨_, rfl⟩
      rw [← hX] at hx hI hto
      rw [← hF] at hI hgd
      have hA := rAsks_ev kf x.op x.to x.a x.b x.c
      simp only [run, aI, ii] at hA
      have hal := asks_len x
      simp only [loopR_succ, ht]
      simp only [h1, h3, h4, h5, h6, h7, hc', hc0, hx, hA, hw, loopR_succ, loopOf, findLoop, firstRegion, Option.some_or, Option.none_or, Option.getD_some, Option.some.injEq, Try.f53, EVb, EVc, Int.reduceEq, Int.reduceToNat, Int.reduceLE, Int.reduceLT, Int.reduceAdd, Int.reduceMul, Int.reduceSub, Int.reduceNeg, Nat.reduceAdd, Nat.reduceSub, Nat.reduceMul, Nat.reduceLT, Nat.reduceBEq, Nat.reduceEqDiff, Nat.reduceLeDiff, FACTS, TYPES]
      rw [evalCode_loopB LB53_12 lp53_12]; rotate_left; rfl; rfl; rfl
      generalize hz : loopR _ _ _ _ _ _ _ _ _ _ _ _ = z
      obtain ⟨l2, rfl, e1, e3, e4, e5, e7⟩ := loop_rNeeded_12 (kf + 1) _ B code.length kk j r acc f (asks x) (nlE (asks x)) (cpE (asks x)) (by omega) hB hkk hc (by omega) hgd _ _ z hz (by omega) (by rfl) (by rfl) (by rfl) (by rfl) (by rfl) (by rfl) (by rfl)
      clear hz
      simp only [e1, e3, e4, e5, e7, hc', hc0, hx, hw, hto, EVb, EVc, Int.reduceEq, Int.reduceToNat, Int.reduceLE, Int.reduceLT, Int.reduceAdd, Int.reduceMul, Int.reduceSub, Int.reduceNeg, Nat.reduceAdd, Nat.reduceSub, Nat.reduceMul, Nat.reduceLT, Nat.reduceBEq, Nat.reduceEqDiff, Nat.reduceLeDiff, FACTS, TYPES]
      refine ⟨_, _, by omega, rfl, decide (x.to = r), orA acc f (asks x) r, (by exact e1), (by exact e3), (by exact e4), (by exact e5), (by rfl), (by rw [show kk + 1 + (i + 1) = j + 1 by omega]; rfl), rfl, ?_⟩
      rw [show kk + 1 + (i + 1) = j + 1 by omega, hI]
      unfold orA
      cases acc <;> simp
    · refine .inl ?_
      have hc' : ¬ ((j : Int) < code.length) := by omega
      have hA : orA acc (!false) outs r = T := by
        rw [hI, List.drop_eq_nil_of_le (by omega)]; simp [orA, needF]
      simp only [loopR_succ, ht]
      simp only [h1, h3, h4, h5, h6, h7, hc', loopR_succ, loopOf, findLoop, firstRegion, Option.some_or, Option.none_or, Option.getD_some, Option.some.injEq, Try.f53, EVb, EVc, Int.reduceEq, Int.reduceToNat, Int.reduceLE, Int.reduceLT, Int.reduceAdd, Int.reduceMul, Int.reduceSub, Int.reduceNeg, Nat.reduceAdd, Nat.reduceSub, Nat.reduceMul, Nat.reduceLT, Nat.reduceBEq, Nat.reduceEqDiff, Nat.reduceLeDiff, FACTS, TYPES]
      exact ⟨_, false, acc, rfl, (by rfl), (by rfl), (by rfl), (by rfl), (by rfl), hA⟩
end Go.Proofs.Sw
namespace Go.Proofs.Sw
set_option linter.unusedVariables false
set_option linter.unusedSimpArgs false
set_option linter.unusedSectionVars false
open Go.Ab
variable [Globals]
theorem rep_set2 (kk : Nat) (b : Bool) (F : List Bool) : (List.replicate (kk + 1) false ++ F).set kk b = List.replicate kk false ++ b :: F := by
  rw [List.replicate_succ', List.append_assoc, List.set_append_right _ _ (by simp)]
  simp
theorem loop_rNeeded_3 (kf : Nat) (ins regs : Int) (code : List Ins) (nl nl2 : Bool) (cap cap2 : Option Nat) (outs : List Int) (hl : code.length ≤ 1000000) (hl2 : outs.length ≤ 1000000) (hkf : code.length + outs.length + 20 ≤ kf) (k : Nat) (l : Ass) (z : Option Out)
    (hz : loopR Try.prog tab kf none LB53_3 53 99 [1, 3, 4] 2 k l [cP ins regs (sC code nl cap) (sI outs nl2 cap2), rB (List.replicate code.length false)] = z) (hk : code.length < k)
    (h1 : asc l 1 = .ptr 0 0) (h3 : asc l 3 = .hsl 1 0 code.length code.length 1) (h4 : asc l 4 = ii ((code.length : Int) - 1 - ((0 : Nat) : Int))) :
    ∃ l', z = some (.exit 0 (fr 99 l') [cP ins regs (sC code nl cap) (sI outs nl2 cap2), rB (needR outs code)]) ∧ asc l' 3 = .hsl 1 0 code.length code.length 1 := by
  subst hz
  refine loop_nat code.length (fun k l H => loopR Try.prog tab kf none LB53_3 53 99 [1, 3, 4] 2 k l H)
    (fun i l H => asc l 1 = .ptr 0 0 ∧ asc l 3 = .hsl 1 0 code.length code.length 1 ∧ asc l 4 = ii ((code.length : Int) - 1 - (i : Int)) ∧ H = [cP ins regs (sC code nl cap) (sI outs nl2 cap2), rB (List.replicate (code.length - i) false ++ needR outs (code.drop (code.length - i)))])
    (fun z => ∃ l', z = some (.exit 0 (fr 99 l') [cP ins regs (sC code nl cap) (sI outs nl2 cap2), rB (needR outs code)]) ∧ asc l' 3 = .hsl 1 0 code.length code.length 1) ?_ code.length 0 k l _ (by omega) (by omega) ⟨h1, h3, h4, by simp [needR]⟩
  clear h1 h3 h4 hk
  rintro i k l H hi ⟨h1, h3, h4, rfl⟩
  have ht : ∀ (a : AObj) (q : List Bool), trim 2 (fr 99 (keep l [1, 3, 4])) [a, rB q] = [a, rB q] := fun a q => trim_same rfl
  by_cases hc : i < code.length
  · refine .inr ?_
    obtain ⟨kk, hkk⟩ : ∃ kk, code.length = kk + 1 + i := ⟨code.length - 1 - i, by omega⟩
    have e1 : code.length - i = kk + 1 := by omega
    have e2 : code.length - (i + 1) = kk := by omega
    have e3 : (code.length : Int) - 1 - (i : Int) = (kk : Int) := by omega
    have e4 : (code.length : Int) - 1 - ((i + 1 : Nat) : Int) = (kk : Int) - 1 := by omega
    rw [e3] at h4
    rw [e1, e2, e4]
    have hcc : kk < code.length := by omega
    have hc' : ((kk : Int) < code.length) := by omega
    have hc0 : (0 : Int) ≤ kk := by omega
    have hto := encCode_to hcc
    have hw : IntKind.wrap .i64 ((kk : Int) + 1) = ((kk + 1 : Nat) : Int) := wrap_succ hcc (by omega)
    have hw2 : IntKind.wrap .i64 ((kk : Int) - 1) = (kk : Int) - 1 := wrap64 (by omega) (by omega)
    have hnr : needR outs (code.drop kk) = needF outs code[kk].to (code.drop (kk + 1)) (needR outs (code.drop (kk + 1))) :: needR outs (code.drop (kk + 1)) := by
      rw [List.drop_eq_getElem_cons hcc, needR]
    obtain ⟨F, hF⟩ : ∃ F, F = needR outs (code.drop (kk + 1)) := ⟨_, rfl⟩
    have hFl : F.length = i := by rw [hF, needR_length]; simp; omega
    obtain ⟨B, hB⟩ : ∃ B, B = List.replicate (kk + 1) false ++ F := ⟨_, rfl⟩
    have hBl : B.length = code.length := by rw [hB]; simp [hFl]; omega
    have hBd : B.drop (kk + 1) = F := by rw [hB]; rw [List.drop_left' (by simp)]
    have hBs : ∀ b, B.set kk b = List.replicate kk false ++ b :: F := fun b => by rw [hB, rep_set2]
    have hB0 : B = B.set kk false := by rw [hBs, hB, List.replicate_succ', List.append_assoc]; rfl
    rw [← hF] at hnr
    rw [← hF, ← hB, hnr]
    obtain ⟨x, hX⟩ : ∃ x, x = code[kk] := ⟨_, rfl⟩
    rw [← hX] at hto ⊢
    simp only [loopR_succ, ht]
    rw [hB0]
    simp only [h1, h3, h4, hc', hc0, hto, hw, loopR_succ, loopOf, findLoop, firstRegion, Option.some_or, Option.none_or, Option.getD_some, Option.some.injEq, Try.f53, EVb, EVc, Int.reduceEq, Int.reduceToNat, Int.reduceLE, Int.reduceLT, Int.reduceAdd, Int.reduceMul, Int.reduceSub, Int.reduceNeg, Nat.reduceAdd, Nat.reduceSub, Nat.reduceMul, Nat.reduceLT, Nat.reduceBEq, Nat.reduceEqDiff, Nat.reduceLeDiff, FACTS, TYPES]
    rw [evalCode_loopB LB53_8 lp53_8]; rotate_left; rfl; rfl; rfl
    generalize hz : loopR _ _ _ _ _ _ _ _ _ _ _ _ = z
    obtain ⟨l2, over, acc, rfl, g1, g3, g4, g5, g6, hT⟩ := loop_rNeeded_8 kf (by omega) ins regs code nl cap (sI outs nl2 cap2) B kk x.to outs hl hBl hcc _ _ z hz (by omega) (by omega) (by rfl) (by rfl) (by rfl) (by rfl) (by rfl) (by rfl)
    clear hz
    rw [hBd] at hT
    simp only [g1, g3, g4, g5, g6, EVb, EVc, Int.reduceEq, Int.reduceToNat, Int.reduceLE, Int.reduceLT, Int.reduceAdd, Int.reduceMul, Int.reduceSub, Int.reduceNeg, Nat.reduceAdd, Nat.reduceSub, Nat.reduceMul, Nat.reduceLT, Nat.reduceBEq, Nat.reduceEqDiff, Nat.reduceLeDiff, FACTS, TYPES]
    rw [evalCode_loopB LB53_18 lp53_18]; rotate_left; rfl; rfl; rfl
    generalize hz : loopR _ _ _ _ _ _ _ _ _ _ _ _ = z
    obtain ⟨l3, rfl, q1, q3, q4⟩ := loop_rNeeded_18 kf ins regs (sC code nl cap) B code.length kk x.to acc over outs nl2 cap2 hl2 hBl hcc _ _ z hz (by omega) (by exact g1) (by exact g3) (by exact g4) (by exact g5) (by exact g6) (by rfl)
    clear hz
    simp only [q1, q3, q4, hw2, EVb, EVc, Int.reduceEq, Int.reduceToNat, Int.reduceLE, Int.reduceLT, Int.reduceAdd, Int.reduceMul, Int.reduceSub, Int.reduceNeg, Nat.reduceAdd, Nat.reduceSub, Nat.reduceMul, Nat.reduceLT, Nat.reduceBEq, Nat.reduceEqDiff, Nat.reduceLeDiff, FACTS, TYPES]
    refine ⟨_, _, by omega, rfl, (by exact q1), (by exact q3), (by rfl), ?_⟩
    rw [hT, hBs]
  · refine .inl ?_
    obtain rfl : i = code.length := by omega
    have hc' : ¬ ((0 : Int) ≤ (code.length : Int) - 1 - code.length) := by omega
    simp only [Nat.sub_self, List.drop_zero, List.replicate_zero, List.nil_append]
    simp only [loopR_succ, ht]
    simp only [h1, h3, h4, hc', loopR_succ, loopOf, findLoop, firstRegion, Option.some_or, Option.none_or, Option.getD_some, Option.some.injEq, Try.f53, EVb, EVc, Int.reduceEq, Int.reduceToNat, Int.reduceLE, Int.reduceLT, Int.reduceAdd, Int.reduceMul, Int.reduceSub, Int.reduceNeg, Nat.reduceAdd, Nat.reduceSub, Nat.reduceMul, Nat.reduceLT, Nat.reduceBEq, Nat.reduceEqDiff, Nat.reduceLeDiff, FACTS, TYPES]
    exact ⟨_, rfl, (by rfl)⟩
theorem rNeededR_ev (k : Nat) (p : Pg) (nl : Bool) (cap : Option Nat) (nl2 : Bool) (cap2 : Option Nat) (hl : p.code.length ≤ 1000000) (hl2 : p.outs.length ≤ 1000000) (hk : p.code.length + p.outs.length + 20 ≤ k) :
    run (k+1) 53 [aP p nl cap nl2 cap2] = some (sB (needR p.outs p.code) false none) := by
  obtain ⟨ins, regs, code, outs⟩ := p
  simp only at hk hl hl2
  rw [run, ev53, ans_trim]
  have hw : IntKind.wrap .i64 ((code.length : Int) - 1) = (code.length : Int) - 1 := wrap64 (by omega) (by omega)
  have hr := encB_rep code.length
  have hrl := needR_length outs code
  have hrb : code.length ≤ roomBytes := Nat.le_trans hl (by decide)
  have h00 : (0 : Int) ≤ code.length := by omega
  simp only [Try.f53, aP, ii, bb, hw, hr, hrb, h00, EVb, EVc, Int.reduceEq, Int.reduceToNat, Int.reduceLE, Int.reduceLT, Int.reduceAdd, Int.reduceMul, Int.reduceSub, Int.reduceNeg, Nat.reduceAdd, Nat.reduceSub, Nat.reduceMul, Nat.reduceLT, Nat.reduceBEq, Nat.reduceEqDiff, Nat.reduceLeDiff, FACTS, TYPES]
  rw [evalCode_loopB LB53_3 lp53_3]; rotate_left; rfl; rfl; rfl
  generalize hz : loopR _ _ _ _ _ _ _ _ _ _ _ _ = z
  obtain ⟨l', rfl, e3⟩ := loop_rNeeded_3 k ins regs code nl nl2 cap cap2 outs hl hl2 hk _ _ z hz (by omega) (by rfl) (by rfl) (by rw [show (code.length : Int) - 1 - ((0 : Nat) : Int) = (code.length : Int) - 1 by omega]; rfl)
  clear hz
  have hel : (encB (needR outs code)).length = code.length := by rw [encB_length, hrl]
  have htk : (encB (needR outs code)).take code.length = encB (needR outs code) := by rw [← hel, List.take_length]
  simp only [e3, hel, hrl, htk, Nat.le_refl, sB, EVb, EVc, Int.reduceEq, Int.reduceToNat, Int.reduceLE, Int.reduceLT, Int.reduceAdd, Int.reduceMul, Int.reduceSub, Int.reduceNeg, Nat.reduceAdd, Nat.reduceSub, Nat.reduceMul, Nat.reduceLT, Nat.reduceBEq, Nat.reduceEqDiff, Nat.reduceLeDiff, FACTS, TYPES]
end Go.Proofs.Sw
namespace Go.Proofs.Sw
set_option linter.unusedVariables false
set_option linter.unusedSimpArgs false
set_option linter.unusedSectionVars false
open Go.Ab
variable [Globals]
theorem may_asks {x : Ins} {n : Nat} (h : mayM x n = true) : (0 ≤ x.to ∧ x.to < (n : Int)) ∧ ∀ r ∈ asks x, 0 ≤ r ∧ r < (n : Int) := by
  have hm := h
  simp only [mayM, Bool.and_eq_true, decide_eq_true_eq] at hm
  refine ⟨by omega, fun r hr => ?_⟩
  unfold asks at hr
  split at hr
  · rcases List.mem_cons.1 hr with rfl | hr
    · omega
    · rcases List.mem_cons.1 hr with rfl | hr
      · omega
      · cases hr
  · split at hr
    · rcases List.mem_cons.1 hr with rfl | hr
      · omega
      · cases hr
    · cases hr
theorem any_toNat {n : Nat} {r : Int} (h0 : 0 ≤ r) : ∀ ls : List Int, (∀ a ∈ ls, 0 ≤ a ∧ a < (n : Int)) → (ls.any fun a => a.toNat == r.toNat) = ls.any (· == r)
  | [], _ => rfl
  | a :: ls, h => by
    obtain ⟨g, _⟩ := h a (by simp)
    rw [List.any_cons, List.any_cons, any_toNat h0 ls fun b hb => h b (by simp [hb])]
    congr 1
    rw [Bool.eq_iff_iff]
    simp only [beq_iff_eq]
    omega
theorem asked0_get {n : Nat} {outs : List Int} (ho : ∀ r ∈ outs, 0 ≤ r ∧ r < (n : Int)) {r : Int} (h0 : 0 ≤ r) (h1 : r < n) : (asked0 n outs).getD r.toNat false = outs.any (· == r) := by
  unfold asked0
  rw [mark_getD _ _ _ _ (by simp; omega), any_toNat (n := n) h0 outs ho]
  cases hh : outs.any (· == r)
  · rw [if_neg (by simp), List.getD_eq_getElem?_getD, List.getElem?_replicate]; split <;> rfl
  · rfl
theorem needL_R (n : Nat) (outs : List Int) (ho : ∀ r ∈ outs, 0 ≤ r ∧ r < (n : Int)) : ∀ code : List Ins, (∀ i ∈ code, mayM i n = true) →
    (needL (asked0 n outs) code).2 = needR outs code ∧ (needL (asked0 n outs) code).1.length = n ∧ ∀ r : Int, 0 ≤ r → r < n → (needL (asked0 n outs) code).1.getD r.toNat false = needF outs r code (needR outs code)
  | [], _ => ⟨rfl, by simp [needL, asked0, mark_length], fun r h0 h1 => by rw [needL]; exact asked0_get ho h0 h1⟩
  | i :: rest, h => by
    obtain ⟨g1, g2, g3⟩ := needL_R n outs ho rest fun j hj => h j (by simp [hj])
    obtain ⟨⟨t0, t1⟩, ha⟩ := may_asks (h i (by simp))
    have ht := g3 i.to t0 t1
    rw [needL, needR]
    rw [ht, g1]
    cases hf : needF outs i.to rest (needR outs rest) with
    | true =>
      rw [if_pos rfl]
      refine ⟨rfl, by simp [mark_length, g2], fun r h0 h1 => ?_⟩
      rw [mark_getD _ _ _ _ (by simp [g2]; omega), any_toNat (n := n) h0 _ ha, needF, Bool.true_and]
      by_cases hr : i.to = r
      · rw [hr]
        have : ((needL (asked0 n outs) rest).1.set r.toNat false).getD r.toNat false = false := by
          simp [g2, show r.toNat < n by omega]
        rw [this]
        cases (asks i).any (· == r) <;> simp
      · have : ((needL (asked0 n outs) rest).1.set i.to.toNat false).getD r.toNat false = needF outs r rest (needR outs rest) := by
          rw [← g3 r h0 h1]
          simp [List.getElem?_set_ne (show i.to.toNat ≠ r.toNat by omega)]
        rw [this, decide_eq_false hr]
        cases (asks i).any (· == r) <;> simp
    | false =>
      rw [if_neg (by simp)]
      refine ⟨rfl, g2, fun r h0 h1 => ?_⟩
      rw [needF, Bool.false_and, Bool.false_or]
      by_cases hr : i.to = r
      · rw [← hr, ht, hf]; simp
      · rw [decide_eq_false hr, g3 r h0 h1]; simp
theorem neededM_R (n : Nat) (ins : Int) (code : List Ins) (outs : List Int) (hr : rightM ⟨ins, n, code, outs⟩ = true) : needR outs code = neededM ⟨ins, n, code, outs⟩ := by
  simp only [rightM, headM, Bool.and_eq_true, decide_eq_true_eq] at hr
  obtain ⟨⟨hh, ho⟩, hc⟩ := hr
  have hout : ∀ r ∈ outs, 0 ≤ r ∧ r < (n : Int) := fun r h => by have := List.all_eq_true.1 ho r h; simpa using this
  have hcode : ∀ i ∈ code, mayM i n = true := fun i h => List.all_eq_true.1 hc i h
  exact ((needL_R n outs hout code hcode).1).symm
theorem rNeeded_ev (k n : Nat) (ins : Int) (code : List Ins) (outs : List Int) (nl : Bool) (cap : Option Nat) (nl2 : Bool) (cap2 : Option Nat) (hk : outs.length + code.length + 20 ≤ k) (hr : rightM ⟨ins, n, code, outs⟩ = true) :
    run (k+1) 53 [aP ⟨ins, n, code, outs⟩ nl cap nl2 cap2] = some (sB (neededM ⟨ins, n, code, outs⟩) false none) := by
  rw [← neededM_R n ins code outs hr]
  simp only [rightM, headM, Bool.and_eq_true, decide_eq_true_eq] at hr
  exact rNeededR_ev k ⟨ins, n, code, outs⟩ nl cap nl2 cap2 (by simp only; omega) (by simp only; omega) (by simp only; omega)
end Go.Proofs.Sw
