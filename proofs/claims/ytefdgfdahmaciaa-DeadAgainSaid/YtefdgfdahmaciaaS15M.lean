/- A part of the proof: what functions of the program answer, of whatever arguments, reckoned with letters by the interpreter's equations. Its conditions stand in each theorem. -/
import Derived.Test.YtefdgfdahmaciaaS15L
namespace Go.Proofs.Sw
set_option linter.unusedVariables false
set_option linter.unusedSimpArgs false
set_option linter.unusedSectionVars false
open Go.Ab
variable [Globals]
theorem eqBools_ev (k : Nat) (xs : List Bool) (nl nl2 : Bool) (cap cap2 : Option Nat) (hl : xs.length ≤ 1000000) (hk : xs.length + 2 ≤ k) : run (k+1) 32 [sB xs nl cap, sB xs nl2 cap2] = some (bb true) := by
  rw [run, ev32, ans_trim]
  simp only [Try.f32, bb, EVb, EVc, Int.reduceEq, Int.reduceToNat, Int.reduceLE, Int.reduceLT, Int.reduceAdd, Int.reduceMul, Int.reduceSub, Int.reduceNeg, Nat.reduceAdd, Nat.reduceSub, Nat.reduceMul, Nat.reduceLT, Nat.reduceBEq, Nat.reduceEqDiff, Nat.reduceLeDiff, FACTS, TYPES]
  rw [evalCode_loopB LB32_4 lp32_4]; rotate_left; rfl; rfl; rfl
  generalize hz : loopR _ _ _ _ _ _ _ _ _ _ _ _ = z
  have h : ∃ l' H', z = some (.exit 0 (fr 26 l') H') := by
    subst hz
    refine loop_nat xs.length (fun k' l H => loopR Try.prog tab k none LB32_4 32 26 [0, 1, 12, 13] 0 k' l H)
      (fun i l H => asc l 0 = sB xs nl cap ∧ asc l 1 = sB xs nl2 cap2 ∧ asc l 12 = ii xs.length ∧ asc l 13 = ii i)
      (fun z => ∃ l' H', z = some (.exit 0 (fr 26 l') H')) ?_ xs.length 0 k _ _ (by omega) (by omega) ⟨(by rfl), (by rfl), (by rfl), (by rfl)⟩
    rintro i k' l H hi ⟨a0, a1, a12, a13⟩
    by_cases hc : i < xs.length
    · refine .inr ?_
      have hi0 : (0 : Int) ≤ i := by omega
      have hi1 : (i : Int) < xs.length := by omega
      have hx := encB_getN hc
      have hw := wrap_succ hc (by omega)
      simp only [a0, a1, a12, a13, hi0, hi1, hx, hw, loopR_succ, loopOf, findLoop, firstRegion, Option.some_or, Option.none_or, Option.getD_some, Option.some.injEq, Try.f32, EVb, EVc, Int.reduceEq, Int.reduceToNat, Int.reduceLE, Int.reduceLT, Int.reduceAdd, Int.reduceMul, Int.reduceSub, Int.reduceNeg, Nat.reduceAdd, Nat.reduceSub, Nat.reduceMul, Nat.reduceLT, Nat.reduceBEq, Nat.reduceEqDiff, Nat.reduceLeDiff, FACTS, TYPES]
      rw [evalCode_drawn Try.f32 6 dr32_6]; rotate_left; rfl
      simp only [a0, a1, a12, a13, hi0, hi1, hx, hw, EVd, Nat.reducePow, Nat.reduceDiv, Nat.reduceMod, loopR_succ, loopOf, findLoop, firstRegion, Option.some_or, Option.none_or, Option.getD_some, Option.some.injEq, Try.f32, EVb, EVc, Int.reduceEq, Int.reduceToNat, Int.reduceLE, Int.reduceLT, Int.reduceAdd, Int.reduceMul, Int.reduceSub, Int.reduceNeg, Nat.reduceAdd, Nat.reduceSub, Nat.reduceMul, Nat.reduceLT, Nat.reduceBEq, Nat.reduceEqDiff, Nat.reduceLeDiff, FACTS, TYPES]
      exact ⟨_, _, hc, rfl, (by rfl), (by rfl), (by rfl), (by rfl)⟩
    · refine .inl ?_
      have hc' : ¬ ((i : Int) < xs.length) := by omega
      simp only [a0, a1, a12, a13, hc', loopR_succ, loopOf, findLoop, firstRegion, Option.some_or, Option.none_or, Option.getD_some, Option.some.injEq, Try.f32, EVb, EVc, Int.reduceEq, Int.reduceToNat, Int.reduceLE, Int.reduceLT, Int.reduceAdd, Int.reduceMul, Int.reduceSub, Int.reduceNeg, Nat.reduceAdd, Nat.reduceSub, Nat.reduceMul, Nat.reduceLT, Nat.reduceBEq, Nat.reduceEqDiff, Nat.reduceLeDiff, FACTS, TYPES]
      exact ⟨_, _, rfl⟩
  obtain ⟨l', H', rfl⟩ := h
  simp only [EVb, EVc, Int.reduceEq, Int.reduceToNat, Int.reduceLE, Int.reduceLT, Int.reduceAdd, Int.reduceMul, Int.reduceSub, Int.reduceNeg, Nat.reduceAdd, Nat.reduceSub, Nat.reduceMul, Nat.reduceLT, Nat.reduceBEq, Nat.reduceEqDiff, Nat.reduceLeDiff, FACTS, TYPES]
theorem eqInts_ev (k : Nat) (xs : List Int) (nl nl2 : Bool) (cap cap2 : Option Nat) (hl : xs.length ≤ 1000000) (hk : xs.length + 2 ≤ k) : run (k+1) 39 [sI xs nl cap, sI xs nl2 cap2] = some (bb true) := by
  rw [run, ev39, ans_trim]
  simp only [Try.f39, bb, EVb, EVc, Int.reduceEq, Int.reduceToNat, Int.reduceLE, Int.reduceLT, Int.reduceAdd, Int.reduceMul, Int.reduceSub, Int.reduceNeg, Nat.reduceAdd, Nat.reduceSub, Nat.reduceMul, Nat.reduceLT, Nat.reduceBEq, Nat.reduceEqDiff, Nat.reduceLeDiff, FACTS, TYPES]
  rw [evalCode_loopB LB39_4 lp39_4]; rotate_left; rfl; rfl; rfl
  generalize hz : loopR _ _ _ _ _ _ _ _ _ _ _ _ = z
  have h : ∃ l' H', z = some (.exit 0 (fr 26 l') H') := by
    subst hz
    refine loop_nat xs.length (fun k' l H => loopR Try.prog tab k none LB39_4 39 26 [0, 1, 12, 13] 0 k' l H)
      (fun i l H => asc l 0 = sI xs nl cap ∧ asc l 1 = sI xs nl2 cap2 ∧ asc l 12 = ii xs.length ∧ asc l 13 = ii i)
      (fun z => ∃ l' H', z = some (.exit 0 (fr 26 l') H')) ?_ xs.length 0 k _ _ (by omega) (by omega) ⟨(by rfl), (by rfl), (by rfl), (by rfl)⟩
    rintro i k' l H hi ⟨a0, a1, a12, a13⟩
    by_cases hc : i < xs.length
    · refine .inr ?_
      have hi0 : (0 : Int) ≤ i := by omega
      have hi1 : (i : Int) < xs.length := by omega
      have hx := encInts_get hc
      have hw := wrap_succ hc (by omega)
      simp only [a0, a1, a12, a13, hi0, hi1, hx, hw, loopR_succ, loopOf, findLoop, firstRegion, Option.some_or, Option.none_or, Option.getD_some, Option.some.injEq, Try.f39, EVb, EVc, Int.reduceEq, Int.reduceToNat, Int.reduceLE, Int.reduceLT, Int.reduceAdd, Int.reduceMul, Int.reduceSub, Int.reduceNeg, Nat.reduceAdd, Nat.reduceSub, Nat.reduceMul, Nat.reduceLT, Nat.reduceBEq, Nat.reduceEqDiff, Nat.reduceLeDiff, FACTS, TYPES]
      rw [evalCode_drawn Try.f39 6 dr39_6]; rotate_left; rfl
      simp only [a0, a1, a12, a13, hi0, hi1, hx, hw, EVd, Nat.reducePow, Nat.reduceDiv, Nat.reduceMod, loopR_succ, loopOf, findLoop, firstRegion, Option.some_or, Option.none_or, Option.getD_some, Option.some.injEq, Try.f39, EVb, EVc, Int.reduceEq, Int.reduceToNat, Int.reduceLE, Int.reduceLT, Int.reduceAdd, Int.reduceMul, Int.reduceSub, Int.reduceNeg, Nat.reduceAdd, Nat.reduceSub, Nat.reduceMul, Nat.reduceLT, Nat.reduceBEq, Nat.reduceEqDiff, Nat.reduceLeDiff, FACTS, TYPES]
      exact ⟨_, _, hc, rfl, (by rfl), (by rfl), (by rfl), (by rfl)⟩
    · refine .inl ?_
      have hc' : ¬ ((i : Int) < xs.length) := by omega
      simp only [a0, a1, a12, a13, hc', loopR_succ, loopOf, findLoop, firstRegion, Option.some_or, Option.none_or, Option.getD_some, Option.some.injEq, Try.f39, EVb, EVc, Int.reduceEq, Int.reduceToNat, Int.reduceLE, Int.reduceLT, Int.reduceAdd, Int.reduceMul, Int.reduceSub, Int.reduceNeg, Nat.reduceAdd, Nat.reduceSub, Nat.reduceMul, Nat.reduceLT, Nat.reduceBEq, Nat.reduceEqDiff, Nat.reduceLeDiff, FACTS, TYPES]
      exact ⟨_, _, rfl⟩
  obtain ⟨l', H', rfl⟩ := h
  simp only [EVb, EVc, Int.reduceEq, Int.reduceToNat, Int.reduceLE, Int.reduceLT, Int.reduceAdd, Int.reduceMul, Int.reduceSub, Int.reduceNeg, Nat.reduceAdd, Nat.reduceSub, Nat.reduceMul, Nat.reduceLT, Nat.reduceBEq, Nat.reduceEqDiff, Nat.reduceLeDiff, FACTS, TYPES]
theorem eqInstrs_ev (k : Nat) (xs : List Ins) (nl nl2 : Bool) (cap cap2 : Option Nat) (hl : xs.length ≤ 1000000) (hk : xs.length + 2 ≤ k) : run (k+1) 87 [sC xs nl cap, sC xs nl2 cap2] = some (bb true) := by
  rw [run, ev87, ans_trim]
  simp only [Try.f87, bb, EVb, EVc, Int.reduceEq, Int.reduceToNat, Int.reduceLE, Int.reduceLT, Int.reduceAdd, Int.reduceMul, Int.reduceSub, Int.reduceNeg, Nat.reduceAdd, Nat.reduceSub, Nat.reduceMul, Nat.reduceLT, Nat.reduceBEq, Nat.reduceEqDiff, Nat.reduceLeDiff, FACTS, TYPES]
  rw [evalCode_loopB LB87_4 lp87_4]; rotate_left; rfl; rfl; rfl
  generalize hz : loopR _ _ _ _ _ _ _ _ _ _ _ _ = z
  have h : ∃ l' H', z = some (.exit 0 (fr 26 l') H') := by
    subst hz
    refine loop_nat xs.length (fun k' l H => loopR Try.prog tab k none LB87_4 87 26 [0, 1, 12, 13] 0 k' l H)
      (fun i l H => asc l 0 = sC xs nl cap ∧ asc l 1 = sC xs nl2 cap2 ∧ asc l 12 = ii xs.length ∧ asc l 13 = ii i)
      (fun z => ∃ l' H', z = some (.exit 0 (fr 26 l') H')) ?_ xs.length 0 k _ _ (by omega) (by omega) ⟨(by rfl), (by rfl), (by rfl), (by rfl)⟩
    rintro i k' l H hi ⟨a0, a1, a12, a13⟩
    by_cases hc : i < xs.length
    · refine .inr ?_
      have hi0 : (0 : Int) ≤ i := by omega
      have hi1 : (i : Int) < xs.length := by omega
      have hx := encCode_get hc
      have hw := wrap_succ hc (by omega)
      simp only [a0, a1, a12, a13, hi0, hi1, hx, hw, loopR_succ, loopOf, findLoop, firstRegion, Option.some_or, Option.none_or, Option.getD_some, Option.some.injEq, Try.f87, EVb, EVc, Int.reduceEq, Int.reduceToNat, Int.reduceLE, Int.reduceLT, Int.reduceAdd, Int.reduceMul, Int.reduceSub, Int.reduceNeg, Nat.reduceAdd, Nat.reduceSub, Nat.reduceMul, Nat.reduceLT, Nat.reduceBEq, Nat.reduceEqDiff, Nat.reduceLeDiff, FACTS, TYPES]
      rw [evalCode_drawn Try.f87 6 dr87_6]; rotate_left; rfl
      simp only [a0, a1, a12, a13, hi0, hi1, hx, hw, EVd, Nat.reducePow, Nat.reduceDiv, Nat.reduceMod, loopR_succ, loopOf, findLoop, firstRegion, Option.some_or, Option.none_or, Option.getD_some, Option.some.injEq, Try.f87, EVb, EVc, Int.reduceEq, Int.reduceToNat, Int.reduceLE, Int.reduceLT, Int.reduceAdd, Int.reduceMul, Int.reduceSub, Int.reduceNeg, Nat.reduceAdd, Nat.reduceSub, Nat.reduceMul, Nat.reduceLT, Nat.reduceBEq, Nat.reduceEqDiff, Nat.reduceLeDiff, FACTS, TYPES]
      exact ⟨_, _, hc, rfl, (by rfl), (by rfl), (by rfl), (by rfl)⟩
    · refine .inl ?_
      have hc' : ¬ ((i : Int) < xs.length) := by omega
      simp only [a0, a1, a12, a13, hc', loopR_succ, loopOf, findLoop, firstRegion, Option.some_or, Option.none_or, Option.getD_some, Option.some.injEq, Try.f87, EVb, EVc, Int.reduceEq, Int.reduceToNat, Int.reduceLE, Int.reduceLT, Int.reduceAdd, Int.reduceMul, Int.reduceSub, Int.reduceNeg, Nat.reduceAdd, Nat.reduceSub, Nat.reduceMul, Nat.reduceLT, Nat.reduceBEq, Nat.reduceEqDiff, Nat.reduceLeDiff, FACTS, TYPES]
      exact ⟨_, _, rfl⟩
  obtain ⟨l', H', rfl⟩ := h
  simp only [EVb, EVc, Int.reduceEq, Int.reduceToNat, Int.reduceLE, Int.reduceLT, Int.reduceAdd, Int.reduceMul, Int.reduceSub, Int.reduceNeg, Nat.reduceAdd, Nat.reduceSub, Nat.reduceMul, Nat.reduceLT, Nat.reduceBEq, Nat.reduceEqDiff, Nat.reduceLeDiff, FACTS, TYPES]
theorem long_ev (k : Nat) (p : Pg) (nl : Bool) (cap : Option Nat) (nl2 : Bool) (cap2 : Option Nat) : run (k+1) 34 [aP p nl cap nl2 cap2] = some (bb (decide (300 < p.code.length ∧ p.code.length ≤ 16384))) := by
  rw [run, ev34, ans_trim]
  simp only [Try.f34, aP, ii, bb, EVb, EVc, Int.reduceEq, Int.reduceToNat, Int.reduceLE, Int.reduceLT, Int.reduceAdd, Int.reduceMul, Int.reduceSub, Int.reduceNeg, Nat.reduceAdd, Nat.reduceSub, Nat.reduceMul, Nat.reduceLT, Nat.reduceBEq, Nat.reduceEqDiff, Nat.reduceLeDiff, FACTS, TYPES]
  repeat' (first
    | (rw [condO_dec]; split <;> simp only [*, EVb, EVc, Int.reduceEq, Int.reduceToNat, Int.reduceLE, Int.reduceLT, Int.reduceAdd, Int.reduceMul, Int.reduceSub, Int.reduceNeg, Nat.reduceAdd, Nat.reduceSub, Nat.reduceMul, Nat.reduceLT, Nat.reduceBEq, Nat.reduceEqDiff, Nat.reduceLeDiff, FACTS, TYPES])
    | (rw [condO_ite]; split <;> simp only [*, EVb, EVc, Int.reduceEq, Int.reduceToNat, Int.reduceLE, Int.reduceLT, Int.reduceAdd, Int.reduceMul, Int.reduceSub, Int.reduceNeg, Nat.reduceAdd, Nat.reduceSub, Nat.reduceMul, Nat.reduceLT, Nat.reduceBEq, Nat.reduceEqDiff, Nat.reduceLeDiff, FACTS, TYPES])
    | (split <;> simp only [*, EVb, EVc, Int.reduceEq, Int.reduceToNat, Int.reduceLE, Int.reduceLT, Int.reduceAdd, Int.reduceMul, Int.reduceSub, Int.reduceNeg, Nat.reduceAdd, Nat.reduceSub, Nat.reduceMul, Nat.reduceLT, Nat.reduceBEq, Nat.reduceEqDiff, Nat.reduceLeDiff, FACTS, TYPES]))
  all_goals (simp only [Option.some.injEq, AV.c.injEq, IV.bool.injEq]; rw [Bool.eq_iff_iff]; simp; omega)
theorem same_ev (k : Nat) (p : Pg) (a1 a2 b1 b2 : Bool) (c1 c2 d1 d2 : Option Nat) (hl : p.code.length ≤ 1000000) (hl2 : p.outs.length ≤ 1000000) (hk : p.code.length + p.outs.length + 10 ≤ k) :
    run (k+1) 48 [aP p a1 c1 a2 c2, aP p b1 d1 b2 d2] = some (bb true) := by
  obtain ⟨k, rfl⟩ : ∃ j, k = j + 1 := ⟨k - 1, by omega⟩
  have h1 := eqInstrs_ev k p.code a1 b1 c1 d1 hl (by omega)
  have h2 := eqInts_ev k p.outs a2 b2 c2 d2 hl2 (by omega)
  simp only [run, sC, sI, bb] at h1 h2
  rw [run, ev48, ans_trim]
  simp only [Try.f48, aP, ii, bb, h1, h2, EVb, EVc, Int.reduceEq, Int.reduceToNat, Int.reduceLE, Int.reduceLT, Int.reduceAdd, Int.reduceMul, Int.reduceSub, Int.reduceNeg, Nat.reduceAdd, Nat.reduceSub, Nat.reduceMul, Nat.reduceLT, Nat.reduceBEq, Nat.reduceEqDiff, Nat.reduceLeDiff, FACTS, TYPES]
theorem index_ev (k m : Nat) (nl : Bool) (cap : Option Nat) (hl : m ≤ 1000000) (hk : m + 2 ≤ k) : run (k+1) 86 [sB (List.replicate m true) nl cap, bb false] = some (ii (-1)) := by
  rw [run, ev86, ans_trim]
  simp only [Try.f86, bb, ii, EVb, EVc, Int.reduceEq, Int.reduceToNat, Int.reduceLE, Int.reduceLT, Int.reduceAdd, Int.reduceMul, Int.reduceSub, Int.reduceNeg, Nat.reduceAdd, Nat.reduceSub, Nat.reduceMul, Nat.reduceLT, Nat.reduceBEq, Nat.reduceEqDiff, Nat.reduceLeDiff, FACTS, TYPES]
  rw [evalCode_loopB LB86_2 lp86_2]; rotate_left; rfl; rfl; rfl
  generalize hz : loopR _ _ _ _ _ _ _ _ _ _ _ _ = z
  have h : ∃ l' H', z = some (.exit 0 (fr 19 l') H') := by
    subst hz
    have hml : (List.replicate m true).length = m := by simp
    refine loop_nat m (fun k' l H => loopR Try.prog tab k none LB86_2 86 19 [0, 1, 7, 8] 0 k' l H)
      (fun i l H => asc l 0 = sB (List.replicate m true) nl cap ∧ asc l 1 = bb false ∧ asc l 7 = ii m ∧ asc l 8 = ii i)
      (fun z => ∃ l' H', z = some (.exit 0 (fr 19 l') H')) ?_ m 0 k _ _ (by omega) (by omega) ⟨(by rfl), (by rfl), (by simp only [EVb, EVc, Int.reduceEq, Int.reduceToNat, Int.reduceLE, Int.reduceLT, Int.reduceAdd, Int.reduceMul, Int.reduceSub, Int.reduceNeg, Nat.reduceAdd, Nat.reduceSub, Nat.reduceMul, Nat.reduceLT, Nat.reduceBEq, Nat.reduceEqDiff, Nat.reduceLeDiff]; rw [hml]), (by rfl)⟩
    rintro i k' l H hi ⟨a0, a1, a7, a8⟩
    by_cases hc : i < m
    · refine .inr ?_
      have hi0 : (0 : Int) ≤ i := by omega
      have hi1 : (i : Int) < m := by omega
      have hx := encB_getN (l := List.replicate m true) (i := i) (by simpa using hc)
      rw [List.getElem_replicate] at hx
      have hw := wrap_succ hc (by omega)
      simp only [a0, a1, a7, a8, hi0, hi1, hx, hw, List.length_replicate, loopR_succ, loopOf, findLoop, firstRegion, Option.some_or, Option.none_or, Option.getD_some, Option.some.injEq, Try.f86, EVb, EVc, Int.reduceEq, Int.reduceToNat, Int.reduceLE, Int.reduceLT, Int.reduceAdd, Int.reduceMul, Int.reduceSub, Int.reduceNeg, Nat.reduceAdd, Nat.reduceSub, Nat.reduceMul, Nat.reduceLT, Nat.reduceBEq, Nat.reduceEqDiff, Nat.reduceLeDiff, FACTS, TYPES]
      exact ⟨_, _, hc, rfl, (by rfl), (by rfl), (by rfl), (by rfl)⟩
    · refine .inl ?_
      have hc' : ¬ ((i : Int) < m) := by omega
      simp only [a0, a1, a7, a8, hc', loopR_succ, loopOf, findLoop, firstRegion, Option.some_or, Option.none_or, Option.getD_some, Option.some.injEq, Try.f86, EVb, EVc, Int.reduceEq, Int.reduceToNat, Int.reduceLE, Int.reduceLT, Int.reduceAdd, Int.reduceMul, Int.reduceSub, Int.reduceNeg, Nat.reduceAdd, Nat.reduceSub, Nat.reduceMul, Nat.reduceLT, Nat.reduceBEq, Nat.reduceEqDiff, Nat.reduceLeDiff, FACTS, TYPES]
      exact ⟨_, _, rfl⟩
  obtain ⟨l', H', rfl⟩ := h
  simp only [EVb, EVc, Int.reduceEq, Int.reduceToNat, Int.reduceLE, Int.reduceLT, Int.reduceAdd, Int.reduceMul, Int.reduceSub, Int.reduceNeg, Nat.reduceAdd, Nat.reduceSub, Nat.reduceMul, Nat.reduceLT, Nat.reduceBEq, Nat.reduceEqDiff, Nat.reduceLeDiff, FACTS, TYPES]
theorem has_ev (k m : Nat) (nl : Bool) (cap : Option Nat) (hl : m ≤ 1000000) (hk : m + 3 ≤ k) : run (k+1) 47 [sB (List.replicate m true) nl cap, bb false] = some (bb false) := by
  obtain ⟨k, rfl⟩ : ∃ j, k = j + 1 := ⟨k - 1, by omega⟩
  have h := index_ev k m nl cap hl (by omega)
  simp only [run, sB, bb, ii] at h
  rw [run, ev47, ans_trim]
  simp only [Try.f47, bb, sB, h, EVb, EVc, Int.reduceEq, Int.reduceToNat, Int.reduceLE, Int.reduceLT, Int.reduceAdd, Int.reduceMul, Int.reduceSub, Int.reduceNeg, Nat.reduceAdd, Nat.reduceSub, Nat.reduceMul, Nat.reduceLT, Nat.reduceBEq, Nat.reduceEqDiff, Nat.reduceLeDiff, FACTS, TYPES]
end Go.Proofs.Sw
