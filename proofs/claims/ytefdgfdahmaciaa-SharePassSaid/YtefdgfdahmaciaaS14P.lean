/- A part of the proof: what functions of the program answer, of whatever arguments, reckoned with letters by the interpreter's equations. Its conditions stand in each theorem. -/
import Derived.Test.YtefdgfdahmaciaaS14N
namespace Go.Proofs.Sw
set_option linter.unusedVariables false
set_option linter.unusedSimpArgs false
set_option linter.unusedSectionVars false
open Go.Ab
variable [Globals]
theorem loop_rHolderA (kf : Nat) (S : St) (hS : S.keys = []) (v : Int) (hn : S.held.length ≤ 1000000) (k : Nat) (l : Ass) (z : Option Out) (hz : loopR Try.prog tab kf none LB68_2 68 25 [0, 1, 5] 2 k l ([staO S, rI S.held]) = z) (hk : S.held.length < k) (a0 : asc l 0 = .ptr 0 0) (a1 : asc l 1 = ii v) (a5 : asc l 5 = ii 0) :
    ∃ l', (z = some (.exit 0 (fr 25 l') [staO S, rI S.held]) ∧ holdM v S.held 0 = -1) ∨ (z = some (.ret (fr 25 l') [staO S, rI S.held]) ∧ asc l' 4 = ii (holdM v S.held 0)) := by
  subst hz
  have hel := encInts_length S.held
  have hl : S.keys.length = 0 ∨ 0 < S.keys.length := by omega
  refine loop_nat (S.held.length) (fun k l H => loopR Try.prog tab kf none LB68_2 68 25 [0, 1, 5] 2 k l H)
    (fun i l H => asc l 0 = .ptr 0 0 ∧ asc l 1 = ii v ∧ asc l 5 = ii i ∧ (holdM v S.held 0 = holdM v (S.held.drop i) i) ∧ ∃ G, H = ([staO S, rI S.held]) ++ G)
    (fun z => ∃ l', (z = some (.exit 0 (fr 25 l') [staO S, rI S.held]) ∧ holdM v S.held 0 = -1) ∨ (z = some (.ret (fr 25 l') [staO S, rI S.held]) ∧ asc l' 4 = ii (holdM v S.held 0))) ?_ (S.held.length) 0 k l _ (by omega) hk ⟨a0, a1, a5, rfl, [], by rw [List.append_nil]⟩
  clear hk a0 a1 a5
  rintro i k l H hi ⟨a0, a1, a5, hp, G, rfl⟩
  have ht : trim 2 (fr 25 (keep l [0, 1, 5])) (([staO S, rI S.held]) ++ G) = ([staO S, rI S.held]) := trim_app (by simp) (by simp only [a0, a1, a5, hS, List.length_nil, EVb, EVc, Int.reduceEq, Int.reduceToNat, Int.reduceLE, Int.reduceLT, Int.reduceAdd, Int.reduceMul, Int.reduceSub, Int.reduceNeg, Nat.reduceAdd, Nat.reduceSub, Nat.reduceMul, Nat.reduceLT, Nat.reduceBEq, Nat.reduceEqDiff, Nat.reduceLeDiff]) (by simp only [hS, List.length_nil, EVb, EVc, Int.reduceEq, Int.reduceToNat, Int.reduceLE, Int.reduceLT, Int.reduceAdd, Int.reduceMul, Int.reduceSub, Int.reduceNeg, Nat.reduceAdd, Nat.reduceSub, Nat.reduceMul, Nat.reduceLT, Nat.reduceBEq, Nat.reduceEqDiff, Nat.reduceLeDiff])
  by_cases hc : i < (S.held.length)
  · have hc' : (i : Int) < ((S.held.length : Nat) : Int) := by omega
    have hc0 : (0 : Int) ≤ i := by omega
    have hw : IntKind.wrap .i64 ((i : Int) + 1) = ((i + 1 : Nat) : Int) := by rw [wrap64 (by omega) (by omega)]; omega
    have hx := encInts_get hc
    have hd := List.drop_eq_getElem_cons hc
    obtain ⟨x, hX⟩ : ∃ x, x = S.held[i] := ⟨_, rfl⟩
    rw [← hX] at hd hx
    rw [hd, holdM] at hp
    by_cases hxv : x = v
    · rw [if_pos hxv] at hp
      refine .inl ?_
      simp only [loopR_succ, ht]
      simp only [a0, a1, a5, hc', hc0, hw, hel, hx, hxv, loopR_succ, loopOf, findLoop, firstRegion, Option.some_or, Option.none_or, Option.getD_some, Option.some.injEq, Try.f68, EVb, EVc, Int.reduceEq, Int.reduceToNat, Int.reduceLE, Int.reduceLT, Int.reduceAdd, Int.reduceMul, Int.reduceSub, Int.reduceNeg, Nat.reduceAdd, Nat.reduceSub, Nat.reduceMul, Nat.reduceLT, Nat.reduceBEq, Nat.reduceEqDiff, Nat.reduceLeDiff, FACTS, TYPES]
      exact ⟨_, .inr ⟨rfl, by rw [hp]; rfl⟩⟩
    · rw [if_neg hxv] at hp
      simp only [loopR_succ, ht]
      simp only [a0, a1, a5, hc', hc0, hw, hel, hx, hxv, loopR_succ, loopOf, findLoop, firstRegion, Option.some_or, Option.none_or, Option.getD_some, Option.some.injEq, Try.f68, EVb, EVc, Int.reduceEq, Int.reduceToNat, Int.reduceLE, Int.reduceLT, Int.reduceAdd, Int.reduceMul, Int.reduceSub, Int.reduceNeg, Nat.reduceAdd, Nat.reduceSub, Nat.reduceMul, Nat.reduceLT, Nat.reduceBEq, Nat.reduceEqDiff, Nat.reduceLeDiff, FACTS, TYPES]
      exact .inr ⟨_, _, hc, rfl, (by rfl), (by rfl), (by rfl), hp, [], by rfl⟩
  · refine .inl ?_
    obtain rfl : i = (S.held.length) := by omega
    have hc' : ¬ ((((S.held.length) : Nat) : Int) < (((S.held.length) : Nat) : Int)) := by omega
    simp only [loopR_succ, ht]
    simp only [a0, a1, a5, hc', loopR_succ, loopOf, findLoop, firstRegion, Option.some_or, Option.none_or, Option.getD_some, Option.some.injEq, Try.f68, EVb, EVc, Int.reduceEq, Int.reduceToNat, Int.reduceLE, Int.reduceLT, Int.reduceAdd, Int.reduceMul, Int.reduceSub, Int.reduceNeg, Nat.reduceAdd, Nat.reduceSub, Nat.reduceMul, Nat.reduceLT, Nat.reduceBEq, Nat.reduceEqDiff, Nat.reduceLeDiff, FACTS, TYPES]
    exact ⟨_, .inl ⟨rfl, by rw [hp, List.drop_length]; rfl⟩⟩

theorem rHolderA_ev (k : Nat) (S : St) (hS : S.keys = []) (v : Int) (hn : S.held.length ≤ 1000000) (hk : S.held.length < k) :
    evalT Try.prog (mkHints tab) (k+1) (.fn 68) [.ptr 0 0, ii v] [staO S, rI S.held] = some (ii (holdM v S.held 0), [staO S, rI S.held]) := by
  rw [ev68]
  simp only [Try.f68, ii, EVb, EVc, Int.reduceEq, Int.reduceToNat, Int.reduceLE, Int.reduceLT, Int.reduceAdd, Int.reduceMul, Int.reduceSub, Int.reduceNeg, Nat.reduceAdd, Nat.reduceSub, Nat.reduceMul, Nat.reduceLT, Nat.reduceBEq, Nat.reduceEqDiff, Nat.reduceLeDiff, FACTS, TYPES]
  rw [evalCode_loopB LB68_2 lp68_2]; rotate_left; rfl; rfl; rfl
  generalize hz : loopR _ _ _ _ _ _ _ _ _ _ _ _ = z
  obtain ⟨l', ⟨rfl, h⟩ | ⟨rfl, h⟩⟩ := loop_rHolderA k S hS v hn _ _ z hz hk (by rfl) (by rfl) (by rfl)
  · simp only [h, hS, List.length_nil, EVb, EVc, Int.reduceEq, Int.reduceToNat, Int.reduceLE, Int.reduceLT, Int.reduceAdd, Int.reduceMul, Int.reduceSub, Int.reduceNeg, Nat.reduceAdd, Nat.reduceSub, Nat.reduceMul, Nat.reduceLT, Nat.reduceBEq, Nat.reduceEqDiff, Nat.reduceLeDiff, FACTS, TYPES]
  · simp only [h, hS, List.length_nil, EVb, EVc, Int.reduceEq, Int.reduceToNat, Int.reduceLE, Int.reduceLT, Int.reduceAdd, Int.reduceMul, Int.reduceSub, Int.reduceNeg, Nat.reduceAdd, Nat.reduceSub, Nat.reduceMul, Nat.reduceLT, Nat.reduceBEq, Nat.reduceEqDiff, Nat.reduceLeDiff, FACTS, TYPES]
theorem loop_rHolderB (kf : Nat) (S : St) (hS : S.keys ≠ []) (v : Int) (hn : S.held.length ≤ 1000000) (k : Nat) (l : Ass) (z : Option Out) (hz : loopR Try.prog tab kf none LB68_2 68 25 [0, 1, 5] 3 k l ([staO S, rI S.held, keO S.keys]) = z) (hk : S.held.length < k) (a0 : asc l 0 = .ptr 0 0) (a1 : asc l 1 = ii v) (a5 : asc l 5 = ii 0) :
    ∃ l', (z = some (.exit 0 (fr 25 l') [staO S, rI S.held, keO S.keys]) ∧ holdM v S.held 0 = -1) ∨ (z = some (.ret (fr 25 l') [staO S, rI S.held, keO S.keys]) ∧ asc l' 4 = ii (holdM v S.held 0)) := by
  subst hz
  have hel := encInts_length S.held
  have hl : S.keys.length = 0 ∨ 0 < S.keys.length := by omega
  refine loop_nat (S.held.length) (fun k l H => loopR Try.prog tab kf none LB68_2 68 25 [0, 1, 5] 3 k l H)
    (fun i l H => asc l 0 = .ptr 0 0 ∧ asc l 1 = ii v ∧ asc l 5 = ii i ∧ (holdM v S.held 0 = holdM v (S.held.drop i) i) ∧ ∃ G, H = ([staO S, rI S.held, keO S.keys]) ++ G)
    (fun z => ∃ l', (z = some (.exit 0 (fr 25 l') [staO S, rI S.held, keO S.keys]) ∧ holdM v S.held 0 = -1) ∨ (z = some (.ret (fr 25 l') [staO S, rI S.held, keO S.keys]) ∧ asc l' 4 = ii (holdM v S.held 0))) ?_ (S.held.length) 0 k l _ (by omega) hk ⟨a0, a1, a5, rfl, [], by rw [List.append_nil]⟩
  clear hk a0 a1 a5
  rintro i k l H hi ⟨a0, a1, a5, hp, G, rfl⟩
  have ht : trim 3 (fr 25 (keep l [0, 1, 5])) (([staO S, rI S.held, keO S.keys]) ++ G) = ([staO S, rI S.held, keO S.keys]) := trim_app (by simp) (by simp only [a0, a1, a5, hS, List.length_nil, EVb, EVc, Int.reduceEq, Int.reduceToNat, Int.reduceLE, Int.reduceLT, Int.reduceAdd, Int.reduceMul, Int.reduceSub, Int.reduceNeg, Nat.reduceAdd, Nat.reduceSub, Nat.reduceMul, Nat.reduceLT, Nat.reduceBEq, Nat.reduceEqDiff, Nat.reduceLeDiff]) (by simp only [hS, List.length_nil, EVb, EVc, Int.reduceEq, Int.reduceToNat, Int.reduceLE, Int.reduceLT, Int.reduceAdd, Int.reduceMul, Int.reduceSub, Int.reduceNeg, Nat.reduceAdd, Nat.reduceSub, Nat.reduceMul, Nat.reduceLT, Nat.reduceBEq, Nat.reduceEqDiff, Nat.reduceLeDiff])
  by_cases hc : i < (S.held.length)
  · have hc' : (i : Int) < ((S.held.length : Nat) : Int) := by omega
    have hc0 : (0 : Int) ≤ i := by omega
    have hw : IntKind.wrap .i64 ((i : Int) + 1) = ((i + 1 : Nat) : Int) := by rw [wrap64 (by omega) (by omega)]; omega
    have hx := encInts_get hc
    have hd := List.drop_eq_getElem_cons hc
    obtain ⟨x, hX⟩ : ∃ x, x = S.held[i] := ⟨_, rfl⟩
    rw [← hX] at hd hx
    rw [hd, holdM] at hp
    by_cases hxv : x = v
    · rw [if_pos hxv] at hp
      refine .inl ?_
      simp only [loopR_succ, ht]
      simp only [a0, a1, a5, hc', hc0, hw, hel, hx, hxv, loopR_succ, loopOf, findLoop, firstRegion, Option.some_or, Option.none_or, Option.getD_some, Option.some.injEq, Try.f68, EVb, EVc, Int.reduceEq, Int.reduceToNat, Int.reduceLE, Int.reduceLT, Int.reduceAdd, Int.reduceMul, Int.reduceSub, Int.reduceNeg, Nat.reduceAdd, Nat.reduceSub, Nat.reduceMul, Nat.reduceLT, Nat.reduceBEq, Nat.reduceEqDiff, Nat.reduceLeDiff, FACTS, TYPES]
      exact ⟨_, .inr ⟨rfl, by rw [hp]; rfl⟩⟩
    · rw [if_neg hxv] at hp
      simp only [loopR_succ, ht]
      simp only [a0, a1, a5, hc', hc0, hw, hel, hx, hxv, loopR_succ, loopOf, findLoop, firstRegion, Option.some_or, Option.none_or, Option.getD_some, Option.some.injEq, Try.f68, EVb, EVc, Int.reduceEq, Int.reduceToNat, Int.reduceLE, Int.reduceLT, Int.reduceAdd, Int.reduceMul, Int.reduceSub, Int.reduceNeg, Nat.reduceAdd, Nat.reduceSub, Nat.reduceMul, Nat.reduceLT, Nat.reduceBEq, Nat.reduceEqDiff, Nat.reduceLeDiff, FACTS, TYPES]
      exact .inr ⟨_, _, hc, rfl, (by rfl), (by rfl), (by rfl), hp, [], by rfl⟩
  · refine .inl ?_
    obtain rfl : i = (S.held.length) := by omega
    have hc' : ¬ ((((S.held.length) : Nat) : Int) < (((S.held.length) : Nat) : Int)) := by omega
    simp only [loopR_succ, ht]
    simp only [a0, a1, a5, hc', loopR_succ, loopOf, findLoop, firstRegion, Option.some_or, Option.none_or, Option.getD_some, Option.some.injEq, Try.f68, EVb, EVc, Int.reduceEq, Int.reduceToNat, Int.reduceLE, Int.reduceLT, Int.reduceAdd, Int.reduceMul, Int.reduceSub, Int.reduceNeg, Nat.reduceAdd, Nat.reduceSub, Nat.reduceMul, Nat.reduceLT, Nat.reduceBEq, Nat.reduceEqDiff, Nat.reduceLeDiff, FACTS, TYPES]
    exact ⟨_, .inl ⟨rfl, by rw [hp, List.drop_length]; rfl⟩⟩

theorem rHolderB_ev (k : Nat) (S : St) (hS : S.keys ≠ []) (v : Int) (hn : S.held.length ≤ 1000000) (hk : S.held.length < k) :
    evalT Try.prog (mkHints tab) (k+1) (.fn 68) [.ptr 0 0, ii v] [staO S, rI S.held, keO S.keys] = some (ii (holdM v S.held 0), [staO S, rI S.held, keO S.keys]) := by
  rw [ev68]
  simp only [Try.f68, ii, EVb, EVc, Int.reduceEq, Int.reduceToNat, Int.reduceLE, Int.reduceLT, Int.reduceAdd, Int.reduceMul, Int.reduceSub, Int.reduceNeg, Nat.reduceAdd, Nat.reduceSub, Nat.reduceMul, Nat.reduceLT, Nat.reduceBEq, Nat.reduceEqDiff, Nat.reduceLeDiff, FACTS, TYPES]
  rw [evalCode_loopB LB68_2 lp68_2]; rotate_left; rfl; rfl; rfl
  generalize hz : loopR _ _ _ _ _ _ _ _ _ _ _ _ = z
  obtain ⟨l', ⟨rfl, h⟩ | ⟨rfl, h⟩⟩ := loop_rHolderB k S hS v hn _ _ z hz hk (by rfl) (by rfl) (by rfl)
  · simp only [h, hS, List.length_nil, EVb, EVc, Int.reduceEq, Int.reduceToNat, Int.reduceLE, Int.reduceLT, Int.reduceAdd, Int.reduceMul, Int.reduceSub, Int.reduceNeg, Nat.reduceAdd, Nat.reduceSub, Nat.reduceMul, Nat.reduceLT, Nat.reduceBEq, Nat.reduceEqDiff, Nat.reduceLeDiff, FACTS, TYPES]
  · simp only [h, hS, List.length_nil, EVb, EVc, Int.reduceEq, Int.reduceToNat, Int.reduceLE, Int.reduceLT, Int.reduceAdd, Int.reduceMul, Int.reduceSub, Int.reduceNeg, Nat.reduceAdd, Nat.reduceSub, Nat.reduceMul, Nat.reduceLT, Nat.reduceBEq, Nat.reduceEqDiff, Nat.reduceLeDiff, FACTS, TYPES]
theorem mayM_b {i : Ins} {regs : Int} (h : mayM i regs = true) (h3 : ¬ i.op = 3) (h4 : ¬ i.op = 4) : i.b = 0 := by
  simp only [mayM, Bool.and_eq_true, decide_eq_true_eq] at h
  obtain ⟨⟨⟨⟨_, _, _, _, m5⟩, _⟩, _⟩, _⟩ := h
  rcases m5 with h | h | h
  · exact absurd h h3
  · exact absurd h h4
  · exact h
end Go.Proofs.Sw
