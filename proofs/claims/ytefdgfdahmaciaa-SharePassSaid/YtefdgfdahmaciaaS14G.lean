/- A part of the proof: what functions of the program answer, of whatever arguments, reckoned with letters by the interpreter's equations. Its conditions stand in each theorem. -/
import Derived.Test.YtefdgfdahmaciaaS14F
namespace Go.Proofs.Sw
set_option linter.unusedVariables false
set_option linter.unusedSimpArgs false
set_option linter.unusedSectionVars false
open Go.Ab
variable [Globals]
theorem sReckonA_ev (k : Nat) (S : St) (hS : S.keys = []) (n o t a b c : Int) (h1 : o ≠ 1) (ha : 0 ≤ a ∧ a < S.held.length) (hb : o = 3 ∨ o = 4 → 0 ≤ b ∧ b < S.held.length) (hn : 0 ≤ S.next ∧ S.next < 1000000) (hl : S.keys.length ≤ 100000) (hk : S.keys.length + 5 < k) :
    ∃ G, evalT Try.prog (mkHints tab) (k+2) (.fn 28) [.ptr 0 0, ii n, aI o t a b c] [staO S, rI S.held] = some (.tup [ii (reckonM S n ⟨o, t, a, b, c⟩).1, ii (reckonM S n ⟨o, t, a, b, c⟩).2.1], staO (reckonM S n ⟨o, t, a, b, c⟩).2.2 :: rI S.held :: keO (reckonM S n ⟨o, t, a, b, c⟩).2.2.keys :: G) := by
  obtain ⟨a0, a1⟩ := ha
  have hel := encInts_length S.held
  have hxa := encInts_getD a0 a1
  have hw : IntKind.wrap .i64 (S.next + 1) = S.next + 1 := wrap64 (by omega) (by omega)
  have hrk : reckonM S n ⟨o, t, a, b, c⟩ = match lookK (keyM S.held ⟨o, t, a, b, c⟩) S.keys with
      | some p => (p.2.2.1, p.2.2.2, S)
      | none => (S.next, n, { S with keys := S.keys ++ [(keyM S.held ⟨o, t, a, b, c⟩, S.next, n)], next := S.next + 1 }) := by
    rw [reckonM, if_neg h1]
    rfl
  have hap : ∀ (x0 x1 : AObj) (X : Heap) (cs : List IV), apO 110 6 48 (some 2) (lv 2 6 S.keys.length) (x0 :: x1 :: keO S.keys :: X) (some (cs, 1)) = some (lv 2 6 (S.keys.length + 1), x0 :: x1 :: lo 110 (S.keys.length + 1) (encKeys S.keys ++ cs) :: X) := fun x0 x1 X cs =>
    apO_lv (s := 2) (H := x0 :: x1 :: keO S.keys :: X) (by decide) (Nat.le_trans (Nat.mul_le_mul_right 48 (show S.keys.length + 1 ≤ 100001 by omega)) (by decide)) (by decide) rfl (encKeys_length _)
  have hH : [staO S, rI S.held] ++ [.slot] = staO S :: rI S.held :: keO S.keys :: [] := by first | rfl | (simp only [keO, hS]; rfl)
  rw [ev28, hH]
  by_cases h34 : o = 3 ∨ o = 4
  · obtain ⟨b0, b1⟩ := hb h34
    have hxb := encInts_getD b0 b1
    rcases h34 with rfl | rfl
    · clear h1
      simp only [Try.f28, aI, ii, EVb, EVc, Int.reduceEq, Int.reduceToNat, Int.reduceLE, Int.reduceLT, Int.reduceAdd, Int.reduceMul, Int.reduceSub, Int.reduceNeg, Nat.reduceAdd, Nat.reduceSub, Nat.reduceMul, Nat.reduceLT, Nat.reduceBEq, Nat.reduceEqDiff, Nat.reduceLeDiff, FACTS, TYPES]
      rw [evalCode_drawn Try.f28 3 dr28_3]; rotate_left; rfl
      simp only [a0, a1, hel, hxa, EVd, Nat.reducePow, Nat.reduceDiv, Nat.reduceMod, EVb, EVc, Int.reduceEq, Int.reduceToNat, Int.reduceLE, Int.reduceLT, Int.reduceAdd, Int.reduceMul, Int.reduceSub, Int.reduceNeg, Nat.reduceAdd, Nat.reduceSub, Nat.reduceMul, Nat.reduceLT, Nat.reduceBEq, Nat.reduceEqDiff, Nat.reduceLeDiff, FACTS, TYPES]
      rw [evalCode_drawn Try.f28 5 dr28_5]; rotate_left; rfl
      by_cases hlt : S.held.getD b.toNat 0 < S.held.getD a.toNat 0
      · have hkey := keyM_swap (held := S.held) (i := ⟨3, t, a, b, c⟩) rfl hlt
        simp only [a0, a1, b0, b1, hel, hxa, hxb, hlt, EVd, Nat.reducePow, Nat.reduceDiv, Nat.reduceMod, EVb, EVc, Int.reduceEq, Int.reduceToNat, Int.reduceLE, Int.reduceLT, Int.reduceAdd, Int.reduceMul, Int.reduceSub, Int.reduceNeg, Nat.reduceAdd, Nat.reduceSub, Nat.reduceMul, Nat.reduceLT, Nat.reduceBEq, Nat.reduceEqDiff, Nat.reduceLeDiff, FACTS, TYPES]
        rw [evalCode_loopB LB28_9 lp28_9]; rotate_left; rfl; rfl; rfl
        generalize hz : loopR _ _ _ _ _ _ _ _ _ _ _ _ = z
        obtain ⟨l', ⟨hlk, rfl, e0, e1, e8⟩ | ⟨p, G, hlk, rfl, e6, e7⟩⟩ := loop_sReckonA (k + 1) S (keyM S.held ⟨3, t, a, b, c⟩) 3 t a b c n S.next n (by omega) _ _ z (by rw [hkey]; exact hz) (by omega) (by rfl) (by rfl) (by rfl) (by rfl)
        · clear hz
          rw [hrk, hlk, hkey]
          simp only [e0, e1, e8, hkey, EVb, EVc, Int.reduceEq, Int.reduceToNat, Int.reduceLE, Int.reduceLT, Int.reduceAdd, Int.reduceMul, Int.reduceSub, Int.reduceNeg, Nat.reduceAdd, Nat.reduceSub, Nat.reduceMul, Nat.reduceLT, Nat.reduceBEq, Nat.reduceEqDiff, Nat.reduceLeDiff, FACTS, TYPES]
          rw [evalCode_drawn Try.f28 14 dr28_14]; rotate_left; rfl
          simp only [e0, e1, e8, hap, EVd, Nat.reducePow, Nat.reduceDiv, Nat.reduceMod, EVb, EVc, Int.reduceEq, Int.reduceToNat, Int.reduceLE, Int.reduceLT, Int.reduceAdd, Int.reduceMul, Int.reduceSub, Int.reduceNeg, Nat.reduceAdd, Nat.reduceSub, Nat.reduceMul, Nat.reduceLT, Nat.reduceBEq, Nat.reduceEqDiff, Nat.reduceLeDiff, FACTS, TYPES]
          simp only [e0, e1, e8, hw, Nat.succ_ne_zero, Nat.add_one_ne_zero, hS, EVb, EVc, Int.reduceEq, Int.reduceToNat, Int.reduceLE, Int.reduceLT, Int.reduceAdd, Int.reduceMul, Int.reduceSub, Int.reduceNeg, Nat.reduceAdd, Nat.reduceSub, Nat.reduceMul, Nat.reduceLT, Nat.reduceBEq, Nat.reduceEqDiff, Nat.reduceLeDiff, FACTS, TYPES]
          simp only [staO, keO, List.length_append, List.length_cons, List.length_nil, Nat.zero_add, encKeys_append, encKeys, enc6, List.append_nil]
          exact ⟨_, rfl⟩
        · clear hz
          rw [hrk, hlk]
          exact absurd hlk (by simp [hS, lookK])
      · have hkey := keyM_two (held := S.held) (i := ⟨3, t, a, b, c⟩) (.inl rfl) (fun h => hlt h.2)
        simp only [a0, a1, b0, b1, hel, hxa, hxb, hlt, EVd, Nat.reducePow, Nat.reduceDiv, Nat.reduceMod, EVb, EVc, Int.reduceEq, Int.reduceToNat, Int.reduceLE, Int.reduceLT, Int.reduceAdd, Int.reduceMul, Int.reduceSub, Int.reduceNeg, Nat.reduceAdd, Nat.reduceSub, Nat.reduceMul, Nat.reduceLT, Nat.reduceBEq, Nat.reduceEqDiff, Nat.reduceLeDiff, FACTS, TYPES]
        rw [evalCode_loopB LB28_9 lp28_9]; rotate_left; rfl; rfl; rfl
        generalize hz : loopR _ _ _ _ _ _ _ _ _ _ _ _ = z
        obtain ⟨l', ⟨hlk, rfl, e0, e1, e8⟩ | ⟨p, G, hlk, rfl, e6, e7⟩⟩ := loop_sReckonA (k + 1) S (keyM S.held ⟨3, t, a, b, c⟩) 3 t a b c n S.next n (by omega) _ _ z (by rw [hkey]; exact hz) (by omega) (by rfl) (by rfl) (by rfl) (by rfl)
        · clear hz
          rw [hrk, hlk, hkey]
          simp only [e0, e1, e8, hkey, EVb, EVc, Int.reduceEq, Int.reduceToNat, Int.reduceLE, Int.reduceLT, Int.reduceAdd, Int.reduceMul, Int.reduceSub, Int.reduceNeg, Nat.reduceAdd, Nat.reduceSub, Nat.reduceMul, Nat.reduceLT, Nat.reduceBEq, Nat.reduceEqDiff, Nat.reduceLeDiff, FACTS, TYPES]
          rw [evalCode_drawn Try.f28 14 dr28_14]; rotate_left; rfl
          simp only [e0, e1, e8, hap, EVd, Nat.reducePow, Nat.reduceDiv, Nat.reduceMod, EVb, EVc, Int.reduceEq, Int.reduceToNat, Int.reduceLE, Int.reduceLT, Int.reduceAdd, Int.reduceMul, Int.reduceSub, Int.reduceNeg, Nat.reduceAdd, Nat.reduceSub, Nat.reduceMul, Nat.reduceLT, Nat.reduceBEq, Nat.reduceEqDiff, Nat.reduceLeDiff, FACTS, TYPES]
          simp only [e0, e1, e8, hw, Nat.succ_ne_zero, Nat.add_one_ne_zero, hS, EVb, EVc, Int.reduceEq, Int.reduceToNat, Int.reduceLE, Int.reduceLT, Int.reduceAdd, Int.reduceMul, Int.reduceSub, Int.reduceNeg, Nat.reduceAdd, Nat.reduceSub, Nat.reduceMul, Nat.reduceLT, Nat.reduceBEq, Nat.reduceEqDiff, Nat.reduceLeDiff, FACTS, TYPES]
          simp only [staO, keO, List.length_append, List.length_cons, List.length_nil, Nat.zero_add, encKeys_append, encKeys, enc6, List.append_nil]
          exact ⟨_, rfl⟩
        · clear hz
          rw [hrk, hlk]
          exact absurd hlk (by simp [hS, lookK])
    · clear h1
      have hkey := keyM_two (held := S.held) (i := ⟨4, t, a, b, c⟩) (.inr rfl) (fun h => absurd h.1 (by simp))
      simp only [Try.f28, aI, ii, EVb, EVc, Int.reduceEq, Int.reduceToNat, Int.reduceLE, Int.reduceLT, Int.reduceAdd, Int.reduceMul, Int.reduceSub, Int.reduceNeg, Nat.reduceAdd, Nat.reduceSub, Nat.reduceMul, Nat.reduceLT, Nat.reduceBEq, Nat.reduceEqDiff, Nat.reduceLeDiff, FACTS, TYPES]
      rw [evalCode_drawn Try.f28 3 dr28_3]; rotate_left; rfl
      simp only [a0, a1, hel, hxa, EVd, Nat.reducePow, Nat.reduceDiv, Nat.reduceMod, EVb, EVc, Int.reduceEq, Int.reduceToNat, Int.reduceLE, Int.reduceLT, Int.reduceAdd, Int.reduceMul, Int.reduceSub, Int.reduceNeg, Nat.reduceAdd, Nat.reduceSub, Nat.reduceMul, Nat.reduceLT, Nat.reduceBEq, Nat.reduceEqDiff, Nat.reduceLeDiff, FACTS, TYPES]
      rw [evalCode_drawn Try.f28 5 dr28_5]; rotate_left; rfl
      simp only [a0, a1, b0, b1, hel, hxa, hxb, EVd, Nat.reducePow, Nat.reduceDiv, Nat.reduceMod, EVb, EVc, Int.reduceEq, Int.reduceToNat, Int.reduceLE, Int.reduceLT, Int.reduceAdd, Int.reduceMul, Int.reduceSub, Int.reduceNeg, Nat.reduceAdd, Nat.reduceSub, Nat.reduceMul, Nat.reduceLT, Nat.reduceBEq, Nat.reduceEqDiff, Nat.reduceLeDiff, FACTS, TYPES]
      rw [evalCode_loopB LB28_9 lp28_9]; rotate_left; rfl; rfl; rfl
      generalize hz : loopR _ _ _ _ _ _ _ _ _ _ _ _ = z
      obtain ⟨l', ⟨hlk, rfl, e0, e1, e8⟩ | ⟨p, G, hlk, rfl, e6, e7⟩⟩ := loop_sReckonA (k + 1) S (keyM S.held ⟨4, t, a, b, c⟩) 4 t a b c n S.next n (by omega) _ _ z (by rw [hkey]; exact hz) (by omega) (by rfl) (by rfl) (by rfl) (by rfl)
      · clear hz
        rw [hrk, hlk, hkey]
        simp only [e0, e1, e8, hkey, EVb, EVc, Int.reduceEq, Int.reduceToNat, Int.reduceLE, Int.reduceLT, Int.reduceAdd, Int.reduceMul, Int.reduceSub, Int.reduceNeg, Nat.reduceAdd, Nat.reduceSub, Nat.reduceMul, Nat.reduceLT, Nat.reduceBEq, Nat.reduceEqDiff, Nat.reduceLeDiff, FACTS, TYPES]
        rw [evalCode_drawn Try.f28 14 dr28_14]; rotate_left; rfl
        simp only [e0, e1, e8, hap, EVd, Nat.reducePow, Nat.reduceDiv, Nat.reduceMod, EVb, EVc, Int.reduceEq, Int.reduceToNat, Int.reduceLE, Int.reduceLT, Int.reduceAdd, Int.reduceMul, Int.reduceSub, Int.reduceNeg, Nat.reduceAdd, Nat.reduceSub, Nat.reduceMul, Nat.reduceLT, Nat.reduceBEq, Nat.reduceEqDiff, Nat.reduceLeDiff, FACTS, TYPES]
        simp only [e0, e1, e8, hw, Nat.succ_ne_zero, Nat.add_one_ne_zero, hS, EVb, EVc, Int.reduceEq, Int.reduceToNat, Int.reduceLE, Int.reduceLT, Int.reduceAdd, Int.reduceMul, Int.reduceSub, Int.reduceNeg, Nat.reduceAdd, Nat.reduceSub, Nat.reduceMul, Nat.reduceLT, Nat.reduceBEq, Nat.reduceEqDiff, Nat.reduceLeDiff, FACTS, TYPES]
        simp only [staO, keO, List.length_append, List.length_cons, List.length_nil, Nat.zero_add, encKeys_append, encKeys, enc6, List.append_nil]
        exact ⟨_, rfl⟩
      · clear hz
        rw [hrk, hlk]
        exact absurd hlk (by simp [hS, lookK])
  · have h3 : ¬ o = 3 := fun h => h34 (.inl h)
    have h4 : ¬ o = 4 := fun h => h34 (.inr h)
    have hkey := keyM_one (held := S.held) (i := ⟨o, t, a, b, c⟩) h34
    simp only [Try.f28, aI, ii, h1, h3, h4, EVb, EVc, Int.reduceEq, Int.reduceToNat, Int.reduceLE, Int.reduceLT, Int.reduceAdd, Int.reduceMul, Int.reduceSub, Int.reduceNeg, Nat.reduceAdd, Nat.reduceSub, Nat.reduceMul, Nat.reduceLT, Nat.reduceBEq, Nat.reduceEqDiff, Nat.reduceLeDiff, FACTS, TYPES]
    rw [evalCode_drawn Try.f28 3 dr28_3]; rotate_left; rfl
    simp only [h3, h4, a0, a1, hel, hxa, EVd, Nat.reducePow, Nat.reduceDiv, Nat.reduceMod, EVb, EVc, Int.reduceEq, Int.reduceToNat, Int.reduceLE, Int.reduceLT, Int.reduceAdd, Int.reduceMul, Int.reduceSub, Int.reduceNeg, Nat.reduceAdd, Nat.reduceSub, Nat.reduceMul, Nat.reduceLT, Nat.reduceBEq, Nat.reduceEqDiff, Nat.reduceLeDiff, FACTS, TYPES]
    rw [evalCode_loopB LB28_9 lp28_9]; rotate_left; rfl; rfl; rfl
    generalize hz : loopR _ _ _ _ _ _ _ _ _ _ _ _ = z
    obtain ⟨l', ⟨hlk, rfl, e0, e1, e8⟩ | ⟨p, G, hlk, rfl, e6, e7⟩⟩ := loop_sReckonA (k + 1) S (keyM S.held ⟨o, t, a, b, c⟩) o t a b c n S.next n (by omega) _ _ z (by rw [hkey]; exact hz) (by omega) (by rfl) (by rfl) (by rfl) (by rfl)
    · clear hz
      rw [hrk, hlk, hkey]
      simp only [e0, e1, e8, hkey, EVb, EVc, Int.reduceEq, Int.reduceToNat, Int.reduceLE, Int.reduceLT, Int.reduceAdd, Int.reduceMul, Int.reduceSub, Int.reduceNeg, Nat.reduceAdd, Nat.reduceSub, Nat.reduceMul, Nat.reduceLT, Nat.reduceBEq, Nat.reduceEqDiff, Nat.reduceLeDiff, FACTS, TYPES]
      rw [evalCode_drawn Try.f28 14 dr28_14]; rotate_left; rfl
      simp only [e0, e1, e8, hap, EVd, Nat.reducePow, Nat.reduceDiv, Nat.reduceMod, EVb, EVc, Int.reduceEq, Int.reduceToNat, Int.reduceLE, Int.reduceLT, Int.reduceAdd, Int.reduceMul, Int.reduceSub, Int.reduceNeg, Nat.reduceAdd, Nat.reduceSub, Nat.reduceMul, Nat.reduceLT, Nat.reduceBEq, Nat.reduceEqDiff, Nat.reduceLeDiff, FACTS, TYPES]
      simp only [e0, e1, e8, hw, Nat.succ_ne_zero, Nat.add_one_ne_zero, hS, EVb, EVc, Int.reduceEq, Int.reduceToNat, Int.reduceLE, Int.reduceLT, Int.reduceAdd, Int.reduceMul, Int.reduceSub, Int.reduceNeg, Nat.reduceAdd, Nat.reduceSub, Nat.reduceMul, Nat.reduceLT, Nat.reduceBEq, Nat.reduceEqDiff, Nat.reduceLeDiff, FACTS, TYPES]
      simp only [staO, keO, List.length_append, List.length_cons, List.length_nil, Nat.zero_add, encKeys_append, encKeys, enc6, List.append_nil]
      exact ⟨_, rfl⟩
    · clear hz
      rw [hrk, hlk]
      exact absurd hlk (by simp [hS, lookK])
theorem sReckonB_ev (k : Nat) (S : St) (hS : S.keys ≠ []) (n o t a b c : Int) (h1 : o ≠ 1) (ha : 0 ≤ a ∧ a < S.held.length) (hb : o = 3 ∨ o = 4 → 0 ≤ b ∧ b < S.held.length) (hn : 0 ≤ S.next ∧ S.next < 1000000) (hl : S.keys.length ≤ 100000) (hk : S.keys.length + 5 < k) :
    ∃ G, evalT Try.prog (mkHints tab) (k+2) (.fn 28) [.ptr 0 0, ii n, aI o t a b c] [staO S, rI S.held, keO S.keys] = some (.tup [ii (reckonM S n ⟨o, t, a, b, c⟩).1, ii (reckonM S n ⟨o, t, a, b, c⟩).2.1], staO (reckonM S n ⟨o, t, a, b, c⟩).2.2 :: rI S.held :: keO (reckonM S n ⟨o, t, a, b, c⟩).2.2.keys :: G) := by
  obtain ⟨a0, a1⟩ := ha
  have hel := encInts_length S.held
  have hxa := encInts_getD a0 a1
  have hw : IntKind.wrap .i64 (S.next + 1) = S.next + 1 := wrap64 (by omega) (by omega)
  have hrk : reckonM S n ⟨o, t, a, b, c⟩ = match lookK (keyM S.held ⟨o, t, a, b, c⟩) S.keys with
      | some p => (p.2.2.1, p.2.2.2, S)
      | none => (S.next, n, { S with keys := S.keys ++ [(keyM S.held ⟨o, t, a, b, c⟩, S.next, n)], next := S.next + 1 }) := by
    rw [reckonM, if_neg h1]
    rfl
  have hap : ∀ (x0 x1 : AObj) (X : Heap) (cs : List IV), apO 110 6 48 (some 2) (lv 2 6 S.keys.length) (x0 :: x1 :: keO S.keys :: X) (some (cs, 1)) = some (lv 2 6 (S.keys.length + 1), x0 :: x1 :: lo 110 (S.keys.length + 1) (encKeys S.keys ++ cs) :: X) := fun x0 x1 X cs =>
    apO_lv (s := 2) (H := x0 :: x1 :: keO S.keys :: X) (by decide) (Nat.le_trans (Nat.mul_le_mul_right 48 (show S.keys.length + 1 ≤ 100001 by omega)) (by decide)) (by decide) rfl (encKeys_length _)
  have hH : [staO S, rI S.held, keO S.keys] ++ [.slot] = staO S :: rI S.held :: keO S.keys :: [.slot,] := by first | rfl | (simp only [keO, hS]; rfl)
  rw [ev28, hH]
  by_cases h34 : o = 3 ∨ o = 4
  · obtain ⟨b0, b1⟩ := hb h34
    have hxb := encInts_getD b0 b1
    rcases h34 with rfl | rfl
    · clear h1
      simp only [Try.f28, aI, ii, EVb, EVc, Int.reduceEq, Int.reduceToNat, Int.reduceLE, Int.reduceLT, Int.reduceAdd, Int.reduceMul, Int.reduceSub, Int.reduceNeg, Nat.reduceAdd, Nat.reduceSub, Nat.reduceMul, Nat.reduceLT, Nat.reduceBEq, Nat.reduceEqDiff, Nat.reduceLeDiff, FACTS, TYPES]
      rw [evalCode_drawn Try.f28 3 dr28_3]; rotate_left; rfl
      simp only [a0, a1, hel, hxa, EVd, Nat.reducePow, Nat.reduceDiv, Nat.reduceMod, EVb, EVc, Int.reduceEq, Int.reduceToNat, Int.reduceLE, Int.reduceLT, Int.reduceAdd, Int.reduceMul, Int.reduceSub, Int.reduceNeg, Nat.reduceAdd, Nat.reduceSub, Nat.reduceMul, Nat.reduceLT, Nat.reduceBEq, Nat.reduceEqDiff, Nat.reduceLeDiff, FACTS, TYPES]
      rw [evalCode_drawn Try.f28 5 dr28_5]; rotate_left; rfl
      by_cases hlt : S.held.getD b.toNat 0 < S.held.getD a.toNat 0
      · have hkey := keyM_swap (held := S.held) (i := ⟨3, t, a, b, c⟩) rfl hlt
        simp only [a0, a1, b0, b1, hel, hxa, hxb, hlt, EVd, Nat.reducePow, Nat.reduceDiv, Nat.reduceMod, EVb, EVc, Int.reduceEq, Int.reduceToNat, Int.reduceLE, Int.reduceLT, Int.reduceAdd, Int.reduceMul, Int.reduceSub, Int.reduceNeg, Nat.reduceAdd, Nat.reduceSub, Nat.reduceMul, Nat.reduceLT, Nat.reduceBEq, Nat.reduceEqDiff, Nat.reduceLeDiff, FACTS, TYPES]
        rw [evalCode_loopB LB28_9 lp28_9]; rotate_left; rfl; rfl; rfl
        generalize hz : loopR _ _ _ _ _ _ _ _ _ _ _ _ = z
        obtain ⟨l', ⟨hlk, rfl, e0, e1, e8⟩ | ⟨p, G, hlk, rfl, e6, e7⟩⟩ := loop_sReckonB (k + 1) S (keyM S.held ⟨3, t, a, b, c⟩) 3 t a b c n S.next n (by omega) _ _ z (by rw [hkey]; exact hz) (by omega) (by rfl) (by rfl) (by rfl) (by rfl)
        · clear hz
          rw [hrk, hlk, hkey]
          simp only [e0, e1, e8, hkey, EVb, EVc, Int.reduceEq, Int.reduceToNat, Int.reduceLE, Int.reduceLT, Int.reduceAdd, Int.reduceMul, Int.reduceSub, Int.reduceNeg, Nat.reduceAdd, Nat.reduceSub, Nat.reduceMul, Nat.reduceLT, Nat.reduceBEq, Nat.reduceEqDiff, Nat.reduceLeDiff, FACTS, TYPES]
          rw [evalCode_drawn Try.f28 14 dr28_14]; rotate_left; rfl
          simp only [e0, e1, e8, hap, EVd, Nat.reducePow, Nat.reduceDiv, Nat.reduceMod, EVb, EVc, Int.reduceEq, Int.reduceToNat, Int.reduceLE, Int.reduceLT, Int.reduceAdd, Int.reduceMul, Int.reduceSub, Int.reduceNeg, Nat.reduceAdd, Nat.reduceSub, Nat.reduceMul, Nat.reduceLT, Nat.reduceBEq, Nat.reduceEqDiff, Nat.reduceLeDiff, FACTS, TYPES]
          simp only [e0, e1, e8, hw, Nat.succ_ne_zero, Nat.add_one_ne_zero, hS, EVb, EVc, Int.reduceEq, Int.reduceToNat, Int.reduceLE, Int.reduceLT, Int.reduceAdd, Int.reduceMul, Int.reduceSub, Int.reduceNeg, Nat.reduceAdd, Nat.reduceSub, Nat.reduceMul, Nat.reduceLT, Nat.reduceBEq, Nat.reduceEqDiff, Nat.reduceLeDiff, FACTS, TYPES]
          simp only [staO, keO, List.length_append, List.length_cons, List.length_nil, Nat.zero_add, encKeys_append, encKeys, enc6, List.append_nil]
          exact ⟨_, rfl⟩
        · clear hz
          rw [hrk, hlk]
          exact ⟨_, by simp only [e6, e7, List.cons_append, List.nil_append, EVb, EVc, Int.reduceEq, Int.reduceToNat, Int.reduceLE, Int.reduceLT, Int.reduceAdd, Int.reduceMul, Int.reduceSub, Int.reduceNeg, Nat.reduceAdd, Nat.reduceSub, Nat.reduceMul, Nat.reduceLT, Nat.reduceBEq, Nat.reduceEqDiff, Nat.reduceLeDiff, FACTS, TYPES] <;> rfl⟩
      · have hkey := keyM_two (held := S.held) (i := ⟨3, t, a, b, c⟩) (.inl rfl) (fun h => hlt h.2)
        simp only [a0, a1, b0, b1, hel, hxa, hxb, hlt, EVd, Nat.reducePow, Nat.reduceDiv, Nat.reduceMod, EVb, EVc, Int.reduceEq, Int.reduceToNat, Int.reduceLE, Int.reduceLT, Int.reduceAdd, Int.reduceMul, Int.reduceSub, Int.reduceNeg, Nat.reduceAdd, Nat.reduceSub, Nat.reduceMul, Nat.reduceLT, Nat.reduceBEq, Nat.reduceEqDiff, Nat.reduceLeDiff, FACTS, TYPES]
        rw [evalCode_loopB LB28_9 lp28_9]; rotate_left; rfl; rfl; rfl
        generalize hz : loopR _ _ _ _ _ _ _ _ _ _ _ _ = z
        obtain ⟨l', ⟨hlk, rfl, e0, e1, e8⟩ | ⟨p, G, hlk, rfl, e6, e7⟩⟩ := loop_sReckonB (k + 1) S (keyM S.held ⟨3, t, a, b, c⟩) 3 t a b c n S.next n (by omega) _ _ z (by rw [hkey]; exact hz) (by omega) (by rfl) (by rfl) (by rfl) (by rfl)
        · clear hz
          rw [hrk, hlk, hkey]
          simp only [e0, e1, e8, hkey, EVb, EVc, Int.reduceEq, Int.reduceToNat, Int.reduceLE, Int.reduceLT, Int.reduceAdd, Int.reduceMul, Int.reduceSub, Int.reduceNeg, Nat.reduceAdd, Nat.reduceSub, Nat.reduceMul, Nat.reduceLT, Nat.reduceBEq, Nat.reduceEqDiff, Nat.reduceLeDiff, FACTS, TYPES]
          rw [evalCode_drawn Try.f28 14 dr28_14]; rotate_left; rfl
          simp only [e0, e1, e8, hap, EVd, Nat.reducePow, Nat.reduceDiv, Nat.reduceMod, EVb, EVc, Int.reduceEq, Int.reduceToNat, Int.reduceLE, Int.reduceLT, Int.reduceAdd, Int.reduceMul, Int.reduceSub, Int.reduceNeg, Nat.reduceAdd, Nat.reduceSub, Nat.reduceMul, Nat.reduceLT, Nat.reduceBEq, Nat.reduceEqDiff, Nat.reduceLeDiff, FACTS, TYPES]
          simp only [e0, e1, e8, hw, Nat.succ_ne_zero, Nat.add_one_ne_zero, hS, EVb, EVc, Int.reduceEq, Int.reduceToNat, Int.reduceLE, Int.reduceLT, Int.reduceAdd, Int.reduceMul, Int.reduceSub, Int.reduceNeg, Nat.reduceAdd, Nat.reduceSub, Nat.reduceMul, Nat.reduceLT, Nat.reduceBEq, Nat.reduceEqDiff, Nat.reduceLeDiff, FACTS, TYPES]
          simp only [staO, keO, List.length_append, List.length_cons, List.length_nil, Nat.zero_add, encKeys_append, encKeys, enc6, List.append_nil]
          exact ⟨_, rfl⟩
        · clear hz
          rw [hrk, hlk]
          exact ⟨_, by simp only [e6, e7, List.cons_append, List.nil_append, EVb, EVc, Int.reduceEq, Int.reduceToNat, Int.reduceLE, Int.reduceLT, Int.reduceAdd, Int.reduceMul, Int.reduceSub, Int.reduceNeg, Nat.reduceAdd, Nat.reduceSub, Nat.reduceMul, Nat.reduceLT, Nat.reduceBEq, Nat.reduceEqDiff, Nat.reduceLeDiff, FACTS, TYPES] <;> rfl⟩
    · clear h1
      have hkey := keyM_two (held := S.held) (i := ⟨4, t, a, b, c⟩) (.inr rfl) (fun h => absurd h.1 (by simp))
      simp only [Try.f28, aI, ii, EVb, EVc, Int.reduceEq, Int.reduceToNat, Int.reduceLE, Int.reduceLT, Int.reduceAdd, Int.reduceMul, Int.reduceSub, Int.reduceNeg, Nat.reduceAdd, Nat.reduceSub, Nat.reduceMul, Nat.reduceLT, Nat.reduceBEq, Nat.reduceEqDiff, Nat.reduceLeDiff, FACTS, TYPES]
      rw [evalCode_drawn Try.f28 3 dr28_3]; rotate_left; rfl
      simp only [a0, a1, hel, hxa, EVd, Nat.reducePow, Nat.reduceDiv, Nat.reduceMod, EVb, EVc, Int.reduceEq, Int.reduceToNat, Int.reduceLE, Int.reduceLT, Int.reduceAdd, Int.reduceMul, Int.reduceSub, Int.reduceNeg, Nat.reduceAdd, Nat.reduceSub, Nat.reduceMul, Nat.reduceLT, Nat.reduceBEq, Nat.reduceEqDiff, Nat.reduceLeDiff, FACTS, TYPES]
      rw [evalCode_drawn Try.f28 5 dr28_5]; rotate_left; rfl
      simp only [a0, a1, b0, b1, hel, hxa, hxb, EVd, Nat.reducePow, Nat.reduceDiv, Nat.reduceMod, EVb, EVc, Int.reduceEq, Int.reduceToNat, Int.reduceLE, Int.reduceLT, Int.reduceAdd, Int.reduceMul, Int.reduceSub, Int.reduceNeg, Nat.reduceAdd, Nat.reduceSub, Nat.reduceMul, Nat.reduceLT, Nat.reduceBEq, Nat.reduceEqDiff, Nat.reduceLeDiff, FACTS, TYPES]
      rw [evalCode_loopB LB28_9 lp28_9]; rotate_left; rfl; rfl; rfl
      generalize hz : loopR _ _ _ _ _ _ _ _ _ _ _ _ = z
      obtain ⟨l', ⟨hlk, rfl, e0, e1, e8⟩ | ⟨p, G, hlk, rfl, e6, e7⟩⟩ := loop_sReckonB (k + 1) S (keyM S.held ⟨4, t, a, b, c⟩) 4 t a b c n S.next n (by omega) _ _ z (by rw [hkey]; exact hz) (by omega) (by rfl) (by rfl) (by rfl) (by rfl)
      · clear hz
        rw [hrk, hlk, hkey]
        simp only [e0, e1, e8, hkey, EVb, EVc, Int.reduceEq, Int.reduceToNat, Int.reduceLE, Int.reduceLT, Int.reduceAdd, Int.reduceMul, Int.reduceSub, Int.reduceNeg, Nat.reduceAdd, Nat.reduceSub, Nat.reduceMul, Nat.reduceLT, Nat.reduceBEq, Nat.reduceEqDiff, Nat.reduceLeDiff, FACTS, TYPES]
        rw [evalCode_drawn Try.f28 14 dr28_14]; rotate_left; rfl
        simp only [e0, e1, e8, hap, EVd, Nat.reducePow, Nat.reduceDiv, Nat.reduceMod, EVb, EVc, Int.reduceEq, Int.reduceToNat, Int.reduceLE, Int.reduceLT, Int.reduceAdd, Int.reduceMul, Int.reduceSub, Int.reduceNeg, Nat.reduceAdd, Nat.reduceSub, Nat.reduceMul, Nat.reduceLT, Nat.reduceBEq, Nat.reduceEqDiff, Nat.reduceLeDiff, FACTS, TYPES]
        simp only [e0, e1, e8, hw, Nat.succ_ne_zero, Nat.add_one_ne_zero, hS, EVb, EVc, Int.reduceEq, Int.reduceToNat, Int.reduceLE, Int.reduceLT, Int.reduceAdd, Int.reduceMul, Int.reduceSub, Int.reduceNeg, Nat.reduceAdd, Nat.reduceSub, Nat.reduceMul, Nat.reduceLT, Nat.reduceBEq, Nat.reduceEqDiff, Nat.reduceLeDiff, FACTS, TYPES]
        simp only [staO, keO, List.length_append, List.length_cons, List.length_nil, Nat.zero_add, encKeys_append, encKeys, enc6, List.append_nil]
        exact ⟨_, rfl⟩
      · clear hz
        rw [hrk, hlk]
        exact ⟨_, by simp only [e6, e7, List.cons_append, List.nil_append, EVb, EVc, Int.reduceEq, Int.reduceToNat, Int.reduceLE, Int.reduceLT, Int.reduceAdd, Int.reduceMul, Int.reduceSub, Int.reduceNeg, Nat.reduceAdd, Nat.reduceSub, Nat.reduceMul, Nat.reduceLT, Nat.reduceBEq, Nat.reduceEqDiff, Nat.reduceLeDiff, FACTS, TYPES] <;> rfl⟩
  · have h3 : ¬ o = 3 := fun h => h34 (.inl h)
    have h4 : ¬ o = 4 := fun h => h34 (.inr h)
    have hkey := keyM_one (held := S.held) (i := ⟨o, t, a, b, c⟩) h34
    simp only [Try.f28, aI, ii, h1, h3, h4, EVb, EVc, Int.reduceEq, Int.reduceToNat, Int.reduceLE, Int.reduceLT, Int.reduceAdd, Int.reduceMul, Int.reduceSub, Int.reduceNeg, Nat.reduceAdd, Nat.reduceSub, Nat.reduceMul, Nat.reduceLT, Nat.reduceBEq, Nat.reduceEqDiff, Nat.reduceLeDiff, FACTS, TYPES]
    rw [evalCode_drawn Try.f28 3 dr28_3]; rotate_left; rfl
    simp only [h3, h4, a0, a1, hel, hxa, EVd, Nat.reducePow, Nat.reduceDiv, Nat.reduceMod, EVb, EVc, Int.reduceEq, Int.reduceToNat, Int.reduceLE, Int.reduceLT, Int.reduceAdd, Int.reduceMul, Int.reduceSub, Int.reduceNeg, Nat.reduceAdd, Nat.reduceSub, Nat.reduceMul, Nat.reduceLT, Nat.reduceBEq, Nat.reduceEqDiff, Nat.reduceLeDiff, FACTS, TYPES]
    rw [evalCode_loopB LB28_9 lp28_9]; rotate_left; rfl; rfl; rfl
    generalize hz : loopR _ _ _ _ _ _ _ _ _ _ _ _ = z
    obtain ⟨l', ⟨hlk, rfl, e0, e1, e8⟩ | ⟨p, G, hlk, rfl, e6, e7⟩⟩ := loop_sReckonB (k + 1) S (keyM S.held ⟨o, t, a, b, c⟩) o t a b c n S.next n (by omega) _ _ z (by rw [hkey]; exact hz) (by omega) (by rfl) (by rfl) (by rfl) (by rfl)
    · clear hz
      rw [hrk, hlk, hkey]
      simp only [e0, e1, e8, hkey, EVb, EVc, Int.reduceEq, Int.reduceToNat, Int.reduceLE, Int.reduceLT, Int.reduceAdd, Int.reduceMul, Int.reduceSub, Int.reduceNeg, Nat.reduceAdd, Nat.reduceSub, Nat.reduceMul, Nat.reduceLT, Nat.reduceBEq, Nat.reduceEqDiff, Nat.reduceLeDiff, FACTS, TYPES]
      rw [evalCode_drawn Try.f28 14 dr28_14]; rotate_left; rfl
      simp only [e0, e1, e8, hap, EVd, Nat.reducePow, Nat.reduceDiv, Nat.reduceMod, EVb, EVc, Int.reduceEq, Int.reduceToNat, Int.reduceLE, Int.reduceLT, Int.reduceAdd, Int.reduceMul, Int.reduceSub, Int.reduceNeg, Nat.reduceAdd, Nat.reduceSub, Nat.reduceMul, Nat.reduceLT, Nat.reduceBEq, Nat.reduceEqDiff, Nat.reduceLeDiff, FACTS, TYPES]
      simp only [e0, e1, e8, hw, Nat.succ_ne_zero, Nat.add_one_ne_zero, hS, EVb, EVc, Int.reduceEq, Int.reduceToNat, Int.reduceLE, Int.reduceLT, Int.reduceAdd, Int.reduceMul, Int.reduceSub, Int.reduceNeg, Nat.reduceAdd, Nat.reduceSub, Nat.reduceMul, Nat.reduceLT, Nat.reduceBEq, Nat.reduceEqDiff, Nat.reduceLeDiff, FACTS, TYPES]
      simp only [staO, keO, List.length_append, List.length_cons, List.length_nil, Nat.zero_add, encKeys_append, encKeys, enc6, List.append_nil]
      exact ⟨_, rfl⟩
    · clear hz
      rw [hrk, hlk]
      exact ⟨_, by simp only [e6, e7, List.cons_append, List.nil_append, EVb, EVc, Int.reduceEq, Int.reduceToNat, Int.reduceLE, Int.reduceLT, Int.reduceAdd, Int.reduceMul, Int.reduceSub, Int.reduceNeg, Nat.reduceAdd, Nat.reduceSub, Nat.reduceMul, Nat.reduceLT, Nat.reduceBEq, Nat.reduceEqDiff, Nat.reduceLeDiff, FACTS, TYPES] <;> rfl⟩
end Go.Proofs.Sw
