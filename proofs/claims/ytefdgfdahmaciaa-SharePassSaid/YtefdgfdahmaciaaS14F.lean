/- A part of the proof: what functions of the program answer, of whatever arguments, reckoned with letters by the interpreter's equations. Its conditions stand in each theorem. -/
import Derived.Test.YtefdgfdahmaciaaS14E
namespace Go.Proofs.Sw
set_option linter.unusedVariables false
set_option linter.unusedSimpArgs false
set_option linter.unusedSectionVars false
open Go.Ab
variable [Globals]
/-- The reference's keys, as they lie in a row. -/
abbrev enc6 (e : Ent) : List IV := [.int .i64 e.1.op, .int .i64 e.1.a, .int .i64 e.1.b, .int .i64 e.1.c, .int .i64 e.2.2, .int .i64 e.2.1]
def encKeys : List Ent → List IV
  | [] => []
  | e :: l => enc6 e ++ encKeys l
theorem encKeys_length : ∀ l : List Ent, (encKeys l).length = l.length * 6
  | [] => rfl
  | e :: l => by rw [encKeys, List.length_append, encKeys_length l]; simp; omega
theorem encKeys_append : ∀ l m : List Ent, encKeys (l ++ m) = encKeys l ++ encKeys m
  | [], m => rfl
  | e :: l, m => by rw [List.cons_append, encKeys, encKeys, encKeys_append l m, List.append_assoc]
theorem encKeys_drop : ∀ (l : List Ent) (i : Nat), (encKeys l).drop (i * 6) = encKeys (l.drop i)
  | [], i => by simp [encKeys]
  | x :: l, 0 => by simp
  | x :: l, i + 1 => by
    rw [encKeys, List.drop_succ_cons, ← encKeys_drop l i, show (i + 1) * 6 = (enc6 x).length + i * 6 by simp; omega, List.drop_append]
    simp
theorem encKeys_get {l : List Ent} {i : Nat} (h : i < l.length) : (if i * 6 + 6 ≤ (encKeys l).length then some (((encKeys l).drop (i * 6)).take 6) else none) = some (enc6 l[i]) := by
  rw [encKeys_length, if_pos (by omega), encKeys_drop]
  have : l.drop i = l[i] :: l.drop (i + 1) := (List.drop_eq_getElem_cons h)
  rw [this, encKeys]
  simp
theorem lookK_none {k : Key} : ∀ {es : List Ent}, (∀ j, (h : j < es.length) → es[j].1 ≠ k) → lookK k es = none
  | [], _ => rfl
  | e :: es, h => by
    rw [lookK, if_neg (fun hk => h 0 (by simp) (Eq.symm hk)), lookK_none fun j hj => h (j + 1) (by simpa using hj)]
    rfl
theorem lookK_some {k : Key} : ∀ {es : List Ent} {i : Nat} (hi : i < es.length), es[i].1 = k → (∀ j, (h : j < i) → es[j].1 ≠ k) → lookK k es = some (i, es[i])
  | e :: es, 0, _, h, _ => by rw [lookK, if_pos (show k = e.1 from h.symm)]; rfl
  | e :: es, i + 1, hi, h, hp => by
    rw [lookK, if_neg (fun hk => hp 0 (by omega) (Eq.symm hk)), lookK_some (i := i) (by simpa using hi) h fun j hj => hp (j + 1) (by omega)]
    rfl
/-- The reference's state in memory: its keys at place 2. -/
abbrev staO (S : St) : AObj := .cells 61 [hI 1 S.held.length, lv 2 6 S.keys.length, ii S.next]
abbrev keO (es : List Ent) : AObj := lo 110 es.length (encKeys es)
theorem kcmp {e : Ent} {k : Key} (h : ¬ e.1 = k) (q1 : e.1.op = k.op) (q2 : e.1.a = k.a) (q3 : e.1.b = k.b) : ¬ e.1.c = k.c := fun q4 => h (by cases h1 : e.1; cases h2 : k; rw [h1, h2] at q1 q2 q3 q4; simp only at q1 q2 q3 q4; rw [q1, q2, q3, q4])
theorem loop_sReckonA (kf : Nat) (S : St) (key : Key) (o t a b c : Int) (nv vv : Int) (n : Int) (hl : S.keys.length ≤ 1000000) (k : Nat) (l : Ass) (z : Option Out) (hz : loopR Try.prog tab kf none LB28_9 28 139 [0, 1, 8, 9] 5 k l ([staO S, rI S.held, keO S.keys,  .cells 34 [ii o, ii t, ii a, ii b, ii c], .cells 110 [ii key.op, ii key.a, ii key.b, ii key.c, ii nv, ii vv]]) = z) (hk : S.keys.length < k) (a0 : asc l 0 = .ptr 0 0) (a1 : asc l 1 = ii n) (a8 : asc l 8 = .ptr 4 0) (a9 : asc l 9 = ii 0) :
    ∃ l', (lookK key S.keys = none ∧ z = some (.exit 0 (fr 139 l') [staO S, rI S.held, keO S.keys,  .cells 34 [ii o, ii t, ii a, ii b, ii c], .cells 110 [ii key.op, ii key.a, ii key.b, ii key.c, ii nv, ii vv]]) ∧ asc l' 0 = .ptr 0 0 ∧ asc l' 1 = ii n ∧ asc l' 8 = .ptr 4 0) ∨ (∃ p G, lookK key S.keys = some p ∧ z = some (.ret (fr 139 l') ([staO S, rI S.held, keO S.keys,  .cells 34 [ii o, ii t, ii a, ii b, ii c], .cells 110 [ii key.op, ii key.a, ii key.b, ii key.c, ii nv, ii vv]] ++ G)) ∧ asc l' 6 = ii p.2.2.1 ∧ asc l' 7 = ii p.2.2.2) := by
  subst hz
  have hel := encKeys_length S.keys
  refine loop_nat (S.keys.length) (fun k l H => loopR Try.prog tab kf none LB28_9 28 139 [0, 1, 8, 9] 5 k l H)
    (fun i l H => asc l 0 = .ptr 0 0 ∧ asc l 1 = ii n ∧ asc l 8 = .ptr 4 0 ∧ asc l 9 = ii i ∧ (∀ j, (h : j < i) → ∀ h2 : j < S.keys.length, S.keys[j].1 ≠ key) ∧ ∃ G, H = ([staO S, rI S.held, keO S.keys,  .cells 34 [ii o, ii t, ii a, ii b, ii c], .cells 110 [ii key.op, ii key.a, ii key.b, ii key.c, ii nv, ii vv]]) ++ G)
    (fun z => ∃ l', (lookK key S.keys = none ∧ z = some (.exit 0 (fr 139 l') [staO S, rI S.held, keO S.keys,  .cells 34 [ii o, ii t, ii a, ii b, ii c], .cells 110 [ii key.op, ii key.a, ii key.b, ii key.c, ii nv, ii vv]]) ∧ asc l' 0 = .ptr 0 0 ∧ asc l' 1 = ii n ∧ asc l' 8 = .ptr 4 0) ∨ (∃ p G, lookK key S.keys = some p ∧ z = some (.ret (fr 139 l') ([staO S, rI S.held, keO S.keys,  .cells 34 [ii o, ii t, ii a, ii b, ii c], .cells 110 [ii key.op, ii key.a, ii key.b, ii key.c, ii nv, ii vv]] ++ G)) ∧ asc l' 6 = ii p.2.2.1 ∧ asc l' 7 = ii p.2.2.2)) ?_ (S.keys.length) 0 k l _ (by omega) hk ⟨a0, a1, a8, a9, fun j h => absurd h (by omega), [], by rw [List.append_nil]⟩
  clear hk a0 a1 a8 a9
  rintro i k l H hi ⟨a0, a1, a8, a9, hp, G, rfl⟩
  have ht : trim 5 (fr 139 (keep l [0, 1, 8, 9])) (([staO S, rI S.held, keO S.keys,  .cells 34 [ii o, ii t, ii a, ii b, ii c], .cells 110 [ii key.op, ii key.a, ii key.b, ii key.c, ii nv, ii vv]]) ++ G) = ([staO S, rI S.held, keO S.keys,  .cells 34 [ii o, ii t, ii a, ii b, ii c], .cells 110 [ii key.op, ii key.a, ii key.b, ii key.c, ii nv, ii vv]]) := trim_app (by simp) (by simp only [a0, a1, a8, a9, List.all_append, EVb, EVc, Int.reduceEq, Int.reduceToNat, Int.reduceLE, Int.reduceLT, Int.reduceAdd, Int.reduceMul, Int.reduceSub, Int.reduceNeg, Nat.reduceAdd, Nat.reduceSub, Nat.reduceMul, Nat.reduceLT, Nat.reduceBEq, Nat.reduceEqDiff, Nat.reduceLeDiff]) (by simp only [List.all_append, EVb, EVc, Int.reduceEq, Int.reduceToNat, Int.reduceLE, Int.reduceLT, Int.reduceAdd, Int.reduceMul, Int.reduceSub, Int.reduceNeg, Nat.reduceAdd, Nat.reduceSub, Nat.reduceMul, Nat.reduceLT, Nat.reduceBEq, Nat.reduceEqDiff, Nat.reduceLeDiff])
  by_cases hc : i < (S.keys.length)
  · have hc' : (i : Int) < ((S.keys.length : Nat) : Int) := by omega
    have hc0 : (0 : Int) ≤ i := by omega
    have hw : IntKind.wrap .i64 ((i : Int) + 1) = ((i + 1 : Nat) : Int) := by rw [wrap64 (by omega) (by omega)]; omega
    have hgt := encKeys_get hc
    have hpi := hp
    have e1 := lv_pos (s := 2) (sz := 6) (show 0 < S.keys.length by omega)
    have e2 := lo_pos (e := 110) (cells := encKeys S.keys) (show 0 < S.keys.length by omega)
    obtain ⟨e, he⟩ : ∃ e, e = S.keys[i] := ⟨_, rfl⟩
    rw [← he, hel] at hgt
    by_cases heq : e.1 = key
    · refine .inl ?_
      have hlk := lookK_some hc (by rw [← he]; exact heq) (fun j hj => hp j hj (by omega))
      rw [← he] at hlk
      simp only [loopR_succ, ht]
      simp only [a0, a1, a8, a9, hc', hc0, hw, hgt, hel, heq, e1, e2, loopR_succ, loopOf, findLoop, firstRegion, Option.some_or, Option.none_or, Option.getD_some, Option.some.injEq, Try.f28, EVb, EVc, Int.reduceEq, Int.reduceToNat, Int.reduceLE, Int.reduceLT, Int.reduceAdd, Int.reduceMul, Int.reduceSub, Int.reduceNeg, Nat.reduceAdd, Nat.reduceSub, Nat.reduceMul, Nat.reduceLT, Nat.reduceBEq, Nat.reduceEqDiff, Nat.reduceLeDiff, FACTS, TYPES]
      rw [evalCode_drawn Try.f28 13 dr28_13]; rotate_left; rfl
      simp only [a0, a1, a8, a9, hc', hc0, hw, EVd, Nat.reducePow, Nat.reduceDiv, Nat.reduceMod, EVb, EVc, Int.reduceEq, Int.reduceToNat, Int.reduceLE, Int.reduceLT, Int.reduceAdd, Int.reduceMul, Int.reduceSub, Int.reduceNeg, Nat.reduceAdd, Nat.reduceSub, Nat.reduceMul, Nat.reduceLT, Nat.reduceBEq, Nat.reduceEqDiff, Nat.reduceLeDiff, FACTS, TYPES]
      exact ⟨_, .inr ⟨_, _, hlk, rfl, (by rfl), (by rfl)⟩⟩
    · have hnew : ∀ j, (h : j < i + 1) → ∀ h2 : j < S.keys.length, S.keys[j].1 ≠ key := fun j hj h2 => by
        by_cases e' : j = i
        · subst e'; rw [← he]; exact heq
        · exact hp j (by omega) h2
      by_cases q1 : e.1.op = key.op
      · by_cases q2 : e.1.a = key.a
        · by_cases q3 : e.1.b = key.b
          · have q4 := kcmp heq q1 q2 q3
            simp only [loopR_succ, ht]
            simp only [a0, a1, a8, a9, hc', hc0, hw, hgt, hel, q1, q2, q3, q4, e1, e2, loopR_succ, loopOf, findLoop, firstRegion, Option.some_or, Option.none_or, Option.getD_some, Option.some.injEq, Try.f28, EVb, EVc, Int.reduceEq, Int.reduceToNat, Int.reduceLE, Int.reduceLT, Int.reduceAdd, Int.reduceMul, Int.reduceSub, Int.reduceNeg, Nat.reduceAdd, Nat.reduceSub, Nat.reduceMul, Nat.reduceLT, Nat.reduceBEq, Nat.reduceEqDiff, Nat.reduceLeDiff, FACTS, TYPES]
            exact .inr ⟨_, _, hc, rfl, (by rfl), (by rfl), (by rfl), (by rfl), hnew, _, by first | rfl | (rw [e2]; rfl)⟩
          · simp only [loopR_succ, ht]
            simp only [a0, a1, a8, a9, hc', hc0, hw, hgt, hel, q1, q2, q3, e1, e2, loopR_succ, loopOf, findLoop, firstRegion, Option.some_or, Option.none_or, Option.getD_some, Option.some.injEq, Try.f28, EVb, EVc, Int.reduceEq, Int.reduceToNat, Int.reduceLE, Int.reduceLT, Int.reduceAdd, Int.reduceMul, Int.reduceSub, Int.reduceNeg, Nat.reduceAdd, Nat.reduceSub, Nat.reduceMul, Nat.reduceLT, Nat.reduceBEq, Nat.reduceEqDiff, Nat.reduceLeDiff, FACTS, TYPES]
            exact .inr ⟨_, _, hc, rfl, (by rfl), (by rfl), (by rfl), (by rfl), hnew, _, by first | rfl | (rw [e2]; rfl)⟩
        · simp only [loopR_succ, ht]
          simp only [a0, a1, a8, a9, hc', hc0, hw, hgt, hel, q1, q2, e1, e2, loopR_succ, loopOf, findLoop, firstRegion, Option.some_or, Option.none_or, Option.getD_some, Option.some.injEq, Try.f28, EVb, EVc, Int.reduceEq, Int.reduceToNat, Int.reduceLE, Int.reduceLT, Int.reduceAdd, Int.reduceMul, Int.reduceSub, Int.reduceNeg, Nat.reduceAdd, Nat.reduceSub, Nat.reduceMul, Nat.reduceLT, Nat.reduceBEq, Nat.reduceEqDiff, Nat.reduceLeDiff, FACTS, TYPES]
          exact .inr ⟨_, _, hc, rfl, (by rfl), (by rfl), (by rfl), (by rfl), hnew, _, by first | rfl | (rw [e2]; rfl)⟩
      · simp only [loopR_succ, ht]
        simp only [a0, a1, a8, a9, hc', hc0, hw, hgt, hel, q1, e1, e2, loopR_succ, loopOf, findLoop, firstRegion, Option.some_or, Option.none_or, Option.getD_some, Option.some.injEq, Try.f28, EVb, EVc, Int.reduceEq, Int.reduceToNat, Int.reduceLE, Int.reduceLT, Int.reduceAdd, Int.reduceMul, Int.reduceSub, Int.reduceNeg, Nat.reduceAdd, Nat.reduceSub, Nat.reduceMul, Nat.reduceLT, Nat.reduceBEq, Nat.reduceEqDiff, Nat.reduceLeDiff, FACTS, TYPES]
        exact .inr ⟨_, _, hc, rfl, (by rfl), (by rfl), (by rfl), (by rfl), hnew, _, by first | rfl | (rw [e2]; rfl)⟩
  · refine .inl ?_
    obtain rfl : i = (S.keys.length) := by omega
    have hc' : ¬ ((((S.keys.length) : Nat) : Int) < (((S.keys.length) : Nat) : Int)) := by omega
    simp only [loopR_succ, ht]
    simp only [a0, a1, a8, a9, hc', lnv59, loopR_succ, loopOf, findLoop, firstRegion, Option.some_or, Option.none_or, Option.getD_some, Option.some.injEq, Try.f28, EVb, EVc, Int.reduceEq, Int.reduceToNat, Int.reduceLE, Int.reduceLT, Int.reduceAdd, Int.reduceMul, Int.reduceSub, Int.reduceNeg, Nat.reduceAdd, Nat.reduceSub, Nat.reduceMul, Nat.reduceLT, Nat.reduceBEq, Nat.reduceEqDiff, Nat.reduceLeDiff, FACTS, TYPES]
    exact ⟨_, .inl ⟨lookK_none fun j hj => hp j (by omega) hj, rfl, (by rfl), (by rfl), (by rfl)⟩⟩

theorem loop_sReckonB (kf : Nat) (S : St) (key : Key) (o t a b c : Int) (nv vv : Int) (n : Int) (hl : S.keys.length ≤ 1000000) (k : Nat) (l : Ass) (z : Option Out) (hz : loopR Try.prog tab kf none LB28_9 28 139 [0, 1, 8, 9] 6 k l ([staO S, rI S.held, keO S.keys, .slot, .cells 34 [ii o, ii t, ii a, ii b, ii c], .cells 110 [ii key.op, ii key.a, ii key.b, ii key.c, ii nv, ii vv]]) = z) (hk : S.keys.length < k) (a0 : asc l 0 = .ptr 0 0) (a1 : asc l 1 = ii n) (a8 : asc l 8 = .ptr 5 0) (a9 : asc l 9 = ii 0) :
    ∃ l', (lookK key S.keys = none ∧ z = some (.exit 0 (fr 139 l') [staO S, rI S.held, keO S.keys, .slot, .cells 34 [ii o, ii t, ii a, ii b, ii c], .cells 110 [ii key.op, ii key.a, ii key.b, ii key.c, ii nv, ii vv]]) ∧ asc l' 0 = .ptr 0 0 ∧ asc l' 1 = ii n ∧ asc l' 8 = .ptr 5 0) ∨ (∃ p G, lookK key S.keys = some p ∧ z = some (.ret (fr 139 l') ([staO S, rI S.held, keO S.keys, .slot, .cells 34 [ii o, ii t, ii a, ii b, ii c], .cells 110 [ii key.op, ii key.a, ii key.b, ii key.c, ii nv, ii vv]] ++ G)) ∧ asc l' 6 = ii p.2.2.1 ∧ asc l' 7 = ii p.2.2.2) := by
  subst hz
  have hel := encKeys_length S.keys
  refine loop_nat (S.keys.length) (fun k l H => loopR Try.prog tab kf none LB28_9 28 139 [0, 1, 8, 9] 6 k l H)
    (fun i l H => asc l 0 = .ptr 0 0 ∧ asc l 1 = ii n ∧ asc l 8 = .ptr 5 0 ∧ asc l 9 = ii i ∧ (∀ j, (h : j < i) → ∀ h2 : j < S.keys.length, S.keys[j].1 ≠ key) ∧ ∃ G, H = ([staO S, rI S.held, keO S.keys, .slot, .cells 34 [ii o, ii t, ii a, ii b, ii c], .cells 110 [ii key.op, ii key.a, ii key.b, ii key.c, ii nv, ii vv]]) ++ G)
    (fun z => ∃ l', (lookK key S.keys = none ∧ z = some (.exit 0 (fr 139 l') [staO S, rI S.held, keO S.keys, .slot, .cells 34 [ii o, ii t, ii a, ii b, ii c], .cells 110 [ii key.op, ii key.a, ii key.b, ii key.c, ii nv, ii vv]]) ∧ asc l' 0 = .ptr 0 0 ∧ asc l' 1 = ii n ∧ asc l' 8 = .ptr 5 0) ∨ (∃ p G, lookK key S.keys = some p ∧ z = some (.ret (fr 139 l') ([staO S, rI S.held, keO S.keys, .slot, .cells 34 [ii o, ii t, ii a, ii b, ii c], .cells 110 [ii key.op, ii key.a, ii key.b, ii key.c, ii nv, ii vv]] ++ G)) ∧ asc l' 6 = ii p.2.2.1 ∧ asc l' 7 = ii p.2.2.2)) ?_ (S.keys.length) 0 k l _ (by omega) hk ⟨a0, a1, a8, a9, fun j h => absurd h (by omega), [], by rw [List.append_nil]⟩
  clear hk a0 a1 a8 a9
  rintro i k l H hi ⟨a0, a1, a8, a9, hp, G, rfl⟩
  have ht : trim 6 (fr 139 (keep l [0, 1, 8, 9])) (([staO S, rI S.held, keO S.keys, .slot, .cells 34 [ii o, ii t, ii a, ii b, ii c], .cells 110 [ii key.op, ii key.a, ii key.b, ii key.c, ii nv, ii vv]]) ++ G) = ([staO S, rI S.held, keO S.keys, .slot, .cells 34 [ii o, ii t, ii a, ii b, ii c], .cells 110 [ii key.op, ii key.a, ii key.b, ii key.c, ii nv, ii vv]]) := trim_app (by simp) (by simp only [a0, a1, a8, a9, List.all_append, EVb, EVc, Int.reduceEq, Int.reduceToNat, Int.reduceLE, Int.reduceLT, Int.reduceAdd, Int.reduceMul, Int.reduceSub, Int.reduceNeg, Nat.reduceAdd, Nat.reduceSub, Nat.reduceMul, Nat.reduceLT, Nat.reduceBEq, Nat.reduceEqDiff, Nat.reduceLeDiff]) (by simp only [List.all_append, EVb, EVc, Int.reduceEq, Int.reduceToNat, Int.reduceLE, Int.reduceLT, Int.reduceAdd, Int.reduceMul, Int.reduceSub, Int.reduceNeg, Nat.reduceAdd, Nat.reduceSub, Nat.reduceMul, Nat.reduceLT, Nat.reduceBEq, Nat.reduceEqDiff, Nat.reduceLeDiff])
  by_cases hc : i < (S.keys.length)
  · have hc' : (i : Int) < ((S.keys.length : Nat) : Int) := by omega
    have hc0 : (0 : Int) ≤ i := by omega
    have hw : IntKind.wrap .i64 ((i : Int) + 1) = ((i + 1 : Nat) : Int) := by rw [wrap64 (by omega) (by omega)]; omega
    have hgt := encKeys_get hc
    have hpi := hp
    have e1 := lv_pos (s := 2) (sz := 6) (show 0 < S.keys.length by omega)
    have e2 := lo_pos (e := 110) (cells := encKeys S.keys) (show 0 < S.keys.length by omega)
    obtain ⟨e, he⟩ : ∃ e, e = S.keys[i] := ⟨_, rfl⟩
    rw [← he, hel] at hgt
    by_cases heq : e.1 = key
    · refine .inl ?_
      have hlk := lookK_some hc (by rw [← he]; exact heq) (fun j hj => hp j hj (by omega))
      rw [← he] at hlk
      simp only [loopR_succ, ht]
      simp only [a0, a1, a8, a9, hc', hc0, hw, hgt, hel, heq, e1, e2, loopR_succ, loopOf, findLoop, firstRegion, Option.some_or, Option.none_or, Option.getD_some, Option.some.injEq, Try.f28, EVb, EVc, Int.reduceEq, Int.reduceToNat, Int.reduceLE, Int.reduceLT, Int.reduceAdd, Int.reduceMul, Int.reduceSub, Int.reduceNeg, Nat.reduceAdd, Nat.reduceSub, Nat.reduceMul, Nat.reduceLT, Nat.reduceBEq, Nat.reduceEqDiff, Nat.reduceLeDiff, FACTS, TYPES]
      rw [evalCode_drawn Try.f28 13 dr28_13]; rotate_left; rfl
      simp only [a0, a1, a8, a9, hc', hc0, hw, EVd, Nat.reducePow, Nat.reduceDiv, Nat.reduceMod, EVb, EVc, Int.reduceEq, Int.reduceToNat, Int.reduceLE, Int.reduceLT, Int.reduceAdd, Int.reduceMul, Int.reduceSub, Int.reduceNeg, Nat.reduceAdd, Nat.reduceSub, Nat.reduceMul, Nat.reduceLT, Nat.reduceBEq, Nat.reduceEqDiff, Nat.reduceLeDiff, FACTS, TYPES]
      exact ⟨_, .inr ⟨_, _, hlk, rfl, (by rfl), (by rfl)⟩⟩
    · have hnew : ∀ j, (h : j < i + 1) → ∀ h2 : j < S.keys.length, S.keys[j].1 ≠ key := fun j hj h2 => by
        by_cases e' : j = i
        · subst e'; rw [← he]; exact heq
        · exact hp j (by omega) h2
      by_cases q1 : e.1.op = key.op
      · by_cases q2 : e.1.a = key.a
        · by_cases q3 : e.1.b = key.b
          · have q4 := kcmp heq q1 q2 q3
            simp only [loopR_succ, ht]
            simp only [a0, a1, a8, a9, hc', hc0, hw, hgt, hel, q1, q2, q3, q4, e1, e2, loopR_succ, loopOf, findLoop, firstRegion, Option.some_or, Option.none_or, Option.getD_some, Option.some.injEq, Try.f28, EVb, EVc, Int.reduceEq, Int.reduceToNat, Int.reduceLE, Int.reduceLT, Int.reduceAdd, Int.reduceMul, Int.reduceSub, Int.reduceNeg, Nat.reduceAdd, Nat.reduceSub, Nat.reduceMul, Nat.reduceLT, Nat.reduceBEq, Nat.reduceEqDiff, Nat.reduceLeDiff, FACTS, TYPES]
            exact .inr ⟨_, _, hc, rfl, (by rfl), (by rfl), (by rfl), (by rfl), hnew, _, by first | rfl | (rw [e2]; rfl)⟩
          · simp only [loopR_succ, ht]
            simp only [a0, a1, a8, a9, hc', hc0, hw, hgt, hel, q1, q2, q3, e1, e2, loopR_succ, loopOf, findLoop, firstRegion, Option.some_or, Option.none_or, Option.getD_some, Option.some.injEq, Try.f28, EVb, EVc, Int.reduceEq, Int.reduceToNat, Int.reduceLE, Int.reduceLT, Int.reduceAdd, Int.reduceMul, Int.reduceSub, Int.reduceNeg, Nat.reduceAdd, Nat.reduceSub, Nat.reduceMul, Nat.reduceLT, Nat.reduceBEq, Nat.reduceEqDiff, Nat.reduceLeDiff, FACTS, TYPES]
            exact .inr ⟨_, _, hc, rfl, (by rfl), (by rfl), (by rfl), (by rfl), hnew, _, by first | rfl | (rw [e2]; rfl)⟩
        · simp only [loopR_succ, ht]
          simp only [a0, a1, a8, a9, hc', hc0, hw, hgt, hel, q1, q2, e1, e2, loopR_succ, loopOf, findLoop, firstRegion, Option.some_or, Option.none_or, Option.getD_some, Option.some.injEq, Try.f28, EVb, EVc, Int.reduceEq, Int.reduceToNat, Int.reduceLE, Int.reduceLT, Int.reduceAdd, Int.reduceMul, Int.reduceSub, Int.reduceNeg, Nat.reduceAdd, Nat.reduceSub, Nat.reduceMul, Nat.reduceLT, Nat.reduceBEq, Nat.reduceEqDiff, Nat.reduceLeDiff, FACTS, TYPES]
          exact .inr ⟨_, _, hc, rfl, (by rfl), (by rfl), (by rfl), (by rfl), hnew, _, by first | rfl | (rw [e2]; rfl)⟩
      · simp only [loopR_succ, ht]
        simp only [a0, a1, a8, a9, hc', hc0, hw, hgt, hel, q1, e1, e2, loopR_succ, loopOf, findLoop, firstRegion, Option.some_or, Option.none_or, Option.getD_some, Option.some.injEq, Try.f28, EVb, EVc, Int.reduceEq, Int.reduceToNat, Int.reduceLE, Int.reduceLT, Int.reduceAdd, Int.reduceMul, Int.reduceSub, Int.reduceNeg, Nat.reduceAdd, Nat.reduceSub, Nat.reduceMul, Nat.reduceLT, Nat.reduceBEq, Nat.reduceEqDiff, Nat.reduceLeDiff, FACTS, TYPES]
        exact .inr ⟨_, _, hc, rfl, (by rfl), (by rfl), (by rfl), (by rfl), hnew, _, by first | rfl | (rw [e2]; rfl)⟩
  · refine .inl ?_
    obtain rfl : i = (S.keys.length) := by omega
    have hc' : ¬ ((((S.keys.length) : Nat) : Int) < (((S.keys.length) : Nat) : Int)) := by omega
    simp only [loopR_succ, ht]
    simp only [a0, a1, a8, a9, hc', lnv59, loopR_succ, loopOf, findLoop, firstRegion, Option.some_or, Option.none_or, Option.getD_some, Option.some.injEq, Try.f28, EVb, EVc, Int.reduceEq, Int.reduceToNat, Int.reduceLE, Int.reduceLT, Int.reduceAdd, Int.reduceMul, Int.reduceSub, Int.reduceNeg, Nat.reduceAdd, Nat.reduceSub, Nat.reduceMul, Nat.reduceLT, Nat.reduceBEq, Nat.reduceEqDiff, Nat.reduceLeDiff, FACTS, TYPES]
    exact ⟨_, .inl ⟨lookK_none fun j hj => hp j (by omega) hj, rfl, (by rfl), (by rfl), (by rfl)⟩⟩

end Go.Proofs.Sw
