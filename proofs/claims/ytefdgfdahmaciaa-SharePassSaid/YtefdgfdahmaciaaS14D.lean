/- A part of the proof: what functions of the program answer, of whatever arguments, reckoned with letters by the interpreter's equations. Its conditions stand in each theorem. -/
import Derived.Test.YtefdgfdahmaciaaS14C
namespace Go.Proofs.Sw
set_option linter.unusedVariables false
set_option linter.unusedSimpArgs false
set_option linter.unusedSectionVars false
open Go.Ab
variable [Globals]
/-- The first register that holds a value. -/
def holdM (v : Int) : List Int → Nat → Int
  | [], _ => -1
  | x :: l, j => if x = v then (j : Int) else holdM v l (j + 1)
abbrev hI (id n : Nat) : AV := .hsl id 0 n n 1
theorem loop_holder (kf : Nat) (S : St) (v : Int) (hn : S.held.length ≤ 1000000) (k : Nat) (l : Ass) (z : Option Out) (hz : loopR Try.prog tab kf none LB66_2 66 22 [1, 10, 11, 12] 4 k l (tabH S) = z) (hk : S.held.length < k) (a1 : asc l 1 = ii v) (a10 : asc l 10 = hI 1 S.held.length) (a11 : asc l 11 = ii S.held.length) (a12 : asc l 12 = ii 0) :
    ∃ l', (z = some (.exit 0 (fr 22 l') (tabH S)) ∧ holdM v S.held 0 = -1) ∨ (z = some (.ret (fr 22 l') (tabH S)) ∧ asc l' 4 = ii (holdM v S.held 0)) := by
  subst hz
  have hel := encInts_length S.held
  refine loop_nat (S.held.length) (fun k l H => loopR Try.prog tab kf none LB66_2 66 22 [1, 10, 11, 12] 4 k l H)
    (fun i l H => asc l 1 = ii v ∧ asc l 10 = hI 1 S.held.length ∧ asc l 11 = ii S.held.length ∧ asc l 12 = ii i ∧ (holdM v S.held 0 = holdM v (S.held.drop i) i) ∧ ∃ G, H = (tabH S) ++ G)
    (fun z => ∃ l', (z = some (.exit 0 (fr 22 l') (tabH S)) ∧ holdM v S.held 0 = -1) ∨ (z = some (.ret (fr 22 l') (tabH S)) ∧ asc l' 4 = ii (holdM v S.held 0))) ?_ (S.held.length) 0 k l _ (by omega) hk ⟨a1, a10, a11, a12, rfl, [], by rw [List.append_nil]⟩
  clear hk a1 a10 a11 a12
  rintro i k l H hi ⟨a1, a10, a11, a12, hp, G, rfl⟩
  have ht : trim 4 (fr 22 (keep l [1, 10, 11, 12])) ((tabH S) ++ G) = (tabH S) := trim_app (by simp) (by simp only [a1, a10, a11, a12, ents_under, EVb, EVc, Int.reduceEq, Int.reduceToNat, Int.reduceLE, Int.reduceLT, Int.reduceAdd, Int.reduceMul, Int.reduceSub, Int.reduceNeg, Nat.reduceAdd, Nat.reduceSub, Nat.reduceMul, Nat.reduceLT, Nat.reduceBEq, Nat.reduceEqDiff, Nat.reduceLeDiff]) (by simp only [ents_under, EVb, EVc, Int.reduceEq, Int.reduceToNat, Int.reduceLE, Int.reduceLT, Int.reduceAdd, Int.reduceMul, Int.reduceSub, Int.reduceNeg, Nat.reduceAdd, Nat.reduceSub, Nat.reduceMul, Nat.reduceLT, Nat.reduceBEq, Nat.reduceEqDiff, Nat.reduceLeDiff])
  by_cases hc : i < (S.held.length)
  · have hc' : (i : Int) < ((S.held.length : Nat) : Int) := by omega
    have hc0 : (0 : Int) ≤ i := by omega
    have hw : IntKind.wrap .i64 ((i : Int) + 1) = ((i + 1 : Nat) : Int) := by rw [wrap64 (by omega) (by omega)]; omega
    have hx := encInts_get hc
    have hd := List.drop_eq_getElem_cons hc
    obtain ⟨x, hX⟩ : ∃ x, x = S.held[i] := ⟨_, rfl⟩
    rw [← hX] at hd hx
    rw [hd, holdM] at hp
    by_cases hxv : x = v
    · rw [if_pos hxv] at hp
      refine .inl ?_
      simp only [loopR_succ, ht]
      simp only [a1, a10, a11, a12, hc', hc0, hw, hel, hx, hxv, loopR_succ, loopOf, findLoop, firstRegion, Option.some_or, Option.none_or, Option.getD_some, Option.some.injEq, Try.f66, EVb, EVc, Int.reduceEq, Int.reduceToNat, Int.reduceLE, Int.reduceLT, Int.reduceAdd, Int.reduceMul, Int.reduceSub, Int.reduceNeg, Nat.reduceAdd, Nat.reduceSub, Nat.reduceMul, Nat.reduceLT, Nat.reduceBEq, Nat.reduceEqDiff, Nat.reduceLeDiff, FACTS, TYPES]
      exact ⟨_, .inr ⟨rfl, by rw [hp]; rfl⟩⟩
    · rw [if_neg hxv] at hp
      simp only [loopR_succ, ht]
      simp only [a1, a10, a11, a12, hc', hc0, hw, hel, hx, hxv, loopR_succ, loopOf, findLoop, firstRegion, Option.some_or, Option.none_or, Option.getD_some, Option.some.injEq, Try.f66, EVb, EVc, Int.reduceEq, Int.reduceToNat, Int.reduceLE, Int.reduceLT, Int.reduceAdd, Int.reduceMul, Int.reduceSub, Int.reduceNeg, Nat.reduceAdd, Nat.reduceSub, Nat.reduceMul, Nat.reduceLT, Nat.reduceBEq, Nat.reduceEqDiff, Nat.reduceLeDiff, FACTS, TYPES]
      exact .inr ⟨_, _, hc, rfl, (by rfl), (by rfl), (by rfl), (by rfl), hp, [], by rfl⟩
  · refine .inl ?_
    obtain rfl : i = (S.held.length) := by omega
    have hc' : ¬ ((((S.held.length) : Nat) : Int) < (((S.held.length) : Nat) : Int)) := by omega
    simp only [loopR_succ, ht]
    simp only [a1, a10, a11, a12, hc', loopR_succ, loopOf, findLoop, firstRegion, Option.some_or, Option.none_or, Option.getD_some, Option.some.injEq, Try.f66, EVb, EVc, Int.reduceEq, Int.reduceToNat, Int.reduceLE, Int.reduceLT, Int.reduceAdd, Int.reduceMul, Int.reduceSub, Int.reduceNeg, Nat.reduceAdd, Nat.reduceSub, Nat.reduceMul, Nat.reduceLT, Nat.reduceBEq, Nat.reduceEqDiff, Nat.reduceLeDiff, FACTS, TYPES]
    exact ⟨_, .inl ⟨rfl, by rw [hp, List.drop_length]; rfl⟩⟩

theorem tHolder_ev (k : Nat) (S : St) (v : Int) (hn : S.held.length ≤ 1000000) (hk : S.held.length < k) :
    evalT Try.prog (mkHints tab) (k+1) (.fn 66) [.ptr 0 0, ii v] (tabH S) = some (ii (holdM v S.held 0), tabH S) := by
  rw [ev66]
  simp only [Try.f66, ii, EVb, EVc, Int.reduceEq, Int.reduceToNat, Int.reduceLE, Int.reduceLT, Int.reduceAdd, Int.reduceMul, Int.reduceSub, Int.reduceNeg, Nat.reduceAdd, Nat.reduceSub, Nat.reduceMul, Nat.reduceLT, Nat.reduceBEq, Nat.reduceEqDiff, Nat.reduceLeDiff, FACTS, TYPES]
  rw [evalCode_loopB LB66_2 lp66_2]; rotate_left; rfl; rfl; rfl
  generalize hz : loopR _ _ _ _ _ _ _ _ _ _ _ _ = z
  obtain ⟨l', ⟨rfl, h⟩ | ⟨rfl, h⟩⟩ := loop_holder k S v hn _ _ z hz hk (by rfl) (by rfl) (by rfl) (by rfl)
  · simp only [h, ents_under, EVb, EVc, Int.reduceEq, Int.reduceToNat, Int.reduceLE, Int.reduceLT, Int.reduceAdd, Int.reduceMul, Int.reduceSub, Int.reduceNeg, Nat.reduceAdd, Nat.reduceSub, Nat.reduceMul, Nat.reduceLT, Nat.reduceBEq, Nat.reduceEqDiff, Nat.reduceLeDiff, FACTS, TYPES]
  · simp only [h, ents_under, EVb, EVc, Int.reduceEq, Int.reduceToNat, Int.reduceLE, Int.reduceLT, Int.reduceAdd, Int.reduceMul, Int.reduceSub, Int.reduceNeg, Nat.reduceAdd, Nat.reduceSub, Nat.reduceMul, Nat.reduceLT, Nat.reduceBEq, Nat.reduceEqDiff, Nat.reduceLeDiff, FACTS, TYPES]
/-- An instruction that asks the first holders. -/
def askM (held : List Int) (i : Ins) : Ins :=
  { i with a := holdM (held.getD i.a.toNat 0) held 0, b := if i.op = 3 ∨ i.op = 4 then holdM (held.getD i.b.toNat 0) held 0 else i.b }
theorem tAsked_ev (k : Nat) (S : St) (o t a b c : Int) (hn : S.held.length ≤ 1000000) (hk : S.held.length < k) (ha : 0 ≤ a ∧ a < S.held.length) (hb : o = 3 ∨ o = 4 → 0 ≤ b ∧ b < S.held.length) :
    evalT Try.prog (mkHints tab) (k+2) (.fn 65) [.ptr 0 0, aI o t a b c] (tabH S) = some (encI (askM S.held ⟨o, t, a, b, c⟩), tabH S) := by
  obtain ⟨a0, a1⟩ := ha
  have hel := encInts_length S.held
  have hxa := encInts_getD a0 a1
  have hA := asks_ev k o t a b c
  simp only [run, aI, ii] at hA
  have hh := fun v => tHolder_ev k S v hn hk
  simp only [ii] at hh
  rw [ev65]
  simp only [Try.f65, aI, ii, hA, EVb, EVc, Int.reduceEq, Int.reduceToNat, Int.reduceLE, Int.reduceLT, Int.reduceAdd, Int.reduceMul, Int.reduceSub, Int.reduceNeg, Nat.reduceAdd, Nat.reduceSub, Nat.reduceMul, Nat.reduceLT, Nat.reduceBEq, Nat.reduceEqDiff, Nat.reduceLeDiff, FACTS, TYPES]
  rw [evalCode_drawn Try.f65 2 dr65_2]; rotate_left; rfl
  simp only [a0, a1, hel, hxa, hh, ents_ids, ents_ren, EVd, Nat.reducePow, Nat.reduceDiv, Nat.reduceMod, EVb, EVc, Int.reduceEq, Int.reduceToNat, Int.reduceLE, Int.reduceLT, Int.reduceAdd, Int.reduceMul, Int.reduceSub, Int.reduceNeg, Nat.reduceAdd, Nat.reduceSub, Nat.reduceMul, Nat.reduceLT, Nat.reduceBEq, Nat.reduceEqDiff, Nat.reduceLeDiff, FACTS, TYPES]
  by_cases h34 : o = 3 ∨ o = 4
  · obtain ⟨b0, b1⟩ := hb h34
    have hxb := encInts_getD b0 b1
    have hl2 : (asks ⟨o, t, a, b, c⟩).length = 2 := by rw [asks_two h34]; rfl
    have h12 : (1 : Int) < ((2 : Nat) : Int) := by decide
    simp only [hl2, h12, EVb, EVc, Int.reduceEq, Int.reduceToNat, Int.reduceLE, Int.reduceLT, Int.reduceAdd, Int.reduceMul, Int.reduceSub, Int.reduceNeg, Nat.reduceAdd, Nat.reduceSub, Nat.reduceMul, Nat.reduceLT, Nat.reduceBEq, Nat.reduceEqDiff, Nat.reduceLeDiff, FACTS, TYPES]
    rw [evalCode_drawn Try.f65 4 dr65_4]; rotate_left; rfl
    simp only [b0, b1, hel, hxb, hh, ents_ids, ents_ren, ents_under, EVd, Nat.reducePow, Nat.reduceDiv, Nat.reduceMod, EVb, EVc, Int.reduceEq, Int.reduceToNat, Int.reduceLE, Int.reduceLT, Int.reduceAdd, Int.reduceMul, Int.reduceSub, Int.reduceNeg, Nat.reduceAdd, Nat.reduceSub, Nat.reduceMul, Nat.reduceLT, Nat.reduceBEq, Nat.reduceEqDiff, Nat.reduceLeDiff, FACTS, TYPES]
    simp only [askM, h34, if_true]
  · have hl1 : ¬ (1 : Int) < ((asks ⟨o, t, a, b, c⟩).length : Int) := by
      unfold asks
      rw [if_neg h34]
      split <;> simp
    simp only [hl1, ents_under, EVb, EVc, Int.reduceEq, Int.reduceToNat, Int.reduceLE, Int.reduceLT, Int.reduceAdd, Int.reduceMul, Int.reduceSub, Int.reduceNeg, Nat.reduceAdd, Nat.reduceSub, Nat.reduceMul, Nat.reduceLT, Nat.reduceBEq, Nat.reduceEqDiff, Nat.reduceLeDiff, FACTS, TYPES]
    simp only [askM, h34, if_false]
end Go.Proofs.Sw
