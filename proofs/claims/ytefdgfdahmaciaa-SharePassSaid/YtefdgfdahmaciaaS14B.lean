/- A part of the proof: what functions of the program answer, of whatever arguments, reckoned with letters by the interpreter's equations. Its conditions stand in each theorem. -/
import Derived.Test.YtefdgfdahmaciaaS14A
namespace Go.Proofs.Sw
set_option linter.unusedVariables false
set_option linter.unusedSimpArgs false
set_option linter.unusedSectionVars false
open Go.Ab
variable [Globals]
/-- The key of an instruction, what registers hold known. -/
def keyM (held : List Int) (i : Ins) : Key :=
  let a := held.getD i.a.toNat 0
  let b := if i.op = 3 ∨ i.op = 4 then held.getD i.b.toNat 0 else -1
  if i.op = 3 ∧ b < a then ⟨i.op, b, a, i.c⟩ else ⟨i.op, a, b, i.c⟩
theorem keyM_swap {held : List Int} {i : Ins} (h3 : i.op = 3) (hlt : held.getD i.b.toNat 0 < held.getD i.a.toNat 0) : keyM held i = ⟨i.op, held.getD i.b.toNat 0, held.getD i.a.toNat 0, i.c⟩ := by
  unfold keyM
  simp only [h3, true_or, if_true, hlt, and_self]
theorem keyM_two {held : List Int} {i : Ins} (h : i.op = 3 ∨ i.op = 4) (hn : ¬ (i.op = 3 ∧ held.getD i.b.toNat 0 < held.getD i.a.toNat 0)) : keyM held i = ⟨i.op, held.getD i.a.toNat 0, held.getD i.b.toNat 0, i.c⟩ := by
  unfold keyM
  simp only [h, if_true]
  rw [if_neg hn]
theorem keyM_one {held : List Int} {i : Ins} (h : ¬ (i.op = 3 ∨ i.op = 4)) : keyM held i = ⟨i.op, held.getD i.a.toNat 0, -1, i.c⟩ := by
  unfold keyM
  simp only [h, if_false]
  rw [if_neg (fun h' => h (.inl h'.1))]
theorem encInts_getD {l : List Int} {r : Int} (h0 : 0 ≤ r) (h : r < l.length) : (encInts l)[r.toNat]? = some (.int .i64 (l.getD r.toNat 0)) := by
  have h2 : r.toNat < l.length := by omega
  simp [encInts, h2]
theorem ents_under (m : Nat) (f : Ent → Int) (es : List Ent) : ((entsM f es).all fun e => AV.under m e.1 && AV.under m e.2) = true := by
  induction es with
  | nil => rfl
  | cons e es ih => rw [entsM, List.map_cons, List.all_cons, ih]; rfl
theorem ents_ids (f : Ent → Int) : ∀ es : List Ent, entIds (entsM f es) = []
  | [] => rfl
  | e :: es => by rw [entsM, List.map_cons, entIds, show es.map (fun e => (encK e.1, ii (f e))) = entsM f es from rfl, ents_ids f es]; rfl
theorem ents_ren (ρ : Nat → Option Nat) (f : Ent → Int) : ∀ es : List Ent, renEs ρ (entsM f es) = some (entsM f es)
  | [] => rfl
  | e :: es => by rw [entsM, List.map_cons, renEs, show es.map (fun e => (encK e.1, ii (f e))) = entsM f es from rfl, ents_ren ρ f es]; rfl
/-- The program's table in memory. -/
abbrev tabO (S : St) : AObj := .cells 97 [.hsl 1 0 S.held.length S.held.length 1, .hmap 2, .hmap 3, ii S.next]
abbrev knO (es : List Ent) : AObj := .map 95 (entsM (fun e => e.2.1) es)
abbrev fsO (es : List Ent) : AObj := .map 95 (entsM (fun e => e.2.2) es)
abbrev rI (l : List Int) : AObj := .row false 3 (encInts l)
abbrev tabH (S : St) : Heap := [tabO S, rI S.held, knO S.keys, fsO S.keys]
theorem tKeyed_ev (k : Nat) (S : St) (o t a b c : Int) (ha : 0 ≤ a ∧ a < S.held.length) (hb : o = 3 ∨ o = 4 → 0 ≤ b ∧ b < S.held.length) :
    evalT Try.prog (mkHints tab) (k+2) (.fn 101) [.ptr 0 0, aI o t a b c] (tabH S) = some (encK (keyM S.held ⟨o, t, a, b, c⟩), tabH S) := by
  obtain ⟨a0, a1⟩ := ha
  have hel := encInts_length S.held
  have hxa := encInts_getD a0 a1
  have hA := asks_ev k o t a b c
  simp only [run, aI, ii] at hA
  rw [ev101]
  simp only [Try.f101, aI, ii, EVb, EVc, Int.reduceEq, Int.reduceToNat, Int.reduceLE, Int.reduceLT, Int.reduceAdd, Int.reduceMul, Int.reduceSub, Int.reduceNeg, Nat.reduceAdd, Nat.reduceSub, Nat.reduceMul, Nat.reduceLT, Nat.reduceBEq, Nat.reduceEqDiff, Nat.reduceLeDiff, FACTS, TYPES]
  rw [evalCode_drawn Try.f101 1 dr101_1]; rotate_left; rfl
  simp only [a0, a1, hel, hxa, hA, EVd, Nat.reducePow, Nat.reduceDiv, Nat.reduceMod, EVb, EVc, Int.reduceEq, Int.reduceToNat, Int.reduceLE, Int.reduceLT, Int.reduceAdd, Int.reduceMul, Int.reduceSub, Int.reduceNeg, Nat.reduceAdd, Nat.reduceSub, Nat.reduceMul, Nat.reduceLT, Nat.reduceBEq, Nat.reduceEqDiff, Nat.reduceLeDiff, FACTS, TYPES]
  by_cases h34 : o = 3 ∨ o = 4
  · obtain ⟨b0, b1⟩ := hb h34
    have hxb := encInts_getD b0 b1
    have hl2 : (asks ⟨o, t, a, b, c⟩).length = 2 := by rw [asks_two h34]; rfl
    have h12 : (1 : Int) < ((2 : Nat) : Int) := by decide
    simp only [hl2, h12, EVb, EVc, Int.reduceEq, Int.reduceToNat, Int.reduceLE, Int.reduceLT, Int.reduceAdd, Int.reduceMul, Int.reduceSub, Int.reduceNeg, Nat.reduceAdd, Nat.reduceSub, Nat.reduceMul, Nat.reduceLT, Nat.reduceBEq, Nat.reduceEqDiff, Nat.reduceLeDiff, FACTS, TYPES]
    rw [evalCode_drawn Try.f101 3 dr101_3]; rotate_left; rfl
    simp only [a0, a1, b0, b1, hel, hxa, hxb, EVd, Nat.reducePow, Nat.reduceDiv, Nat.reduceMod, EVb, EVc, Int.reduceEq, Int.reduceToNat, Int.reduceLE, Int.reduceLT, Int.reduceAdd, Int.reduceMul, Int.reduceSub, Int.reduceNeg, Nat.reduceAdd, Nat.reduceSub, Nat.reduceMul, Nat.reduceLT, Nat.reduceBEq, Nat.reduceEqDiff, Nat.reduceLeDiff, FACTS, TYPES]
    by_cases h3 : o = 3
    · subst h3
      by_cases hlt : S.held.getD b.toNat 0 < S.held.getD a.toNat 0
      · simp only [hlt, keyM_swap (held := S.held) (i := ⟨3, t, a, b, c⟩) rfl hlt, ents_under, EVb, EVc, Int.reduceEq, Int.reduceToNat, Int.reduceLE, Int.reduceLT, Int.reduceAdd, Int.reduceMul, Int.reduceSub, Int.reduceNeg, Nat.reduceAdd, Nat.reduceSub, Nat.reduceMul, Nat.reduceLT, Nat.reduceBEq, Nat.reduceEqDiff, Nat.reduceLeDiff, FACTS, TYPES]
      · simp only [hlt, keyM_two (held := S.held) (i := ⟨3, t, a, b, c⟩) (.inl rfl) (fun h => hlt h.2), ents_under, EVb, EVc, Int.reduceEq, Int.reduceToNat, Int.reduceLE, Int.reduceLT, Int.reduceAdd, Int.reduceMul, Int.reduceSub, Int.reduceNeg, Nat.reduceAdd, Nat.reduceSub, Nat.reduceMul, Nat.reduceLT, Nat.reduceBEq, Nat.reduceEqDiff, Nat.reduceLeDiff, FACTS, TYPES]
    · simp only [h3, keyM_two (held := S.held) (i := ⟨o, t, a, b, c⟩) h34 (fun h => h3 h.1), ents_under, EVb, EVc, Int.reduceEq, Int.reduceToNat, Int.reduceLE, Int.reduceLT, Int.reduceAdd, Int.reduceMul, Int.reduceSub, Int.reduceNeg, Nat.reduceAdd, Nat.reduceSub, Nat.reduceMul, Nat.reduceLT, Nat.reduceBEq, Nat.reduceEqDiff, Nat.reduceLeDiff, FACTS, TYPES]
  · have hl1 : ¬ (1 : Int) < ((asks ⟨o, t, a, b, c⟩).length : Int) := by
      unfold asks
      rw [if_neg h34]
      split <;> simp
    have h3 : ¬ o = 3 := fun h => h34 (.inl h)
    simp only [hl1, h3, keyM_one (held := S.held) (i := ⟨o, t, a, b, c⟩) h34, ents_under, EVb, EVc, Int.reduceEq, Int.reduceToNat, Int.reduceLE, Int.reduceLT, Int.reduceAdd, Int.reduceMul, Int.reduceSub, Int.reduceNeg, Nat.reduceAdd, Nat.reduceSub, Nat.reduceMul, Nat.reduceLT, Nat.reduceBEq, Nat.reduceEqDiff, Nat.reduceLeDiff, FACTS, TYPES]
end Go.Proofs.Sw
