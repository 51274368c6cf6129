/- A part of the proof: what functions of the program answer, of whatever arguments, reckoned with letters by the interpreter's equations. Its conditions stand in each theorem. -/
import Derived.Test.YtefdgfdahmaciaaS14B
namespace Go.Proofs.Sw
set_option linter.unusedVariables false
set_option linter.unusedSimpArgs false
set_option linter.unusedSectionVars false
open Go.Ab
variable [Globals]
/-- The value that an instruction reckons, and the first one that reckoned it. -/
def reckonM (S : St) (n : Int) (i : Ins) : Int × Int × St :=
  if i.op = 1 then (S.held.getD i.a.toNat 0, -1, S) else
  match lookK (keyM S.held i) S.keys with
  | some p => (p.2.2.1, p.2.2.2, S)
  | none => (S.next, n, { S with keys := S.keys ++ [(keyM S.held i, S.next, n)], next := S.next + 1 })
theorem lookK_snoc {k : Key} {v n : Int} : ∀ {es : List Ent}, lookK k es = none → lookK k (es ++ [(k, v, n)]) = some (es.length, (k, v, n))
  | [], _ => by simp [lookK]
  | e :: es, h => by
    rw [lookK] at h
    split at h
    · cases h
    · rename_i hk
      have h' : lookK k es = none := by cases hh : lookK k es with | none => rfl | some p => rw [hh] at h; cases h
      rw [List.cons_append, lookK, if_neg hk, lookK_snoc h']
      simp
theorem ents_snoc (f : Ent → Int) (es : List Ent) (e : Ent) : entsM f es ++ [(encK e.1, ii (f e))] = entsM f (es ++ [e]) := by simp [entsM]
theorem lookup_yes' {x0 x1 : AObj} {t : TypeId} {f : Ent → Int} {es : List Ent} {k : Key} {p : Nat × Ent} {X : Heap} (hl : lookK k es = some p) :
    lookupA Try.prog (x0 :: x1 :: .map t (entsM f es) :: X) 95 (.hmap 2) (encK k) true = some (.tup [ii (f p.2), bb true]) := lookup_yes rfl hl
theorem lookup_no' {x0 x1 : AObj} {t : TypeId} {f : Ent → Int} {es : List Ent} {k : Key} {X : Heap} (hl : lookK k es = none) :
    lookupA Try.prog (x0 :: x1 :: .map t (entsM f es) :: X) 95 (.hmap 2) (encK k) true = some (.tup [ii 0, bb false]) := lookup_no rfl hl
theorem lookup_val2 {x0 x1 : AObj} {t : TypeId} {f : Ent → Int} {es : List Ent} {k : Key} {p : Nat × Ent} {X : Heap} (hl : lookK k es = some p) :
    lookupA Try.prog (x0 :: x1 :: .map t (entsM f es) :: X) 95 (.hmap 2) (encK k) false = some (ii (f p.2)) := lookup_val rfl hl
theorem lookup_val3 {x0 x1 x2 : AObj} {t : TypeId} {f : Ent → Int} {es : List Ent} {k : Key} {p : Nat × Ent} {X : Heap} (hl : lookK k es = some p) :
    lookupA Try.prog (x0 :: x1 :: x2 :: .map t (entsM f es) :: X) 95 (.hmap 3) (encK k) false = some (ii (f p.2)) := lookup_val rfl hl
theorem entry_new2 {x0 x1 : AObj} {f : Ent → Int} {es : List Ent} {k : Key} {X : Heap} (hl : lookK k es = none) :
    mapEntryA Try.prog (x0 :: x1 :: .map 95 (entsM f es) :: X) 95 (.hmap 2) (encK k) = some (.tup [ii 0, ii es.length], x0 :: x1 :: .map 95 (entsM f es ++ [(encK k, ii 0)]) :: X) := by rw [entry_new rfl hl]; rfl
theorem entry_new3 {x0 x1 x2 : AObj} {f : Ent → Int} {es : List Ent} {k : Key} {X : Heap} (hl : lookK k es = none) :
    mapEntryA Try.prog (x0 :: x1 :: x2 :: .map 95 (entsM f es) :: X) 95 (.hmap 3) (encK k) = some (.tup [ii 0, ii es.length], x0 :: x1 :: x2 :: .map 95 (entsM f es ++ [(encK k, ii 0)]) :: X) := by rw [entry_new rfl hl]; rfl
theorem store_new2 {x0 x1 : AObj} {f : Ent → Int} {es : List Ent} {k : Key} {x : Int} {X : Heap} :
    entryStoreA (x0 :: x1 :: .map 95 (entsM f es ++ [(encK k, ii 0)]) :: X) (.hmap 2) (ii es.length) (ii x) = some (x0 :: x1 :: .map 95 (entsM f es ++ [(encK k, ii x)]) :: X) := by rw [store_new rfl]; rfl
theorem store_new3 {x0 x1 x2 : AObj} {f : Ent → Int} {es : List Ent} {k : Key} {x : Int} {X : Heap} :
    entryStoreA (x0 :: x1 :: x2 :: .map 95 (entsM f es ++ [(encK k, ii 0)]) :: X) (.hmap 3) (ii es.length) (ii x) = some (x0 :: x1 :: x2 :: .map 95 (entsM f es ++ [(encK k, ii x)]) :: X) := by rw [store_new rfl]; rfl
theorem tReckon_ev (k : Nat) (S : St) (n : Int) (o t a b c : Int)
    (ha : 0 ≤ a ∧ a < S.held.length) (hb : o = 3 ∨ o = 4 → 0 ≤ b ∧ b < S.held.length) (hn : 0 ≤ S.next ∧ S.next < 1000000) :
    evalT Try.prog (mkHints tab) (k+3) (.fn 64) [.ptr 0 0, ii n, aI o t a b c] (tabH S) = some (.tup [ii (reckonM S n ⟨o, t, a, b, c⟩).1, ii (reckonM S n ⟨o, t, a, b, c⟩).2.1], tabH (reckonM S n ⟨o, t, a, b, c⟩).2.2) := by
  obtain ⟨a0, a1⟩ := ha
  have hel := encInts_length S.held
  have hxa := encInts_getD a0 a1
  by_cases h1 : o = 1
  · subst h1
    have hrk : reckonM S n ⟨1, t, a, b, c⟩ = (S.held.getD a.toNat 0, -1, S) := by simp [reckonM]
    rw [hrk]
    rw [ev64]
    simp only [Try.f64, aI, ii, EVb, EVc, Int.reduceEq, Int.reduceToNat, Int.reduceLE, Int.reduceLT, Int.reduceAdd, Int.reduceMul, Int.reduceSub, Int.reduceNeg, Nat.reduceAdd, Nat.reduceSub, Nat.reduceMul, Nat.reduceLT, Nat.reduceBEq, Nat.reduceEqDiff, Nat.reduceLeDiff, FACTS, TYPES]
    rw [evalCode_drawn Try.f64 2 dr64_2]; rotate_left; rfl
    simp only [a0, a1, hel, hxa, ents_under, EVd, Nat.reducePow, Nat.reduceDiv, Nat.reduceMod, EVb, EVc, Int.reduceEq, Int.reduceToNat, Int.reduceLE, Int.reduceLT, Int.reduceAdd, Int.reduceMul, Int.reduceSub, Int.reduceNeg, Nat.reduceAdd, Nat.reduceSub, Nat.reduceMul, Nat.reduceLT, Nat.reduceBEq, Nat.reduceEqDiff, Nat.reduceLeDiff, FACTS, TYPES]
  · have hK := tKeyed_ev k S o t a b c ⟨a0, a1⟩ hb
    have hrk : reckonM S n ⟨o, t, a, b, c⟩ = match lookK (keyM S.held ⟨o, t, a, b, c⟩) S.keys with
      | some p => (p.2.2.1, p.2.2.2, S)
      | none => (S.next, n, { S with keys := S.keys ++ [(keyM S.held ⟨o, t, a, b, c⟩, S.next, n)], next := S.next + 1 }) := by
      rw [reckonM, if_neg h1]
    obtain ⟨key, hkey⟩ : ∃ key, key = keyM S.held ⟨o, t, a, b, c⟩ := ⟨_, rfl⟩
    rw [← hkey] at hK hrk
    simp only [aI, ii, encK] at hK
    rw [hrk]
    rw [ev64]
    simp only [Try.f64, aI, ii, h1, hK, ents_ids, ents_ren, EVb, EVc, Int.reduceEq, Int.reduceToNat, Int.reduceLE, Int.reduceLT, Int.reduceAdd, Int.reduceMul, Int.reduceSub, Int.reduceNeg, Nat.reduceAdd, Nat.reduceSub, Nat.reduceMul, Nat.reduceLT, Nat.reduceBEq, Nat.reduceEqDiff, Nat.reduceLeDiff, FACTS, TYPES]
    cases hlk : lookK key S.keys with
    | some p =>
      have hl1 := fun x0 x1 X => lookup_yes' (x0 := x0) (x1 := x1) (X := X) (t := 95) (f := fun e => e.2.1) hlk
      have hl2 := fun x0 x1 X => lookup_val2 (x0 := x0) (x1 := x1) (X := X) (t := 95) (f := fun e => e.2.1) hlk
      have hl3 := fun x0 x1 x2 X => lookup_val3 (x0 := x0) (x1 := x1) (x2 := x2) (X := X) (t := 95) (f := fun e => e.2.2) hlk
      simp only [encK, ii, bb] at hl1 hl2 hl3
      rw [evalCode_drawn Try.f64 4 dr64_4]; rotate_left; rfl
      simp only [hl1, EVd, Nat.reducePow, Nat.reduceDiv, Nat.reduceMod, EVb, EVc, Int.reduceEq, Int.reduceToNat, Int.reduceLE, Int.reduceLT, Int.reduceAdd, Int.reduceMul, Int.reduceSub, Int.reduceNeg, Nat.reduceAdd, Nat.reduceSub, Nat.reduceMul, Nat.reduceLT, Nat.reduceBEq, Nat.reduceEqDiff, Nat.reduceLeDiff, FACTS, TYPES]
      rw [evalCode_drawn Try.f64 8 dr64_8]; rotate_left; rfl
      simp only [hl1, hl2, hl3, ents_under, EVd, Nat.reducePow, Nat.reduceDiv, Nat.reduceMod, EVb, EVc, Int.reduceEq, Int.reduceToNat, Int.reduceLE, Int.reduceLT, Int.reduceAdd, Int.reduceMul, Int.reduceSub, Int.reduceNeg, Nat.reduceAdd, Nat.reduceSub, Nat.reduceMul, Nat.reduceLT, Nat.reduceBEq, Nat.reduceEqDiff, Nat.reduceLeDiff, FACTS, TYPES]
    | none =>
      have hl1 := fun x0 x1 X => lookup_no' (x0 := x0) (x1 := x1) (X := X) (t := 95) (f := fun e => e.2.1) hlk
      have he1 := fun x0 x1 X => entry_new2 (x0 := x0) (x1 := x1) (X := X) (f := fun e => e.2.1) hlk
      have he2 := fun x0 x1 X => store_new2 (x0 := x0) (x1 := x1) (X := X) (f := fun e => e.2.1) (es := S.keys) (k := key) (x := S.next)
      have he3 := fun x0 x1 x2 X => entry_new3 (x0 := x0) (x1 := x1) (x2 := x2) (X := X) (f := fun e => e.2.2) hlk
      have he4 := fun x0 x1 x2 X => store_new3 (x0 := x0) (x1 := x1) (x2 := x2) (X := X) (f := fun e => e.2.2) (es := S.keys) (k := key) (x := n)
      have hw : IntKind.wrap .i64 (S.next + 1) = S.next + 1 := wrap64 (by omega) (by omega)
      have hlk2 := lookK_snoc (v := S.next) (n := n) hlk
      have hl5 := fun x0 x1 X => lookup_val2 (x0 := x0) (x1 := x1) (X := X) (t := 95) (f := fun e => e.2.1) hlk2
      have hl6 := fun x0 x1 x2 X => lookup_val3 (x0 := x0) (x1 := x1) (x2 := x2) (X := X) (t := 95) (f := fun e => e.2.2) hlk2
      have s1 := ents_snoc (fun e => e.2.1) S.keys (key, S.next, n)
      have s2 := ents_snoc (fun e => e.2.2) S.keys (key, S.next, n)
      simp only [encK, ii, bb] at hl1 he1 he2 he3 he4 hl5 hl6 s1 s2
      rw [evalCode_drawn Try.f64 4 dr64_4]; rotate_left; rfl
      simp only [hl1, EVd, Nat.reducePow, Nat.reduceDiv, Nat.reduceMod, EVb, EVc, Int.reduceEq, Int.reduceToNat, Int.reduceLE, Int.reduceLT, Int.reduceAdd, Int.reduceMul, Int.reduceSub, Int.reduceNeg, Nat.reduceAdd, Nat.reduceSub, Nat.reduceMul, Nat.reduceLT, Nat.reduceBEq, Nat.reduceEqDiff, Nat.reduceLeDiff, FACTS, TYPES]
      rw [evalCode_drawn Try.f64 6 dr64_6]; rotate_left; rfl
      simp only [hw, he1, he2, he3, he4, s1, s2, EVd, Nat.reducePow, Nat.reduceDiv, Nat.reduceMod, EVb, EVc, Int.reduceEq, Int.reduceToNat, Int.reduceLE, Int.reduceLT, Int.reduceAdd, Int.reduceMul, Int.reduceSub, Int.reduceNeg, Nat.reduceAdd, Nat.reduceSub, Nat.reduceMul, Nat.reduceLT, Nat.reduceBEq, Nat.reduceEqDiff, Nat.reduceLeDiff, FACTS, TYPES]
      rw [evalCode_drawn Try.f64 8 dr64_8]; rotate_left; rfl
      simp only [hl5, hl6, ents_under, EVd, Nat.reducePow, Nat.reduceDiv, Nat.reduceMod, EVb, EVc, Int.reduceEq, Int.reduceToNat, Int.reduceLE, Int.reduceLT, Int.reduceAdd, Int.reduceMul, Int.reduceSub, Int.reduceNeg, Nat.reduceAdd, Nat.reduceSub, Nat.reduceMul, Nat.reduceLT, Nat.reduceBEq, Nat.reduceEqDiff, Nat.reduceLeDiff, FACTS, TYPES]
end Go.Proofs.Sw
