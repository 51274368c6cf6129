/- A part of the proof: what functions of the program answer, of whatever arguments, reckoned with letters by the interpreter's equations. Its conditions stand in each theorem. -/
import Derived.Test.YtefdgfdahmaciaaS08C
namespace Go.Proofs.Sw
set_option linter.unusedVariables false
set_option linter.unusedSimpArgs false
set_option linter.unusedSectionVars false
open Go.Ab
variable [Globals]
/-- What an instruction reckons with: its operation, the values that it asks, its constant. -/
structure Key where
  op : Int
  a : Int
  b : Int
  c : Int
  deriving DecidableEq
/-- A key that was reckoned, its value, the first instruction that reckoned it. -/
abbrev Ent := Key × Int × Int
/-- What registers hold, what was reckoned, the next value. -/
structure St where
  held : List Int
  keys : List Ent
  next : Int
abbrev encK (k : Key) : AV := .agg [ii k.op, ii k.a, ii k.b, ii k.c]
def lookK (k : Key) : List Ent → Option (Nat × Ent)
  | [] => none
  | e :: es => if k = e.1 then some (0, e) else (lookK k es).map fun p => (p.1 + 1, p.2)
theorem lookK_at {k : Key} : ∀ {es : List Ent} {p : Nat × Ent}, lookK k es = some p → es[p.1]? = some p.2 ∧ p.2.1 = k
  | [], _, h => by cases h
  | e :: es, p, h => by
    rw [lookK] at h
    split at h
    · rename_i hk
      injection h with h
      subst h
      exact ⟨rfl, hk.symm⟩
    · obtain ⟨q, hq, rfl⟩ := Option.map_eq_some_iff.1 h
      obtain ⟨h1, h2⟩ := lookK_at hq
      exact ⟨by simpa using h1, h2⟩
theorem keyEq155 (o a b c o' a' b' c' : Int) : keyEqA Try.prog 155 (.agg [.c (.int .i64 o), .c (.int .i64 a), .c (.int .i64 b), .c (.int .i64 c)]) (.agg [.c (.int .i64 o'), .c (.int .i64 a'), .c (.int .i64 b'), .c (.int .i64 c')]) = some ((o == o') && ((a == a') && ((b == b') && ((c == c') && true)))) := by kernel_rfl
theorem keyEqK (k k' : Key) : keyEqA Try.prog 155 (encK k) (encK k') = some (decide (k = k')) := by
  obtain ⟨o, a, b, c⟩ := k
  obtain ⟨o', a', b', c'⟩ := k'
  rw [encK, encK, keyEq155]
  congr 1
  rw [Bool.eq_iff_iff]
  simp [and_assoc]
/-- The entries of a map of keys. -/
abbrev entsM (f : Ent → Int) (es : List Ent) : List (AV × AV) := es.map fun e => (encK e.1, ii (f e))
theorem findA_K (f : Ent → Int) (k : Key) : ∀ es : List Ent, findA Try.prog 155 (encK k) (entsM f es) = some ((lookK k es).map fun p => (p.1, ii (f p.2)))
  | [] => rfl
  | e :: es => by
    rw [entsM, List.map_cons, findA, keyEqK, Option.bind_some]
    by_cases h : k = e.1
    · simp [lookK, h]
    · rw [decide_eq_false h, if_neg (by simp), show (es.map fun e => (encK e.1, ii (f e))) = entsM f es from rfl, findA_K f k es, lookK, if_neg h]
      cases lookK k es <;> rfl
theorem mapT95 : mapT Try.prog 95 = some (155, 3) := by kernel_rfl
theorem keyOk155 (o a b c : Int) : keyOkA Try.prog 155 (.agg [.c (.int .i64 o), .c (.int .i64 a), .c (.int .i64 b), .c (.int .i64 c)]) = true := by kernel_rfl
theorem zeroV3 : zeroV Try.prog 3 = some (ii 0) := by kernel_rfl
theorem lookup_yes {H : Heap} {id : Nat} {t : TypeId} {f : Ent → Int} {es : List Ent} {k : Key} {p : Nat × Ent} (h : H[id]? = some (.map t (entsM f es))) (hl : lookK k es = some p) :
    lookupA Try.prog H 95 (.hmap id) (encK k) true = some (.tup [ii (f p.2), bb true]) := by
  unfold lookupA
  rw [mapT95, Option.bind_some, if_pos (keyOk155 _ _ _ _)]
  simp only [h, Option.bind_some, findA_K, hl, Option.map_some, if_true]
theorem lookup_no {H : Heap} {id : Nat} {t : TypeId} {f : Ent → Int} {es : List Ent} {k : Key} (h : H[id]? = some (.map t (entsM f es))) (hl : lookK k es = none) :
    lookupA Try.prog H 95 (.hmap id) (encK k) true = some (.tup [ii 0, bb false]) := by
  unfold lookupA
  rw [mapT95, Option.bind_some, if_pos (keyOk155 _ _ _ _)]
  simp only [h, Option.bind_some, findA_K, hl, Option.map_none, if_true, zeroV3, Option.map_some]
theorem lookup_val {H : Heap} {id : Nat} {t : TypeId} {f : Ent → Int} {es : List Ent} {k : Key} {p : Nat × Ent} (h : H[id]? = some (.map t (entsM f es))) (hl : lookK k es = some p) :
    lookupA Try.prog H 95 (.hmap id) (encK k) false = some (ii (f p.2)) := by
  unfold lookupA
  rw [mapT95, Option.bind_some, if_pos (keyOk155 _ _ _ _)]
  simp only [h, Option.bind_some, findA_K, hl, Option.map_some, Bool.false_eq_true, if_false]
theorem entry_new {H : Heap} {id : Nat} {t : TypeId} {f : Ent → Int} {es : List Ent} {k : Key} (h : H[id]? = some (.map t (entsM f es))) (hl : lookK k es = none) :
    mapEntryA Try.prog H 95 (.hmap id) (encK k) = some (.tup [ii 0, ii es.length], H.set id (.map t (entsM f es ++ [(encK k, ii 0)]))) := by
  unfold mapEntryA
  rw [mapT95, Option.bind_some, if_pos (keyOk155 _ _ _ _)]
  simp only [h, Option.bind_some, findA_K, hl, Option.map_none, zeroV3, Option.map_some, List.length_map]
theorem store_new {H : Heap} {id : Nat} {t : TypeId} {f : Ent → Int} {es : List Ent} {k : Key} {x : Int} (h : H[id]? = some (.map t (entsM f es ++ [(encK k, ii 0)]))) :
    entryStoreA H (.hmap id) (ii es.length) (ii x) = some (H.set id (.map t (entsM f es ++ [(encK k, ii x)]))) := by
  have hl : (entsM f es).length = es.length := by simp
  unfold entryStoreA
  simp only [h]
  rw [if_pos (by omega), Int.toNat_natCast, ← hl, List.getElem?_concat_length, Option.map_some, List.set_append_right _ _ (Nat.le_refl _), Nat.sub_self]
  rfl
end Go.Proofs.Sw
