/- A part of the proof: what functions of the program answer, of whatever arguments, reckoned with letters by the interpreter's equations. Its conditions stand in each theorem. -/
import Derived.Test.YtefdgfdahmaciaaWB
namespace Go.Proofs.Sw
set_option linter.unusedVariables false
set_option linter.unusedSimpArgs false
set_option linter.unusedSectionVars false
open Go.Ab
variable [Globals]
theorem lookI_none {k : Int} : ∀ {es : List (Int × Int)}, (∀ e ∈ es, e.1 ≠ k) → lookI k es = none
  | [], _ => rfl
  | e :: es, h => by
    rw [lookI, if_neg (fun hk => h e (by simp) hk.symm), lookI_none (fun e he => h e (by simp [he]))]
    rfl
/-- What the inputs are laid into. -/
def layF (unt : List Int) (i : Nat) : List Bool := (unt.take i).map fun u => decide (u < 0)
def layP (i : Nat) : List (Int × Int) := (List.range i).map fun (v : Nat) => ((v : Int), (v : Int))
theorem layP_succ (i : Nat) : layP (i + 1) = layP i ++ [((i : Int), (i : Int))] := by simp [layP, List.range_succ]
theorem layP_none (i : Nat) : lookI i (layP i) = none := lookI_none (by
  intro e he
  simp only [layP, List.mem_map, List.mem_range] at he
  obtain ⟨v, hv, rfl⟩ := he
  simp only
  omega)
theorem layF_length {unt : List Int} {i : Nat} (h : i ≤ unt.length) : (layF unt i).length = i := by simp [layF]; omega
theorem layF_succ {unt : List Int} {i : Nat} (h : i < unt.length) : layF unt (i + 1) = layF unt i ++ [decide (unt.getD i 0 < 0)] := by
  rw [layF, List.take_succ_eq_append_getElem h, List.map_append, List.getD_eq_getElem?_getD, List.getElem?_eq_getElem h]; rfl
/-- A program's life in memory, its lists from place b on. -/
abbrev lifeC (y0 y1 y2 y3 y4 : IV) (c no m : Nat) : List AV := [.c y0, .c y1, .c y2, .c y3, .c y4, hI 6 c, hI 7 c, hI 8 c, hI 9 no, hI 10 m]
theorem loop_Pack6 (kf : Nat) (x0 x1 x2 x3 z0 z1 z2 z3 y0 y1 y2 y3 y4 : IV) (c no : Nat) (c6 c7 c8 c9 : List IV) (unt : List Int) (g : Nat) (hg : g < unt.length) (hu : unt.length ≤ 100000) (k : Nat) (l : Ass) (z : Option Out) (hz : loopR Try.prog tab (kf + 1) none LB44_6 44 208 [1, 2, 4, 6, 29, 30] 13 k l ([.slot, .slot, lo 4 0 (encB (layF unt 0)), .cells 25 [.c x0, .c x1, .c x2, .c x3], .cells 25 [.c z0, .c z1, .c z2, .c z3], .cells 128 (lifeC y0 y1 y2 y3 y4 c no unt.length), .row false 3 c6, .row false 3 c7, .row false 3 c8, .row false 3 c9, rI unt, .map 123 (entsI (layP 0)), .cells 125 [.hmap 11, lv 2 1 0]]) = z) (hk : g < k) (a1 : asc l 1 = .ptr 3 0) (a2 : asc l 2 = .ptr 4 0) (a4 : asc l 4 = .ptr 5 0) (a6 : asc l 6 = .ptr 12 0) (a29 : asc l 29 = ii g) (a30 : asc l 30 = ii 0) :
    ∃ l', z = some (.exit 0 (fr 208 l') ([.slot, .slot, lo 4 g (encB (layF unt g)), .cells 25 [.c x0, .c x1, .c x2, .c x3], .cells 25 [.c z0, .c z1, .c z2, .c z3], .cells 128 (lifeC y0 y1 y2 y3 y4 c no unt.length), .row false 3 c6, .row false 3 c7, .row false 3 c8, .row false 3 c9, rI unt, .map 123 (entsI (layP g)), .cells 125 [.hmap 11, lv 2 1 g]])) ∧ asc l' 1 = .ptr 3 0 ∧ asc l' 2 = .ptr 4 0 ∧ asc l' 4 = .ptr 5 0 ∧ asc l' 6 = .ptr 12 0 ∧ asc l' 29 = ii g ∧ asc l' 30 = ii g := by
  subst hz
  refine loop_nat g (fun k l H => loopR Try.prog tab (kf + 1) none LB44_6 44 208 [1, 2, 4, 6, 29, 30] 13 k l H)
    (fun i l H => asc l 1 = .ptr 3 0 ∧ asc l 2 = .ptr 4 0 ∧ asc l 4 = .ptr 5 0 ∧ asc l 6 = .ptr 12 0 ∧ asc l 29 = ii g ∧ asc l 30 = ii i ∧ ∃ G, H = ([.slot, .slot, lo 4 i (encB (layF unt i)), .cells 25 [.c x0, .c x1, .c x2, .c x3], .cells 25 [.c z0, .c z1, .c z2, .c z3], .cells 128 (lifeC y0 y1 y2 y3 y4 c no unt.length), .row false 3 c6, .row false 3 c7, .row false 3 c8, .row false 3 c9, rI unt, .map 123 (entsI (layP i)), .cells 125 [.hmap 11, lv 2 1 i]]) ++ G)
    (fun z => ∃ l', z = some (.exit 0 (fr 208 l') ([.slot, .slot, lo 4 g (encB (layF unt g)), .cells 25 [.c x0, .c x1, .c x2, .c x3], .cells 25 [.c z0, .c z1, .c z2, .c z3], .cells 128 (lifeC y0 y1 y2 y3 y4 c no unt.length), .row false 3 c6, .row false 3 c7, .row false 3 c8, .row false 3 c9, rI unt, .map 123 (entsI (layP g)), .cells 125 [.hmap 11, lv 2 1 g]])) ∧ asc l' 1 = .ptr 3 0 ∧ asc l' 2 = .ptr 4 0 ∧ asc l' 4 = .ptr 5 0 ∧ asc l' 6 = .ptr 12 0 ∧ asc l' 29 = ii g ∧ asc l' 30 = ii g) ?_ g 0 k l _ (by omega) hk ⟨a1, a2, a4, a6, a29, a30, [], by rw [List.append_nil]⟩
  clear hk a1 a2 a4 a6 a29 a30
  rintro i k l H hi ⟨a1, a2, a4, a6, a29, a30, G, rfl⟩
  have ht : trim 13 (fr 208 (keep l [1, 2, 4, 6, 29, 30])) (([.slot, .slot, lo 4 i (encB (layF unt i)), .cells 25 [.c x0, .c x1, .c x2, .c x3], .cells 25 [.c z0, .c z1, .c z2, .c z3], .cells 128 (lifeC y0 y1 y2 y3 y4 c no unt.length), .row false 3 c6, .row false 3 c7, .row false 3 c8, .row false 3 c9, rI unt, .map 123 (entsI (layP i)), .cells 125 [.hmap 11, lv 2 1 i]]) ++ G) = ([.slot, .slot, lo 4 i (encB (layF unt i)), .cells 25 [.c x0, .c x1, .c x2, .c x3], .cells 25 [.c z0, .c z1, .c z2, .c z3], .cells 128 (lifeC y0 y1 y2 y3 y4 c no unt.length), .row false 3 c6, .row false 3 c7, .row false 3 c8, .row false 3 c9, rI unt, .map 123 (entsI (layP i)), .cells 125 [.hmap 11, lv 2 1 i]]) := trim_app (by simp) (by simp only [a1, a2, a4, a6, a29, a30, entsI_under, EVb, EVc, Int.reduceEq, Int.reduceToNat, Int.reduceLE, Int.reduceLT, Int.reduceAdd, Int.reduceMul, Int.reduceSub, Int.reduceNeg, Nat.reduceAdd, Nat.reduceSub, Nat.reduceMul, Nat.reduceLT, Nat.reduceBEq, Nat.reduceEqDiff, Nat.reduceLeDiff]) (by simp only [entsI_under, EVb, EVc, Int.reduceEq, Int.reduceToNat, Int.reduceLE, Int.reduceLT, Int.reduceAdd, Int.reduceMul, Int.reduceSub, Int.reduceNeg, Nat.reduceAdd, Nat.reduceSub, Nat.reduceMul, Nat.reduceLT, Nat.reduceBEq, Nat.reduceEqDiff, Nat.reduceLeDiff])
  by_cases hc : i < g
  · have hc' : (i : Int) < ((g : Nat) : Int) := by omega
    have hc0 : (0 : Int) ≤ i := by omega
    have hw : IntKind.wrap .i64 ((i : Int) + 1) = ((i + 1 : Nat) : Int) := by rw [wrap64 (by omega) (by omega)]; omega
    have hul : (encInts unt).length = unt.length := encInts_length _
    have hx := encInts_getD (l := unt) (r := (i : Int)) hc0 (by omega)
    rw [Int.toNat_natCast] at hx
    have hiu : (i : Int) < unt.length := by omega
    have hfl := layF_length (unt := unt) (i := i) (by omega)
    rw [layP_succ, layF_succ (by omega)]
    obtain ⟨u, hU⟩ : ∃ u, u = unt.getD i 0 := ⟨_, rfl⟩
    rw [← hU] at hx ⊢
    by_cases hi0 : i = 0
    · have hlv : lv 2 1 i = .c (.slice [] 0 true (some 0)) := by rw [hi0]; rfl
      have hlo : lo 4 i (encB (layF unt i)) = .slot := by rw [hi0]; rfl
      obtain ⟨G2, hL⟩ := lay_evA kf (layP i) (layF unt i) i u (by rw [hi0]; rfl) (layP_none i) (by omega)
      simp only [hfl, ii, hlv] at hL
      simp only [loopR_succ, ht]
      simp only [a1, a2, a4, a6, a29, a30, hc', hc0, hw, hul, hx, hiu, entsI_ids, entsI_ren, hL, hlv, hlo, loopR_succ, loopOf, findLoop, firstRegion, Option.some_or, Option.none_or, Option.getD_some, Option.some.injEq, Try.f44, EVb, EVc, Int.reduceEq, Int.reduceToNat, Int.reduceLE, Int.reduceLT, Int.reduceAdd, Int.reduceMul, Int.reduceSub, Int.reduceNeg, Nat.reduceAdd, Nat.reduceSub, Nat.reduceMul, Nat.reduceLT, Nat.reduceBEq, Nat.reduceEqDiff, Nat.reduceLeDiff, FACTS, TYPES]
      refine .inr ⟨_, _, hc, rfl, (by rfl), (by rfl), (by rfl), (by rfl), (by rfl), (by rfl), ?_⟩
      rw [lv_pos (s := 2) (sz := 1) (Nat.succ_pos i), lo_pos (e := 4) (Nat.succ_pos i), Nat.mul_one]
      exact ⟨_, by rfl⟩
    · have hip : 0 < i := by omega
      have hlv : lv 2 1 i = hI 2 i := by rw [lv_pos hip, Nat.mul_one]
      have hlo : lo 4 i (encB (layF unt i)) = rB (layF unt i) := by rw [lo_pos hip]
      obtain ⟨G2, hL⟩ := lay_evB kf (layP i) (layF unt i) i u (by intro h; rw [h] at hfl; simp at hfl; omega) (layP_none i) (by omega)
      simp only [hfl, ii, hlv] at hL
      simp only [loopR_succ, ht]
      simp only [a1, a2, a4, a6, a29, a30, hc', hc0, hw, hul, hx, hiu, entsI_ids, entsI_ren, hL, hlv, hlo, loopR_succ, loopOf, findLoop, firstRegion, Option.some_or, Option.none_or, Option.getD_some, Option.some.injEq, Try.f44, EVb, EVc, Int.reduceEq, Int.reduceToNat, Int.reduceLE, Int.reduceLT, Int.reduceAdd, Int.reduceMul, Int.reduceSub, Int.reduceNeg, Nat.reduceAdd, Nat.reduceSub, Nat.reduceMul, Nat.reduceLT, Nat.reduceBEq, Nat.reduceEqDiff, Nat.reduceLeDiff, FACTS, TYPES]
      refine .inr ⟨_, _, hc, rfl, (by rfl), (by rfl), (by rfl), (by rfl), (by rfl), (by rfl), ?_⟩
      rw [lv_pos (s := 2) (sz := 1) (Nat.succ_pos i), lo_pos (e := 4) (Nat.succ_pos i), Nat.mul_one]
      exact ⟨_, by rfl⟩
  · refine .inl ?_
    obtain rfl : i = g := by omega
    have hc' : ¬ (((i : Nat) : Int) < ((i : Nat) : Int)) := by omega
    simp only [loopR_succ, ht]
    simp only [a1, a2, a4, a6, a29, a30, hc', loopR_succ, loopOf, findLoop, firstRegion, Option.some_or, Option.none_or, Option.getD_some, Option.some.injEq, Try.f44, EVb, EVc, Int.reduceEq, Int.reduceToNat, Int.reduceLE, Int.reduceLT, Int.reduceAdd, Int.reduceMul, Int.reduceSub, Int.reduceNeg, Nat.reduceAdd, Nat.reduceSub, Nat.reduceMul, Nat.reduceLT, Nat.reduceBEq, Nat.reduceEqDiff, Nat.reduceLeDiff, FACTS, TYPES]
    exact ⟨_, rfl, (by rfl), (by rfl), (by rfl), (by rfl), (by rfl), (by rfl)⟩

end Go.Proofs.Sw
namespace Go.Proofs.Sw
set_option linter.unusedVariables false
set_option linter.unusedSimpArgs false
set_option linter.unusedSectionVars false
open Go.Ab
variable [Globals]
/-- Where values stand, and what was made so far. -/
structure Pk where
  at_ : List (Int × Int)
  free : List Bool
  code : List Ins
  regs : Int
def freeOne (at_ : List (Int × Int)) (unt : List Int) (k : Nat) (f : List Bool) (v : Int) : List Bool := if unt.getD v.toNat 0 = k then f.set (atI at_ v).toNat true else f
def pkStep (L : Lv) (unt : List Int) (q : Pk) (k : Nat) (x : Ins) : Pk :=
  let f2 := freeOne q.at_ unt k (freeOne q.at_ unt k q.free (L.a.getD k 0)) (L.b.getD k 0)
  ⟨q.at_ ++ [(L.sets.getD k 0, (leastM f2 : Int))], giveF f2, q.code ++ [⟨x.op, leastM f2, atI q.at_ (L.a.getD k 0), if x.op = 3 ∨ x.op = 4 then atI q.at_ (L.b.getD k 0) else x.b, x.c⟩],
    if ((leastM f2 : Nat) : Int) + 1 > q.regs then ((leastM f2 : Nat) : Int) + 1 else q.regs⟩
def pkAt (L : Lv) (unt : List Int) (q0 : Pk) (need : List Bool) (code : List Ins) : Nat → Pk
  | 0 => q0
  | i + 1 => match code[i]? with
    | some x => if need.getD i false = true then pkStep L unt (pkAt L unt q0 need code i) i x else pkAt L unt q0 need code i
    | none => pkAt L unt q0 need code i
theorem pkAt_succ {L : Lv} {unt : List Int} {q0 : Pk} {need : List Bool} {code : List Ins} {i : Nat} (h : i < code.length) : pkAt L unt q0 need code (i + 1) = if need.getD i false = true then pkStep L unt (pkAt L unt q0 need code i) i code[i] else pkAt L unt q0 need code i := by
  rw [pkAt, List.getElem?_eq_getElem h]
/-- Every value stands in a register that there is. -/
structure PkOk (q : Pk) : Prop where
  pos : 0 < q.free.length
  at_ : ∀ e ∈ q.at_, 0 ≤ e.2 ∧ e.2 < q.free.length
theorem lookI_mem {k : Int} : ∀ {es : List (Int × Int)} {p : Nat × Int}, lookI k es = some p → (k, p.2) ∈ es
  | [], _, h => by cases h
  | e :: es, p, h => by
    rw [lookI] at h
    split at h
    · rename_i hk
      injection h with h
      subst h
      rw [hk]
      exact List.mem_cons_self ..
    · obtain ⟨q, hq, rfl⟩ := Option.map_eq_some_iff.1 h
      have := lookI_mem hq
      exact List.mem_cons_of_mem _ this
theorem PkOk.at_lt {q : Pk} (h : PkOk q) (v : Int) : 0 ≤ atI q.at_ v ∧ atI q.at_ v < q.free.length := by
  unfold atI
  cases hl : lookI v q.at_ with
  | none => have := h.pos; simp only; omega
  | some p => exact h.at_ _ (lookI_mem hl)
theorem freeOne_length {a : List (Int × Int)} {unt : List Int} {k : Nat} {f : List Bool} {v : Int} : (freeOne a unt k f v).length = f.length := by
  unfold freeOne; split <;> simp
theorem giveF_length (f : List Bool) : (giveF f).length = max f.length (leastM f + 1) := by
  have := leastM_le f
  unfold giveF
  split <;> simp <;> omega
theorem pkStep_ok {L : Lv} {unt : List Int} {q : Pk} {k : Nat} {x : Ins} (h : PkOk q) : PkOk (pkStep L unt q k x) := by
  have hp := h.pos
  have hl := giveF_length (freeOne q.at_ unt k (freeOne q.at_ unt k q.free (L.a.getD k 0)) (L.b.getD k 0))
  rw [freeOne_length, freeOne_length] at hl
  refine ⟨by simp only [pkStep]; omega, fun e he => ?_⟩
  simp only [pkStep, List.mem_append, List.mem_singleton] at he ⊢
  rcases he with he | rfl
  · have := h.at_ e he; omega
  · simp only; omega
theorem idx62 (a b : Int) {i : Nat} (h : i < 2) : indexA Try.prog 62 (.agg [.c (.int .i64 a), .c (.int .i64 b)]) (.c (.int .i64 (i : Int))) = some (.c (.int .i64 (if i = 0 then a else b))) := by
  obtain rfl | rfl : i = 0 ∨ i = 1 := by omega
  · kernel_rfl
  · kernel_rfl
end Go.Proofs.Sw
namespace Go.Proofs.Sw
set_option linter.unusedVariables false
set_option linter.unusedSimpArgs false
set_option linter.unusedSectionVars false
open Go.Ab
variable [Globals]
theorem look11 {o0 o1 o2 o3 o4 o5 o6 o7 o8 o9 o10 : AObj} {X : Heap} {es : List (Int × Int)} {k : Int} :
    lookupA Try.prog (o0 :: o1 :: o2 :: o3 :: o4 :: o5 :: o6 :: o7 :: o8 :: o9 :: o10 :: .map 123 (entsI es) :: X) 123 (.hmap 11) (.c (.int .i64 k)) false = some (.c (.int .i64 (atI es k))) := look_valI rfl
def freeAt (at_ : List (Int × Int)) (unt : List Int) (k : Nat) (f : List Bool) (a b : Int) : Nat → List Bool
  | 0 => f
  | 1 => freeOne at_ unt k f a
  | _ => freeOne at_ unt k (freeOne at_ unt k f a) b
theorem freeAt_succ {at_ : List (Int × Int)} {unt : List Int} {k : Nat} {f : List Bool} {a b : Int} {i : Nat} (h : i < 2) : freeAt at_ unt k f a b (i + 1) = freeOne at_ unt k (freeAt at_ unt k f a b i) (if i = 0 then a else b) := by
  obtain rfl | rfl : i = 0 ∨ i = 1 := by omega
  · rfl
  · rfl
theorem freeAt_length {at_ : List (Int × Int)} {unt : List Int} {k : Nat} {f : List Bool} {a b : Int} {i : Nat} : (freeAt at_ unt k f a b i).length = f.length := by
  unfold freeAt
  split <;> simp [freeOne_length]
theorem loop_Pack22 (kf : Nat) (o0 o1 o3 o4 o6 o7 o8 o9 o13 o14 : AObj) (uo0 : AObj.under 15 o0 = true) (uo1 : AObj.under 15 o1 = true) (uo3 : AObj.under 15 o3 = true) (uo4 : AObj.under 15 o4 = true) (uo6 : AObj.under 15 o6 = true) (uo7 : AObj.under 15 o7 = true) (uo8 : AObj.under 15 o8 = true) (uo9 : AObj.under 15 o9 = true) (uo13 : AObj.under 15 o13 = true) (uo14 : AObj.under 15 o14 = true) (y0 y1 y2 y3 y4 : IV) (c no : Nat) (unt : List Int) (q : Pk) (hq : PkOk q) (kk : Nat) (a b : Int) (ha : 0 ≤ a ∧ a < unt.length) (hb : 0 ≤ b ∧ b < unt.length) (cl : Int) (sc : IV) (k : Nat) (l : Ass) (z : Option Out) (hz : loopR Try.prog tab kf none LB44_22 44 208 [2, 4, 6, 8, 9, 10, 77, 78, 79, 137, 138] 15 k l ([o0, o1, rB (freeAt q.at_ unt kk q.free a b 0), o3, o4, .cells 128 (lifeC y0 y1 y2 y3 y4 c no unt.length), o6, o7, o8, o9, rI unt, .map 123 (entsI q.at_), .cells 125 [.hmap 11, hI 2 q.free.length], o13, o14]) = z) (hk : 2 < k) (a2 : asc l 2 = .ptr 4 0) (a4 : asc l 4 = .ptr 5 0) (a6 : asc l 6 = .ptr 12 0) (a8 : asc l 8 = .ptr 13 0) (a9 : asc l 9 = ii kk) (a10 : asc l 10 = .ptr 14 0) (a77 : asc l 77 = .c sc) (a78 : asc l 78 = ii cl) (a79 : asc l 79 = ii kk) (a137 : asc l 137 = .agg [ii a, ii b]) (a138 : asc l 138 = ii 0) :
    ∃ l', z = some (.exit 4 (fr 208 l') ([o0, o1, rB (freeAt q.at_ unt kk q.free a b 2), o3, o4, .cells 128 (lifeC y0 y1 y2 y3 y4 c no unt.length), o6, o7, o8, o9, rI unt, .map 123 (entsI q.at_), .cells 125 [.hmap 11, hI 2 q.free.length], o13, o14])) ∧ asc l' 2 = .ptr 4 0 ∧ asc l' 4 = .ptr 5 0 ∧ asc l' 6 = .ptr 12 0 ∧ asc l' 8 = .ptr 13 0 ∧ asc l' 9 = ii kk ∧ asc l' 10 = .ptr 14 0 ∧ asc l' 77 = .c sc ∧ asc l' 78 = ii cl ∧ asc l' 79 = ii kk ∧ asc l' 137 = .agg [ii a, ii b] ∧ asc l' 138 = ii 2 := by
  subst hz
  refine loop_nat 2 (fun k l H => loopR Try.prog tab kf none LB44_22 44 208 [2, 4, 6, 8, 9, 10, 77, 78, 79, 137, 138] 15 k l H)
    (fun i l H => asc l 2 = .ptr 4 0 ∧ asc l 4 = .ptr 5 0 ∧ asc l 6 = .ptr 12 0 ∧ asc l 8 = .ptr 13 0 ∧ asc l 9 = ii kk ∧ asc l 10 = .ptr 14 0 ∧ asc l 77 = .c sc ∧ asc l 78 = ii cl ∧ asc l 79 = ii kk ∧ asc l 137 = .agg [ii a, ii b] ∧ asc l 138 = ii i ∧ ∃ G, H = ([o0, o1, rB (freeAt q.at_ unt kk q.free a b i), o3, o4, .cells 128 (lifeC y0 y1 y2 y3 y4 c no unt.length), o6, o7, o8, o9, rI unt, .map 123 (entsI q.at_), .cells 125 [.hmap 11, hI 2 q.free.length], o13, o14]) ++ G)
    (fun z => ∃ l', z = some (.exit 4 (fr 208 l') ([o0, o1, rB (freeAt q.at_ unt kk q.free a b 2), o3, o4, .cells 128 (lifeC y0 y1 y2 y3 y4 c no unt.length), o6, o7, o8, o9, rI unt, .map 123 (entsI q.at_), .cells 125 [.hmap 11, hI 2 q.free.length], o13, o14])) ∧ asc l' 2 = .ptr 4 0 ∧ asc l' 4 = .ptr 5 0 ∧ asc l' 6 = .ptr 12 0 ∧ asc l' 8 = .ptr 13 0 ∧ asc l' 9 = ii kk ∧ asc l' 10 = .ptr 14 0 ∧ asc l' 77 = .c sc ∧ asc l' 78 = ii cl ∧ asc l' 79 = ii kk ∧ asc l' 137 = .agg [ii a, ii b] ∧ asc l' 138 = ii 2) ?_ 2 0 k l _ (by omega) hk ⟨a2, a4, a6, a8, a9, a10, a77, a78, a79, a137, a138, [], by rw [List.append_nil]⟩
  clear hk a2 a4 a6 a8 a9 a10 a77 a78 a79 a137 a138
  rintro i k l H hi ⟨a2, a4, a6, a8, a9, a10, a77, a78, a79, a137, a138, G, rfl⟩
  have ht : trim 15 (fr 208 (keep l [2, 4, 6, 8, 9, 10, 77, 78, 79, 137, 138])) (([o0, o1, rB (freeAt q.at_ unt kk q.free a b i), o3, o4, .cells 128 (lifeC y0 y1 y2 y3 y4 c no unt.length), o6, o7, o8, o9, rI unt, .map 123 (entsI q.at_), .cells 125 [.hmap 11, hI 2 q.free.length], o13, o14]) ++ G) = ([o0, o1, rB (freeAt q.at_ unt kk q.free a b i), o3, o4, .cells 128 (lifeC y0 y1 y2 y3 y4 c no unt.length), o6, o7, o8, o9, rI unt, .map 123 (entsI q.at_), .cells 125 [.hmap 11, hI 2 q.free.length], o13, o14]) := trim_app (by simp) (by simp only [a2, a4, a6, a8, a9, a10, a77, a78, a79, a137, a138, entsI_under, uo0, uo1, uo3, uo4, uo6, uo7, uo8, uo9, uo13, uo14, EVb, EVc, Int.reduceEq, Int.reduceToNat, Int.reduceLE, Int.reduceLT, Int.reduceAdd, Int.reduceMul, Int.reduceSub, Int.reduceNeg, Nat.reduceAdd, Nat.reduceSub, Nat.reduceMul, Nat.reduceLT, Nat.reduceBEq, Nat.reduceEqDiff, Nat.reduceLeDiff]) (by simp only [entsI_under, uo0, uo1, uo3, uo4, uo6, uo7, uo8, uo9, uo13, uo14, EVb, EVc, Int.reduceEq, Int.reduceToNat, Int.reduceLE, Int.reduceLT, Int.reduceAdd, Int.reduceMul, Int.reduceSub, Int.reduceNeg, Nat.reduceAdd, Nat.reduceSub, Nat.reduceMul, Nat.reduceLT, Nat.reduceBEq, Nat.reduceEqDiff, Nat.reduceLeDiff])
  by_cases hc : i < 2
  · have hc' : (i : Int) < ((2 : Nat) : Int) := by omega
    have hc0 : (0 : Int) ≤ i := by omega
    have hw : IntKind.wrap .i64 ((i : Int) + 1) = ((i + 1 : Nat) : Int) := by rw [wrap64 (by omega) (by omega)]; omega
    have hc2 : (i : Int) < 2 := by omega
    have hix := idx62 a b hc
    obtain ⟨v, hv⟩ : ∃ v, v = if i = 0 then a else b := ⟨_, rfl⟩
    rw [freeAt_succ hc]
    rw [← hv] at hix ⊢
    have hvb : 0 ≤ v ∧ v < unt.length := by rw [hv]; split <;> assumption
    obtain ⟨v0, v1⟩ := hvb
    have hul := encInts_length unt
    have hx := encInts_getD v0 v1
    have hfl := freeAt_length (at_ := q.at_) (unt := unt) (k := kk) (f := q.free) (a := a) (b := b) (i := i)
    obtain ⟨f, hf⟩ : ∃ f, f = freeAt q.at_ unt kk q.free a b i := ⟨_, rfl⟩
    rw [← hf] at hfl ht ⊢
    have hbl := encB_length f
    obtain ⟨r0, r1⟩ := hq.at_lt v
    have r2 : (atI q.at_ v).toNat < q.free.length := by omega
    by_cases hk : unt.getD v.toNat 0 = kk
    · have hfo : freeOne q.at_ unt kk f v = f.set (atI q.at_ v).toNat true := by unfold freeOne; rw [if_pos hk]
      simp only [loopR_succ, ht]
      simp only [a2, a4, a6, a8, a9, a10, a77, a78, a79, a137, a138, hc', hc0, hw, hix, hc2, hul, hx, v0, v1, hk, loopR_succ, loopOf, findLoop, firstRegion, Option.some_or, Option.none_or, Option.getD_some, Option.some.injEq, Try.f44, EVb, EVc, Int.reduceEq, Int.reduceToNat, Int.reduceLE, Int.reduceLT, Int.reduceAdd, Int.reduceMul, Int.reduceSub, Int.reduceNeg, Nat.reduceAdd, Nat.reduceSub, Nat.reduceMul, Nat.reduceLT, Nat.reduceBEq, Nat.reduceEqDiff, Nat.reduceLeDiff, FACTS, TYPES]
      rw [evalCode_drawn Try.f44 25 dr44_25]; rotate_left; rfl
      simp only [a2, a4, a6, a8, a9, a10, a77, a78, a79, a137, a138, hc', hc0, hw, look11, hbl, hfl, r0, r1, r2, encB_set, EVd, Nat.reducePow, Nat.reduceDiv, Nat.reduceMod, EVb, EVc, Int.reduceEq, Int.reduceToNat, Int.reduceLE, Int.reduceLT, Int.reduceAdd, Int.reduceMul, Int.reduceSub, Int.reduceNeg, Nat.reduceAdd, Nat.reduceSub, Nat.reduceMul, Nat.reduceLT, Nat.reduceBEq, Nat.reduceEqDiff, Nat.reduceLeDiff, FACTS, TYPES]
      rw [hfo]
      refine .inr ⟨_, _, hc, rfl, (by rfl), (by rfl), (by rfl), (by rfl), (by rfl), (by rfl), (by rfl), (by rfl), (by rfl), (by rfl), (by rfl), ?_⟩
      exact ⟨_, by rfl⟩
    · have hfo : freeOne q.at_ unt kk f v = f := by unfold freeOne; rw [if_neg hk]
      rw [hfo]
      simp only [loopR_succ, ht]
      simp only [a2, a4, a6, a8, a9, a10, a77, a78, a79, a137, a138, hc', hc0, hw, hix, hc2, hul, hx, v0, v1, hk, loopR_succ, loopOf, findLoop, firstRegion, Option.some_or, Option.none_or, Option.getD_some, Option.some.injEq, Try.f44, EVb, EVc, Int.reduceEq, Int.reduceToNat, Int.reduceLE, Int.reduceLT, Int.reduceAdd, Int.reduceMul, Int.reduceSub, Int.reduceNeg, Nat.reduceAdd, Nat.reduceSub, Nat.reduceMul, Nat.reduceLT, Nat.reduceBEq, Nat.reduceEqDiff, Nat.reduceLeDiff, FACTS, TYPES]
      refine .inr ⟨_, _, hc, rfl, (by rfl), (by rfl), (by rfl), (by rfl), (by rfl), (by rfl), (by rfl), (by rfl), (by rfl), (by rfl), (by rfl), ?_⟩
      exact ⟨_, by rfl⟩
  · refine .inl ?_
    obtain rfl : i = 2 := by omega
    have hc' : ¬ (((2 : Nat) : Int) < ((2 : Nat) : Int)) := by omega
    simp only [loopR_succ, ht]
    simp only [a2, a4, a6, a8, a9, a10, a77, a78, a79, a137, a138, hc', loopR_succ, loopOf, findLoop, firstRegion, Option.some_or, Option.none_or, Option.getD_some, Option.some.injEq, Try.f44, EVb, EVc, Int.reduceEq, Int.reduceToNat, Int.reduceLE, Int.reduceLT, Int.reduceAdd, Int.reduceMul, Int.reduceSub, Int.reduceNeg, Nat.reduceAdd, Nat.reduceSub, Nat.reduceMul, Nat.reduceLT, Nat.reduceBEq, Nat.reduceEqDiff, Nat.reduceLeDiff, FACTS, TYPES]
    exact ⟨_, rfl, (by rfl), (by rfl), (by rfl), (by rfl), (by rfl), (by rfl), (by rfl), (by rfl), (by rfl), (by rfl), (by rfl)⟩

end Go.Proofs.Sw
namespace Go.Proofs.Sw
set_option linter.unusedVariables false
set_option linter.unusedSimpArgs false
set_option linter.unusedSectionVars false
open Go.Ab
variable [Globals]
abbrev cdO (l : List Ins) : AObj := lo 34 l.length (encCode l)
theorem pkAt_facts {L : Lv} {unt : List Int} {q0 : Pk} {need : List Bool} {code : List Ins} (h0 : PkOk q0) : ∀ i, PkOk (pkAt L unt q0 need code i) ∧ (pkAt L unt q0 need code i).free.length ≤ q0.free.length + i ∧ (pkAt L unt q0 need code i).code.length ≤ q0.code.length + i
  | 0 => ⟨h0, Nat.le_refl _, Nat.le_refl _⟩
  | i + 1 => by
    obtain ⟨h1, h2, h3⟩ := pkAt_facts (L := L) (unt := unt) (need := need) (code := code) h0 i
    rw [pkAt]
    split
    · split
      · refine ⟨pkStep_ok h1, ?_, ?_⟩
        · have := giveF_length (freeOne (pkAt L unt q0 need code i).at_ unt i (freeOne (pkAt L unt q0 need code i).at_ unt i (pkAt L unt q0 need code i).free (L.a.getD i 0)) (L.b.getD i 0))
          have h4 := leastM_le (freeOne (pkAt L unt q0 need code i).at_ unt i (freeOne (pkAt L unt q0 need code i).at_ unt i (pkAt L unt q0 need code i).free (L.a.getD i 0)) (L.b.getD i 0))
          rw [freeOne_length, freeOne_length] at this h4
          simp only [pkStep]
          omega
        · simp only [pkStep, List.length_append, List.length_cons, List.length_nil]
          omega
      · exact ⟨h1, by omega, by omega⟩
    · exact ⟨h1, by omega, by omega⟩
set_option maxHeartbeats 8000000 in
theorem loop_Pack14 (kf : Nat) (x0 x1 x2 x3 z0 z1 z2 z3 y0 y2 y3 y1 : IV) (no : Nat) (ins : Int) (c9 : List IV) (L : Lv) (unt : List Int) (q0 : Pk) (need : List Bool) (code : List Ins) (hnd : need.length = code.length) (nl : Bool) (cap : Option Nat) (h0 : PkOk q0) (hf0 : q0.free.length ≤ 1000) (hc0' : q0.code = []) (hrg : 0 ≤ q0.regs) (hlen : code.length ≤ 20000) (hn : 200 ≤ kf) (hkf : code.length + 2000 ≤ kf)
(la : L.a.length = code.length) (lb : L.b.length = code.length) (ls : L.sets.length = code.length)
(hval : ∀ i, i < code.length → need.getD i false = true → (0 ≤ L.a.getD i 0 ∧ L.a.getD i 0 < unt.length) ∧ (0 ≤ L.b.getD i 0 ∧ L.b.getD i 0 < unt.length))
(hfresh : ∀ i, i < code.length → need.getD i false = true → lookI (L.sets.getD i 0) (pkAt L unt q0 need code i).at_ = none) (k : Nat) (l : Ass) (z : Option Out) (hz : loopR Try.prog tab (kf + 1) none LB44_14 44 208 [2, 4, 6, 8, 77, 78, 79] 14 k l ([cdO (pkAt L unt q0 need code 0).code, .slot, rB (pkAt L unt q0 need code 0).free, .cells 25 [.c x0, .c x1, .c x2, .c x3], .cells 25 [.c z0, .c z1, .c z2, .c z3], .cells 128 (lifeC y0 y1 y2 y3 (.slice (encB need) need.length false none) code.length no unt.length), rI L.a, rI L.b, rI L.sets, .row false 3 c9, rI unt, .map 123 (entsI (pkAt L unt q0 need code 0).at_), .cells 125 [.hmap 11, hI 2 (pkAt L unt q0 need code 0).free.length], .cells 25 [ii ins, ii (pkAt L unt q0 need code 0).regs, lv 0 5 (pkAt L unt q0 need code 0).code.length, .c (.slice [] 0 true (some 0))]]) = z) (hk : code.length < k) (a2 : asc l 2 = .ptr 4 0) (a4 : asc l 4 = .ptr 5 0) (a6 : asc l 6 = .ptr 12 0) (a8 : asc l 8 = .ptr 13 0) (a77 : asc l 77 = sC code nl cap) (a78 : asc l 78 = ii code.length) (a79 : asc l 79 = ii 0) :
    ∃ l', z = some (.exit 2 (fr 208 l') ([cdO (pkAt L unt q0 need code code.length).code, .slot, rB (pkAt L unt q0 need code code.length).free, .cells 25 [.c x0, .c x1, .c x2, .c x3], .cells 25 [.c z0, .c z1, .c z2, .c z3], .cells 128 (lifeC y0 y1 y2 y3 (.slice (encB need) need.length false none) code.length no unt.length), rI L.a, rI L.b, rI L.sets, .row false 3 c9, rI unt, .map 123 (entsI (pkAt L unt q0 need code code.length).at_), .cells 125 [.hmap 11, hI 2 (pkAt L unt q0 need code code.length).free.length], .cells 25 [ii ins, ii (pkAt L unt q0 need code code.length).regs, lv 0 5 (pkAt L unt q0 need code code.length).code.length, .c (.slice [] 0 true (some 0))]])) ∧ asc l' 2 = .ptr 4 0 ∧ asc l' 4 = .ptr 5 0 ∧ asc l' 6 = .ptr 12 0 ∧ asc l' 8 = .ptr 13 0 ∧ asc l' 77 = sC code nl cap ∧ asc l' 78 = ii code.length ∧ asc l' 79 = ii code.length := by
  subst hz
  refine loop_nat code.length (fun k l H => loopR Try.prog tab (kf + 1) none LB44_14 44 208 [2, 4, 6, 8, 77, 78, 79] 14 k l H)
    (fun i l H => asc l 2 = .ptr 4 0 ∧ asc l 4 = .ptr 5 0 ∧ asc l 6 = .ptr 12 0 ∧ asc l 8 = .ptr 13 0 ∧ asc l 77 = sC code nl cap ∧ asc l 78 = ii code.length ∧ asc l 79 = ii i ∧ ∃ G, H = ([cdO (pkAt L unt q0 need code i).code, .slot, rB (pkAt L unt q0 need code i).free, .cells 25 [.c x0, .c x1, .c x2, .c x3], .cells 25 [.c z0, .c z1, .c z2, .c z3], .cells 128 (lifeC y0 y1 y2 y3 (.slice (encB need) need.length false none) code.length no unt.length), rI L.a, rI L.b, rI L.sets, .row false 3 c9, rI unt, .map 123 (entsI (pkAt L unt q0 need code i).at_), .cells 125 [.hmap 11, hI 2 (pkAt L unt q0 need code i).free.length], .cells 25 [ii ins, ii (pkAt L unt q0 need code i).regs, lv 0 5 (pkAt L unt q0 need code i).code.length, .c (.slice [] 0 true (some 0))]]) ++ G)
    (fun z => ∃ l', z = some (.exit 2 (fr 208 l') ([cdO (pkAt L unt q0 need code code.length).code, .slot, rB (pkAt L unt q0 need code code.length).free, .cells 25 [.c x0, .c x1, .c x2, .c x3], .cells 25 [.c z0, .c z1, .c z2, .c z3], .cells 128 (lifeC y0 y1 y2 y3 (.slice (encB need) need.length false none) code.length no unt.length), rI L.a, rI L.b, rI L.sets, .row false 3 c9, rI unt, .map 123 (entsI (pkAt L unt q0 need code code.length).at_), .cells 125 [.hmap 11, hI 2 (pkAt L unt q0 need code code.length).free.length], .cells 25 [ii ins, ii (pkAt L unt q0 need code code.length).regs, lv 0 5 (pkAt L unt q0 need code code.length).code.length, .c (.slice [] 0 true (some 0))]])) ∧ asc l' 2 = .ptr 4 0 ∧ asc l' 4 = .ptr 5 0 ∧ asc l' 6 = .ptr 12 0 ∧ asc l' 8 = .ptr 13 0 ∧ asc l' 77 = sC code nl cap ∧ asc l' 78 = ii code.length ∧ asc l' 79 = ii code.length) ?_ code.length 0 k l _ (by omega) hk ⟨a2, a4, a6, a8, a77, a78, a79, [], by rw [List.append_nil]⟩
  clear hk a2 a4 a6 a8 a77 a78 a79
  rintro i k l H hi ⟨a2, a4, a6, a8, a77, a78, a79, G, rfl⟩
  have ht : trim 14 (fr 208 (keep l [2, 4, 6, 8, 77, 78, 79])) (([cdO (pkAt L unt q0 need code i).code, .slot, rB (pkAt L unt q0 need code i).free, .cells 25 [.c x0, .c x1, .c x2, .c x3], .cells 25 [.c z0, .c z1, .c z2, .c z3], .cells 128 (lifeC y0 y1 y2 y3 (.slice (encB need) need.length false none) code.length no unt.length), rI L.a, rI L.b, rI L.sets, .row false 3 c9, rI unt, .map 123 (entsI (pkAt L unt q0 need code i).at_), .cells 125 [.hmap 11, hI 2 (pkAt L unt q0 need code i).free.length], .cells 25 [ii ins, ii (pkAt L unt q0 need code i).regs, lv 0 5 (pkAt L unt q0 need code i).code.length, .c (.slice [] 0 true (some 0))]]) ++ G) = ([cdO (pkAt L unt q0 need code i).code, .slot, rB (pkAt L unt q0 need code i).free, .cells 25 [.c x0, .c x1, .c x2, .c x3], .cells 25 [.c z0, .c z1, .c z2, .c z3], .cells 128 (lifeC y0 y1 y2 y3 (.slice (encB need) need.length false none) code.length no unt.length), rI L.a, rI L.b, rI L.sets, .row false 3 c9, rI unt, .map 123 (entsI (pkAt L unt q0 need code i).at_), .cells 125 [.hmap 11, hI 2 (pkAt L unt q0 need code i).free.length], .cells 25 [ii ins, ii (pkAt L unt q0 need code i).regs, lv 0 5 (pkAt L unt q0 need code i).code.length, .c (.slice [] 0 true (some 0))]]) := trim_app (by simp) (by simp only [a2, a4, a6, a8, a77, a78, a79, entsI_under, EVb, EVc, Int.reduceEq, Int.reduceToNat, Int.reduceLE, Int.reduceLT, Int.reduceAdd, Int.reduceMul, Int.reduceSub, Int.reduceNeg, Nat.reduceAdd, Nat.reduceSub, Nat.reduceMul, Nat.reduceLT, Nat.reduceBEq, Nat.reduceEqDiff, Nat.reduceLeDiff]) (by simp only [entsI_under, EVb, EVc, Int.reduceEq, Int.reduceToNat, Int.reduceLE, Int.reduceLT, Int.reduceAdd, Int.reduceMul, Int.reduceSub, Int.reduceNeg, Nat.reduceAdd, Nat.reduceSub, Nat.reduceMul, Nat.reduceLT, Nat.reduceBEq, Nat.reduceEqDiff, Nat.reduceLeDiff])
  by_cases hc : i < code.length
  · have hc' : (i : Int) < ((code.length : Nat) : Int) := by omega
    have hc0 : (0 : Int) ≤ i := by omega
    have hw : IntKind.wrap .i64 ((i : Int) + 1) = ((i + 1 : Nat) : Int) := by rw [wrap64 (by omega) (by omega)]; omega
    have hx := encCode_get hc
    obtain ⟨x, hX⟩ : ∃ x, x = code[i] := ⟨_, rfl⟩
    have hst : pkAt L unt q0 need code (i + 1) = if need.getD i false = true then pkStep L unt (pkAt L unt q0 need code i) i x else pkAt L unt q0 need code i := by rw [pkAt_succ hc, hX]
    rw [← hX] at hx
    obtain ⟨hok, hfl, hcl⟩ := pkAt_facts (L := L) (unt := unt) (need := need) (code := code) h0 i
    have hfr := hfresh i hc
    have hvl := hval i hc
    obtain ⟨q, hQ⟩ : ∃ q, q = pkAt L unt q0 need code i := ⟨_, rfl⟩
    rw [hst]
    rw [← hQ] at hok hfl hcl hfr ht ⊢
    have hnb := encB_nat (l := need) (i := i) (by omega)
    have hnl : (encB need).length = code.length := by rw [encB_length, hnd]
    have ga := encInts_getD (l := L.a) (r := (i : Int)) hc0 (by omega)
    have gb := encInts_getD (l := L.b) (r := (i : Int)) hc0 (by omega)
    have gs := encInts_getD (l := L.sets) (r := (i : Int)) hc0 (by omega)
    rw [Int.toNat_natCast] at ga gb gs
    have eal := encInts_length L.a
    have ebl := encInts_length L.b
    have esl := encInts_length L.sets
    have hA := asks_ev (kf + 0) x.op x.to x.a x.b x.c
    simp only [run, aI, ii] at hA
    cases hni : need.getD i false with
    | false =>
      rw [if_neg (by simp)]
      rw [hni] at hnb
      simp only [loopR_succ, ht]
      simp only [a2, a4, a6, a8, a77, a78, a79, hc', hc0, hw, hx, hnb, hnl, hnd, loopR_succ, loopOf, findLoop, firstRegion, Option.some_or, Option.none_or, Option.getD_some, Option.some.injEq, Try.f44, EVb, EVc, Int.reduceEq, Int.reduceToNat, Int.reduceLE, Int.reduceLT, Int.reduceAdd, Int.reduceMul, Int.reduceSub, Int.reduceNeg, Nat.reduceAdd, Nat.reduceSub, Nat.reduceMul, Nat.reduceLT, Nat.reduceBEq, Nat.reduceEqDiff, Nat.reduceLeDiff, FACTS, TYPES]
      refine .inr ⟨_, _, hc, rfl, (by rfl), (by rfl), (by rfl), (by rfl), (by rfl), (by rfl), (by rfl), ?_⟩
      exact ⟨_, by rfl⟩
    | true =>
      rw [if_pos rfl]
      rw [hni] at hnb
      simp only [loopR_succ, ht]
      simp only [a2, a4, a6, a8, a77, a78, a79, hc', hc0, hw, hx, hnb, hnl, hnd, hA, loopR_succ, loopOf, findLoop, firstRegion, Option.some_or, Option.none_or, Option.getD_some, Option.some.injEq, Try.f44, EVb, EVc, Int.reduceEq, Int.reduceToNat, Int.reduceLE, Int.reduceLT, Int.reduceAdd, Int.reduceMul, Int.reduceSub, Int.reduceNeg, Nat.reduceAdd, Nat.reduceSub, Nat.reduceMul, Nat.reduceLT, Nat.reduceBEq, Nat.reduceEqDiff, Nat.reduceLeDiff, FACTS, TYPES]
      rw [evalCode_drawn Try.f44 18 dr44_18]; rotate_left; rfl
      simp only [a2, a4, a6, a8, a77, a78, a79, hc', hc0, hw, look11, ga, eal, la, EVd, Nat.reducePow, Nat.reduceDiv, Nat.reduceMod, EVb, EVc, Int.reduceEq, Int.reduceToNat, Int.reduceLE, Int.reduceLT, Int.reduceAdd, Int.reduceMul, Int.reduceSub, Int.reduceNeg, Nat.reduceAdd, Nat.reduceSub, Nat.reduceMul, Nat.reduceLT, Nat.reduceBEq, Nat.reduceEqDiff, Nat.reduceLeDiff, FACTS, TYPES]
      by_cases h34 : x.op = 3 ∨ x.op = 4
      · have hl2 : (asks ⟨x.op, x.to, x.a, x.b, x.c⟩).length = 2 := by rw [asks_two h34]; rfl
        have h12 : (1 : Int) < ((2 : Nat) : Int) := by decide
        try simp only [a2, a4, a6, a8, a77, a78, a79, hc', hc0, hw, hl2, h12, EVb, EVc, Int.reduceEq, Int.reduceToNat, Int.reduceLE, Int.reduceLT, Int.reduceAdd, Int.reduceMul, Int.reduceSub, Int.reduceNeg, Nat.reduceAdd, Nat.reduceSub, Nat.reduceMul, Nat.reduceLT, Nat.reduceBEq, Nat.reduceEqDiff, Nat.reduceLeDiff, FACTS, TYPES]
        rw [evalCode_drawn Try.f44 20 dr44_20]; rotate_left; rfl
        simp only [a2, a4, a6, a8, a77, a78, a79, hc', hc0, hw, look11, gb, ebl, lb, EVd, Nat.reducePow, Nat.reduceDiv, Nat.reduceMod, EVb, EVc, Int.reduceEq, Int.reduceToNat, Int.reduceLE, Int.reduceLT, Int.reduceAdd, Int.reduceMul, Int.reduceSub, Int.reduceNeg, Nat.reduceAdd, Nat.reduceSub, Nat.reduceMul, Nat.reduceLT, Nat.reduceBEq, Nat.reduceEqDiff, Nat.reduceLeDiff, FACTS, TYPES]
        rw [evalCode_drawn Try.f44 21 dr44_21]; rotate_left; rfl
        simp only [a2, a4, a6, a8, a77, a78, a79, hc', hc0, hw, ga, gb, eal, ebl, la, lb, EVd, Nat.reducePow, Nat.reduceDiv, Nat.reduceMod, EVb, EVc, Int.reduceEq, Int.reduceToNat, Int.reduceLE, Int.reduceLT, Int.reduceAdd, Int.reduceMul, Int.reduceSub, Int.reduceNeg, Nat.reduceAdd, Nat.reduceSub, Nat.reduceMul, Nat.reduceLT, Nat.reduceBEq, Nat.reduceEqDiff, Nat.reduceLeDiff, FACTS, TYPES]
        rw [evalCode_loopB LB44_22 lp44_22]; rotate_left; rfl; rfl; rfl
        generalize hz : loopR _ _ _ _ _ _ _ _ _ _ _ _ = z
        obtain ⟨⟨va0, va1⟩, ⟨vb0, vb1⟩⟩ := hvl hni
        obtain ⟨l', rfl, e2, e4, e6, e8, e9, e10, e77, e78, e79, _, _⟩ := loop_Pack22 (kf + 1) _ _ _ _ _ _ _ _ _ _ (by simp only [EVb, EVc, Int.reduceEq, Int.reduceToNat, Int.reduceLE, Int.reduceLT, Int.reduceAdd, Int.reduceMul, Int.reduceSub, Int.reduceNeg, Nat.reduceAdd, Nat.reduceSub, Nat.reduceMul, Nat.reduceLT, Nat.reduceBEq, Nat.reduceEqDiff, Nat.reduceLeDiff, FACTS, TYPES]) (by simp only [EVb, EVc, Int.reduceEq, Int.reduceToNat, Int.reduceLE, Int.reduceLT, Int.reduceAdd, Int.reduceMul, Int.reduceSub, Int.reduceNeg, Nat.reduceAdd, Nat.reduceSub, Nat.reduceMul, Nat.reduceLT, Nat.reduceBEq, Nat.reduceEqDiff, Nat.reduceLeDiff, FACTS, TYPES]) (by simp only [EVb, EVc, Int.reduceEq, Int.reduceToNat, Int.reduceLE, Int.reduceLT, Int.reduceAdd, Int.reduceMul, Int.reduceSub, Int.reduceNeg, Nat.reduceAdd, Nat.reduceSub, Nat.reduceMul, Nat.reduceLT, Nat.reduceBEq, Nat.reduceEqDiff, Nat.reduceLeDiff, FACTS, TYPES]) (by simp only [EVb, EVc, Int.reduceEq, Int.reduceToNat, Int.reduceLE, Int.reduceLT, Int.reduceAdd, Int.reduceMul, Int.reduceSub, Int.reduceNeg, Nat.reduceAdd, Nat.reduceSub, Nat.reduceMul, Nat.reduceLT, Nat.reduceBEq, Nat.reduceEqDiff, Nat.reduceLeDiff, FACTS, TYPES]) (by simp only [EVb, EVc, Int.reduceEq, Int.reduceToNat, Int.reduceLE, Int.reduceLT, Int.reduceAdd, Int.reduceMul, Int.reduceSub, Int.reduceNeg, Nat.reduceAdd, Nat.reduceSub, Nat.reduceMul, Nat.reduceLT, Nat.reduceBEq, Nat.reduceEqDiff, Nat.reduceLeDiff, FACTS, TYPES]) (by simp only [EVb, EVc, Int.reduceEq, Int.reduceToNat, Int.reduceLE, Int.reduceLT, Int.reduceAdd, Int.reduceMul, Int.reduceSub, Int.reduceNeg, Nat.reduceAdd, Nat.reduceSub, Nat.reduceMul, Nat.reduceLT, Nat.reduceBEq, Nat.reduceEqDiff, Nat.reduceLeDiff, FACTS, TYPES]) (by simp only [EVb, EVc, Int.reduceEq, Int.reduceToNat, Int.reduceLE, Int.reduceLT, Int.reduceAdd, Int.reduceMul, Int.reduceSub, Int.reduceNeg, Nat.reduceAdd, Nat.reduceSub, Nat.reduceMul, Nat.reduceLT, Nat.reduceBEq, Nat.reduceEqDiff, Nat.reduceLeDiff, FACTS, TYPES]) (by simp only [EVb, EVc, Int.reduceEq, Int.reduceToNat, Int.reduceLE, Int.reduceLT, Int.reduceAdd, Int.reduceMul, Int.reduceSub, Int.reduceNeg, Nat.reduceAdd, Nat.reduceSub, Nat.reduceMul, Nat.reduceLT, Nat.reduceBEq, Nat.reduceEqDiff, Nat.reduceLeDiff, FACTS, TYPES]) (by simp only [EVb, EVc, Int.reduceEq, Int.reduceToNat, Int.reduceLE, Int.reduceLT, Int.reduceAdd, Int.reduceMul, Int.reduceSub, Int.reduceNeg, Nat.reduceAdd, Nat.reduceSub, Nat.reduceMul, Nat.reduceLT, Nat.reduceBEq, Nat.reduceEqDiff, Nat.reduceLeDiff, FACTS, TYPES]) (by simp only [EVb, EVc, Int.reduceEq, Int.reduceToNat, Int.reduceLE, Int.reduceLT, Int.reduceAdd, Int.reduceMul, Int.reduceSub, Int.reduceNeg, Nat.reduceAdd, Nat.reduceSub, Nat.reduceMul, Nat.reduceLT, Nat.reduceBEq, Nat.reduceEqDiff, Nat.reduceLeDiff, FACTS, TYPES]) _ _ _ _ _ _ _ unt q hok i (L.a.getD i 0) (L.b.getD i 0) ⟨va0, va1⟩ ⟨vb0, vb1⟩ code.length _ _ _ z hz (by omega) (by rfl) (by rfl) (by rfl) (by rfl) (by rfl) (by rfl) (by rfl) (by rfl) (by rfl) (by rfl) (by rfl)
        clear hz
        obtain ⟨f2, hf2⟩ : ∃ f2, f2 = freeAt q.at_ unt i q.free (L.a.getD i 0) (L.b.getD i 0) 2 := ⟨_, rfl⟩
        have hf2l : f2.length = q.free.length := by rw [hf2, freeAt_length]
        obtain ⟨G2, hG⟩ := give_ev kf q.at_ f2 (L.sets.getD i 0) (hfr hni) (by omega) (by intro h; rw [h] at hf2l; have := hok.pos; simp at hf2l; omega) (by omega)
        rw [← hf2, ← hf2l]
        simp only [ii] at hG
        have hps : pkStep L unt q i x = ⟨q.at_ ++ [(L.sets.getD i 0, (leastM f2 : Int))], giveF f2, q.code ++ [⟨x.op, leastM f2, atI q.at_ (L.a.getD i 0), atI q.at_ (L.b.getD i 0), x.c⟩], if ((leastM f2 : Nat) : Int) + 1 > q.regs then ((leastM f2 : Nat) : Int) + 1 else q.regs⟩ := by
          rw [hf2]
          simp only [pkStep, if_pos h34, freeAt]
        rw [hps]
        have hlm := leastM_le f2
        have hwr : IntKind.wrap .i64 ((leastM f2 : Int) + 1) = (leastM f2 : Int) + 1 := by rw [wrap64 (by omega) (by omega)]
        have hap := fun X cs => lo_length (e := 34) (n := q.code.length) (sz := 5) (by_ := 40) (cells := encCode q.code) (cs := cs) (X := X) (Nat.le_trans (Nat.mul_le_mul_right 40 (show q.code.length + 1 ≤ 30001 by simp only [hc0', List.length_nil] at hcl; omega)) (by decide)) (by decide) (encCode_length _)
        try simp only [a2, a4, a6, a8, a77, a78, a79, hc', hc0, hw, e2, e4, e6, e8, e9, e10, e77, e78, e79, gs, esl, ls, entsI_ids, entsI_ren, hG, hap, hwr, EVb, EVc, Int.reduceEq, Int.reduceToNat, Int.reduceLE, Int.reduceLT, Int.reduceAdd, Int.reduceMul, Int.reduceSub, Int.reduceNeg, Nat.reduceAdd, Nat.reduceSub, Nat.reduceMul, Nat.reduceLT, Nat.reduceBEq, Nat.reduceEqDiff, Nat.reduceLeDiff, FACTS, TYPES]
        refine .inr ⟨_, _, hc, rfl, e2, e4, e6, e8, e77, e78, (by rfl), ?_⟩
        simp only [cdO, List.length_append, List.length_cons, List.length_nil, Nat.zero_add, encCode_append, encCode, enc1, List.append_nil]
        exact ⟨_, by rfl⟩
      · have hl1 : ¬ (1 : Int) < ((asks ⟨x.op, x.to, x.a, x.b, x.c⟩).length : Int) := by
          unfold asks
          rw [if_neg h34]
          split <;> simp
        try simp only [a2, a4, a6, a8, a77, a78, a79, hc', hc0, hw, hl1, EVb, EVc, Int.reduceEq, Int.reduceToNat, Int.reduceLE, Int.reduceLT, Int.reduceAdd, Int.reduceMul, Int.reduceSub, Int.reduceNeg, Nat.reduceAdd, Nat.reduceSub, Nat.reduceMul, Nat.reduceLT, Nat.reduceBEq, Nat.reduceEqDiff, Nat.reduceLeDiff, FACTS, TYPES]
        rw [evalCode_drawn Try.f44 21 dr44_21]; rotate_left; rfl
        simp only [a2, a4, a6, a8, a77, a78, a79, hc', hc0, hw, ga, gb, eal, ebl, la, lb, EVd, Nat.reducePow, Nat.reduceDiv, Nat.reduceMod, EVb, EVc, Int.reduceEq, Int.reduceToNat, Int.reduceLE, Int.reduceLT, Int.reduceAdd, Int.reduceMul, Int.reduceSub, Int.reduceNeg, Nat.reduceAdd, Nat.reduceSub, Nat.reduceMul, Nat.reduceLT, Nat.reduceBEq, Nat.reduceEqDiff, Nat.reduceLeDiff, FACTS, TYPES]
        rw [evalCode_loopB LB44_22 lp44_22]; rotate_left; rfl; rfl; rfl
        generalize hz : loopR _ _ _ _ _ _ _ _ _ _ _ _ = z
        obtain ⟨⟨va0, va1⟩, ⟨vb0, vb1⟩⟩ := hvl hni
        obtain ⟨l', rfl, e2, e4, e6, e8, e9, e10, e77, e78, e79, _, _⟩ := loop_Pack22 (kf + 1) _ _ _ _ _ _ _ _ _ _ (by simp only [EVb, EVc, Int.reduceEq, Int.reduceToNat, Int.reduceLE, Int.reduceLT, Int.reduceAdd, Int.reduceMul, Int.reduceSub, Int.reduceNeg, Nat.reduceAdd, Nat.reduceSub, Nat.reduceMul, Nat.reduceLT, Nat.reduceBEq, Nat.reduceEqDiff, Nat.reduceLeDiff, FACTS, TYPES]) (by simp only [EVb, EVc, Int.reduceEq, Int.reduceToNat, Int.reduceLE, Int.reduceLT, Int.reduceAdd, Int.reduceMul, Int.reduceSub, Int.reduceNeg, Nat.reduceAdd, Nat.reduceSub, Nat.reduceMul, Nat.reduceLT, Nat.reduceBEq, Nat.reduceEqDiff, Nat.reduceLeDiff, FACTS, TYPES]) (by simp only [EVb, EVc, Int.reduceEq, Int.reduceToNat, Int.reduceLE, Int.reduceLT, Int.reduceAdd, Int.reduceMul, Int.reduceSub, Int.reduceNeg, Nat.reduceAdd, Nat.reduceSub, Nat.reduceMul, Nat.reduceLT, Nat.reduceBEq, Nat.reduceEqDiff, Nat.reduceLeDiff, FACTS, TYPES]) (by simp only [EVb, EVc, Int.reduceEq, Int.reduceToNat, Int.reduceLE, Int.reduceLT, Int.reduceAdd, Int.reduceMul, Int.reduceSub, Int.reduceNeg, Nat.reduceAdd, Nat.reduceSub, Nat.reduceMul, Nat.reduceLT, Nat.reduceBEq, Nat.reduceEqDiff, Nat.reduceLeDiff, FACTS, TYPES]) (by simp only [EVb, EVc, Int.reduceEq, Int.reduceToNat, Int.reduceLE, Int.reduceLT, Int.reduceAdd, Int.reduceMul, Int.reduceSub, Int.reduceNeg, Nat.reduceAdd, Nat.reduceSub, Nat.reduceMul, Nat.reduceLT, Nat.reduceBEq, Nat.reduceEqDiff, Nat.reduceLeDiff, FACTS, TYPES]) (by simp only [EVb, EVc, Int.reduceEq, Int.reduceToNat, Int.reduceLE, Int.reduceLT, Int.reduceAdd, Int.reduceMul, Int.reduceSub, Int.reduceNeg, Nat.reduceAdd, Nat.reduceSub, Nat.reduceMul, Nat.reduceLT, Nat.reduceBEq, Nat.reduceEqDiff, Nat.reduceLeDiff, FACTS, TYPES]) (by simp only [EVb, EVc, Int.reduceEq, Int.reduceToNat, Int.reduceLE, Int.reduceLT, Int.reduceAdd, Int.reduceMul, Int.reduceSub, Int.reduceNeg, Nat.reduceAdd, Nat.reduceSub, Nat.reduceMul, Nat.reduceLT, Nat.reduceBEq, Nat.reduceEqDiff, Nat.reduceLeDiff, FACTS, TYPES]) (by simp only [EVb, EVc, Int.reduceEq, Int.reduceToNat, Int.reduceLE, Int.reduceLT, Int.reduceAdd, Int.reduceMul, Int.reduceSub, Int.reduceNeg, Nat.reduceAdd, Nat.reduceSub, Nat.reduceMul, Nat.reduceLT, Nat.reduceBEq, Nat.reduceEqDiff, Nat.reduceLeDiff, FACTS, TYPES]) (by simp only [EVb, EVc, Int.reduceEq, Int.reduceToNat, Int.reduceLE, Int.reduceLT, Int.reduceAdd, Int.reduceMul, Int.reduceSub, Int.reduceNeg, Nat.reduceAdd, Nat.reduceSub, Nat.reduceMul, Nat.reduceLT, Nat.reduceBEq, Nat.reduceEqDiff, Nat.reduceLeDiff, FACTS, TYPES]) (by simp only [EVb, EVc, Int.reduceEq, Int.reduceToNat, Int.reduceLE, Int.reduceLT, Int.reduceAdd, Int.reduceMul, Int.reduceSub, Int.reduceNeg, Nat.reduceAdd, Nat.reduceSub, Nat.reduceMul, Nat.reduceLT, Nat.reduceBEq, Nat.reduceEqDiff, Nat.reduceLeDiff, FACTS, TYPES]) _ _ _ _ _ _ _ unt q hok i (L.a.getD i 0) (L.b.getD i 0) ⟨va0, va1⟩ ⟨vb0, vb1⟩ code.length _ _ _ z hz (by omega) (by rfl) (by rfl) (by rfl) (by rfl) (by rfl) (by rfl) (by rfl) (by rfl) (by rfl) (by rfl) (by rfl)
        clear hz
        obtain ⟨f2, hf2⟩ : ∃ f2, f2 = freeAt q.at_ unt i q.free (L.a.getD i 0) (L.b.getD i 0) 2 := ⟨_, rfl⟩
        have hf2l : f2.length = q.free.length := by rw [hf2, freeAt_length]
        obtain ⟨G2, hG⟩ := give_ev kf q.at_ f2 (L.sets.getD i 0) (hfr hni) (by omega) (by intro h; rw [h] at hf2l; have := hok.pos; simp at hf2l; omega) (by omega)
        rw [← hf2, ← hf2l]
        simp only [ii] at hG
        have hps : pkStep L unt q i x = ⟨q.at_ ++ [(L.sets.getD i 0, (leastM f2 : Int))], giveF f2, q.code ++ [⟨x.op, leastM f2, atI q.at_ (L.a.getD i 0), x.b, x.c⟩], if ((leastM f2 : Nat) : Int) + 1 > q.regs then ((leastM f2 : Nat) : Int) + 1 else q.regs⟩ := by
          rw [hf2]
          simp only [pkStep, if_neg h34, freeAt]
        rw [hps]
        have hlm := leastM_le f2
        have hwr : IntKind.wrap .i64 ((leastM f2 : Int) + 1) = (leastM f2 : Int) + 1 := by rw [wrap64 (by omega) (by omega)]
        have hap := fun X cs => lo_length (e := 34) (n := q.code.length) (sz := 5) (by_ := 40) (cells := encCode q.code) (cs := cs) (X := X) (Nat.le_trans (Nat.mul_le_mul_right 40 (show q.code.length + 1 ≤ 30001 by simp only [hc0', List.length_nil] at hcl; omega)) (by decide)) (by decide) (encCode_length _)
        try simp only [a2, a4, a6, a8, a77, a78, a79, hc', hc0, hw, e2, e4, e6, e8, e9, e10, e77, e78, e79, gs, esl, ls, entsI_ids, entsI_ren, hG, hap, hwr, EVb, EVc, Int.reduceEq, Int.reduceToNat, Int.reduceLE, Int.reduceLT, Int.reduceAdd, Int.reduceMul, Int.reduceSub, Int.reduceNeg, Nat.reduceAdd, Nat.reduceSub, Nat.reduceMul, Nat.reduceLT, Nat.reduceBEq, Nat.reduceEqDiff, Nat.reduceLeDiff, FACTS, TYPES]
        refine .inr ⟨_, _, hc, rfl, e2, e4, e6, e8, e77, e78, (by rfl), ?_⟩
        simp only [cdO, List.length_append, List.length_cons, List.length_nil, Nat.zero_add, encCode_append, encCode, enc1, List.append_nil]
        exact ⟨_, by rfl⟩
  · refine .inl ?_
    obtain rfl : i = code.length := by omega
    have hc' : ¬ (((code.length : Nat) : Int) < ((code.length : Nat) : Int)) := by omega
    simp only [loopR_succ, ht]
    simp only [a2, a4, a6, a8, a77, a78, a79, hc', loopR_succ, loopOf, findLoop, firstRegion, Option.some_or, Option.none_or, Option.getD_some, Option.some.injEq, Try.f44, EVb, EVc, Int.reduceEq, Int.reduceToNat, Int.reduceLE, Int.reduceLT, Int.reduceAdd, Int.reduceMul, Int.reduceSub, Int.reduceNeg, Nat.reduceAdd, Nat.reduceSub, Nat.reduceMul, Nat.reduceLT, Nat.reduceBEq, Nat.reduceEqDiff, Nat.reduceLeDiff, FACTS, TYPES]
    exact ⟨_, rfl, (by rfl), (by rfl), (by rfl), (by rfl), (by rfl), (by rfl), (by rfl)⟩

end Go.Proofs.Sw
namespace Go.Proofs.Sw
set_option linter.unusedVariables false
set_option linter.unusedSimpArgs false
set_option linter.unusedSectionVars false
open Go.Ab
variable [Globals]
def atL (at_ : List (Int × Int)) (vs : List Int) : List Int := vs.map fun v => atI at_ v
theorem atL_take {at_ : List (Int × Int)} {vs : List Int} {i : Nat} (h : i < vs.length) : atL at_ (vs.take (i + 1)) = atL at_ (vs.take i) ++ [atI at_ vs[i]] := by
  rw [List.take_succ_eq_append_getElem h, atL, atL, List.map_append]; rfl
theorem atL_length (at_ : List (Int × Int)) (vs : List Int) : (atL at_ vs).length = vs.length := by simp [atL]
theorem loop_Pack32 (kf : Nat) (o0 o2 o3 o4 o5 o6 o7 o8 o10 : AObj) (uo0 : AObj.under 14 o0 = true) (uo2 : AObj.under 14 o2 = true) (uo3 : AObj.under 14 o3 = true) (uo4 : AObj.under 14 o4 = true) (uo5 : AObj.under 14 o5 = true) (uo6 : AObj.under 14 o6 = true) (uo7 : AObj.under 14 o7 = true) (uo8 : AObj.under 14 o8 = true) (uo10 : AObj.under 14 o10 = true) (at_ : List (Int × Int)) (fl cl : Nat) (i0 i1 : IV) (vs : List Int) (hlen : vs.length ≤ 20000) (k : Nat) (l : Ass) (z : Option Out) (hz : loopR Try.prog tab kf none LB44_32 44 208 [2, 6, 8, 189, 190, 191] 14 k l ([o0, lo 3 0 (encInts (atL at_ (vs.take 0))), o2, o3, o4, o5, o6, o7, o8, rI vs, o10, .map 123 (entsI at_), .cells 125 [.hmap 11, hI 2 fl], .cells 25 [.c i0, .c i1, lv 0 5 cl, lv 1 1 0]]) = z) (hk : vs.length < k) (a2 : asc l 2 = .ptr 4 0) (a6 : asc l 6 = .ptr 12 0) (a8 : asc l 8 = .ptr 13 0) (a189 : asc l 189 = hI 9 vs.length) (a190 : asc l 190 = ii vs.length) (a191 : asc l 191 = ii 0) :
    ∃ l', z = some (.exit 6 (fr 208 l') ([o0, lo 3 vs.length (encInts (atL at_ (vs.take vs.length))), o2, o3, o4, o5, o6, o7, o8, rI vs, o10, .map 123 (entsI at_), .cells 125 [.hmap 11, hI 2 fl], .cells 25 [.c i0, .c i1, lv 0 5 cl, lv 1 1 vs.length]])) ∧ asc l' 2 = .ptr 4 0 ∧ asc l' 6 = .ptr 12 0 ∧ asc l' 8 = .ptr 13 0 ∧ asc l' 189 = hI 9 vs.length ∧ asc l' 190 = ii vs.length ∧ asc l' 191 = ii vs.length := by
  subst hz
  refine loop_nat vs.length (fun k l H => loopR Try.prog tab kf none LB44_32 44 208 [2, 6, 8, 189, 190, 191] 14 k l H)
    (fun i l H => asc l 2 = .ptr 4 0 ∧ asc l 6 = .ptr 12 0 ∧ asc l 8 = .ptr 13 0 ∧ asc l 189 = hI 9 vs.length ∧ asc l 190 = ii vs.length ∧ asc l 191 = ii i ∧ ∃ G, H = ([o0, lo 3 i (encInts (atL at_ (vs.take i))), o2, o3, o4, o5, o6, o7, o8, rI vs, o10, .map 123 (entsI at_), .cells 125 [.hmap 11, hI 2 fl], .cells 25 [.c i0, .c i1, lv 0 5 cl, lv 1 1 i]]) ++ G)
    (fun z => ∃ l', z = some (.exit 6 (fr 208 l') ([o0, lo 3 vs.length (encInts (atL at_ (vs.take vs.length))), o2, o3, o4, o5, o6, o7, o8, rI vs, o10, .map 123 (entsI at_), .cells 125 [.hmap 11, hI 2 fl], .cells 25 [.c i0, .c i1, lv 0 5 cl, lv 1 1 vs.length]])) ∧ asc l' 2 = .ptr 4 0 ∧ asc l' 6 = .ptr 12 0 ∧ asc l' 8 = .ptr 13 0 ∧ asc l' 189 = hI 9 vs.length ∧ asc l' 190 = ii vs.length ∧ asc l' 191 = ii vs.length) ?_ vs.length 0 k l _ (by omega) hk ⟨a2, a6, a8, a189, a190, a191, [], by rw [List.append_nil]⟩
  clear hk a2 a6 a8 a189 a190 a191
  rintro i k l H hi ⟨a2, a6, a8, a189, a190, a191, G, rfl⟩
  have ht : trim 14 (fr 208 (keep l [2, 6, 8, 189, 190, 191])) (([o0, lo 3 i (encInts (atL at_ (vs.take i))), o2, o3, o4, o5, o6, o7, o8, rI vs, o10, .map 123 (entsI at_), .cells 125 [.hmap 11, hI 2 fl], .cells 25 [.c i0, .c i1, lv 0 5 cl, lv 1 1 i]]) ++ G) = ([o0, lo 3 i (encInts (atL at_ (vs.take i))), o2, o3, o4, o5, o6, o7, o8, rI vs, o10, .map 123 (entsI at_), .cells 125 [.hmap 11, hI 2 fl], .cells 25 [.c i0, .c i1, lv 0 5 cl, lv 1 1 i]]) := trim_app (by simp) (by simp only [a2, a6, a8, a189, a190, a191, entsI_under, uo0, uo2, uo3, uo4, uo5, uo6, uo7, uo8, uo10, EVb, EVc, Int.reduceEq, Int.reduceToNat, Int.reduceLE, Int.reduceLT, Int.reduceAdd, Int.reduceMul, Int.reduceSub, Int.reduceNeg, Nat.reduceAdd, Nat.reduceSub, Nat.reduceMul, Nat.reduceLT, Nat.reduceBEq, Nat.reduceEqDiff, Nat.reduceLeDiff]) (by simp only [entsI_under, uo0, uo2, uo3, uo4, uo5, uo6, uo7, uo8, uo10, EVb, EVc, Int.reduceEq, Int.reduceToNat, Int.reduceLE, Int.reduceLT, Int.reduceAdd, Int.reduceMul, Int.reduceSub, Int.reduceNeg, Nat.reduceAdd, Nat.reduceSub, Nat.reduceMul, Nat.reduceLT, Nat.reduceBEq, Nat.reduceEqDiff, Nat.reduceLeDiff])
  by_cases hc : i < vs.length
  · have hc' : (i : Int) < ((vs.length : Nat) : Int) := by omega
    have hc0 : (0 : Int) ≤ i := by omega
    have hw : IntKind.wrap .i64 ((i : Int) + 1) = ((i + 1 : Nat) : Int) := by rw [wrap64 (by omega) (by omega)]; omega
    have hx := encInts_get hc
    have hlen2 : (atL at_ (vs.take i)).length = i := by rw [atL_length, List.length_take]; omega
    have hap := fun x0 X cs => apO_lv (e := 3) (s := 1) (n := i) (m := 1) (sz := 1) (by_ := 8) (cells := encInts (atL at_ (vs.take i))) (cs := cs) (H := x0 :: lo 3 i (encInts (atL at_ (vs.take i))) :: X) (by decide) (Nat.le_trans (Nat.mul_le_mul_right 8 (show i + 1 ≤ 20001 by omega)) (by decide)) (by decide) rfl (by rw [encInts_length, hlen2, Nat.mul_one])
    have hnx := atL_take (at_ := at_) hc
    obtain ⟨v, hv⟩ : ∃ v, v = vs[i] := ⟨_, rfl⟩
    rw [← hv] at hx hnx
    have hel := encInts_length vs
    rw [hnx, encInts_append]
    simp only [loopR_succ, ht]
    simp only [a2, a6, a8, a189, a190, a191, hc', hc0, hw, hx, hel, loopR_succ, loopOf, findLoop, firstRegion, Option.some_or, Option.none_or, Option.getD_some, Option.some.injEq, Try.f44, EVb, EVc, Int.reduceEq, Int.reduceToNat, Int.reduceLE, Int.reduceLT, Int.reduceAdd, Int.reduceMul, Int.reduceSub, Int.reduceNeg, Nat.reduceAdd, Nat.reduceSub, Nat.reduceMul, Nat.reduceLT, Nat.reduceBEq, Nat.reduceEqDiff, Nat.reduceLeDiff, FACTS, TYPES]
    rw [evalCode_drawn Try.f44 34 dr44_34]; rotate_left; rfl
    simp only [a2, a6, a8, a189, a190, a191, hc', hc0, hw, hx, hel, look11, hap, EVd, Nat.reducePow, Nat.reduceDiv, Nat.reduceMod, EVb, EVc, Int.reduceEq, Int.reduceToNat, Int.reduceLE, Int.reduceLT, Int.reduceAdd, Int.reduceMul, Int.reduceSub, Int.reduceNeg, Nat.reduceAdd, Nat.reduceSub, Nat.reduceMul, Nat.reduceLT, Nat.reduceBEq, Nat.reduceEqDiff, Nat.reduceLeDiff, FACTS, TYPES]
    refine .inr ⟨_, _, hc, rfl, (by rfl), (by rfl), (by rfl), (by rfl), (by rfl), (by rfl), ?_⟩
    exact ⟨_, by rfl⟩
  · refine .inl ?_
    obtain rfl : i = vs.length := by omega
    have hc' : ¬ (((vs.length : Nat) : Int) < ((vs.length : Nat) : Int)) := by omega
    simp only [loopR_succ, ht]
    simp only [a2, a6, a8, a189, a190, a191, hc', loopR_succ, loopOf, findLoop, firstRegion, Option.some_or, Option.none_or, Option.getD_some, Option.some.injEq, Try.f44, EVb, EVc, Int.reduceEq, Int.reduceToNat, Int.reduceLE, Int.reduceLT, Int.reduceAdd, Int.reduceMul, Int.reduceSub, Int.reduceNeg, Nat.reduceAdd, Nat.reduceSub, Nat.reduceMul, Nat.reduceLT, Nat.reduceBEq, Nat.reduceEqDiff, Nat.reduceLeDiff, FACTS, TYPES]
    exact ⟨_, rfl, (by rfl), (by rfl), (by rfl), (by rfl), (by rfl), (by rfl)⟩

end Go.Proofs.Sw
namespace Go.Proofs.Sw
set_option linter.unusedVariables false
set_option linter.unusedSimpArgs false
set_option linter.unusedSectionVars false
open Go.Ab
variable [Globals]
theorem getD_set {l : List Int} {i k : Nat} {v : Int} : (l.set i v).getD k 0 = if i = k ∧ i < l.length then v else l.getD k 0 := by
  rw [List.getD_eq_getElem?_getD, List.getD_eq_getElem?_getD, List.getElem?_set]
  by_cases h : i = k
  · subst h
    by_cases h2 : i < l.length
    · simp [h2]
    · simp [h2]
  · simp [h]
/-- What the lists say of a needed instruction: what was held ahead of it. -/
theorem lv_at {q0 : Lv} {need : List Bool} {code : List Ins} {n : Nat} (h0 : LvOk q0 n code.length) {k : Nat} {x : Ins} (hx : code[k]? = some x) (hk : need.getD k false = true) : ∀ j, k < j → j ≤ code.length →
    (lvAt q0 need code j).a.getD k 0 = (lvAt q0 need code k).held.getD x.a.toNat 0 ∧ (lvAt q0 need code j).b.getD k 0 = lvB (lvAt q0 need code k).held x ∧ (lvAt q0 need code j).sets.getD k 0 = (lvAt q0 need code k).unt.length
  | 0, h, _ => by omega
  | j + 1, h, hj => by
    have hjl : j < code.length := by omega
    obtain ⟨hok, _⟩ := lvAt_ok (need := need) (code := code) h0 j
    rw [lvAt_succ hjl]
    by_cases hkj : k = j
    · subst hkj
      have e : code[k] = x := by rw [List.getElem?_eq_getElem hjl] at hx; injection hx
      rw [if_pos hk, e]
      simp only [lvStep, getD_set, hok.a, hok.b, hok.sets, hjl, and_self, if_true]
    · obtain ⟨h1, h2, h3⟩ := lv_at h0 hx hk j (by omega) (by omega)
      split
      · simp only [lvStep, getD_set, show ¬ j = k from fun h => hkj h.symm, false_and, if_false]
        exact ⟨h1, h2, h3⟩
      · exact ⟨h1, h2, h3⟩
theorem lv_unt_mono {q0 : Lv} {need : List Bool} {code : List Ins} (i : Nat) : (lvAt q0 need code i).unt.length ≤ (lvAt q0 need code (i + 1)).unt.length := by
  by_cases h : i < code.length
  · rw [lvAt_succ h]
    split
    · rw [lvStep_unt]; omega
    · exact Nat.le_refl _
  · rw [lvAt, List.getElem?_eq_none (by omega)]
    exact Nat.le_refl _
/-- All values that stand somewhere are older than the next one. -/
theorem pk_keys {q0 : Lv} {need : List Bool} {code : List Ins} {n : Nat} {L : Lv} {unt : List Int} {p0 : Pk} (h0 : LvOk q0 n code.length) (hL : L = lvAt q0 need code code.length) (hk0 : ∀ e ∈ p0.at_, e.1 < q0.unt.length) :
    ∀ i, i ≤ code.length → ∀ e ∈ (pkAt L unt p0 need code i).at_, e.1 < (lvAt q0 need code i).unt.length
  | 0, _, e, he => hk0 e he
  | i + 1, hi, e, he => by
    have hil : i < code.length := by omega
    have ih := pk_keys (unt := unt) h0 hL hk0 i (by omega)
    rw [pkAt_succ hil] at he
    rw [lvAt_succ hil]
    by_cases hn : need.getD i false = true
    · rw [if_pos hn] at he ⊢
      rw [lvStep_unt]
      simp only [pkStep, List.mem_append, List.mem_singleton] at he
      rcases he with he | rfl
      · have := ih e he; omega
      · have := (lv_at h0 (List.getElem?_eq_getElem hil) hn code.length hil (Nat.le_refl _)).2.2
        rw [← hL] at this
        simp only [this]
        omega
    · rw [if_neg hn] at he ⊢
      exact ih e he
theorem pk_fresh {q0 : Lv} {need : List Bool} {code : List Ins} {n : Nat} {L : Lv} {unt : List Int} {p0 : Pk} (h0 : LvOk q0 n code.length) (hL : L = lvAt q0 need code code.length) (hk0 : ∀ e ∈ p0.at_, e.1 < q0.unt.length) (i : Nat) (hi : i < code.length) (hn : need.getD i false = true) :
    lookI (L.sets.getD i 0) (pkAt L unt p0 need code i).at_ = none := lookI_none fun e he => by
  have h1 := pk_keys (unt := unt) h0 hL hk0 i (by omega) e he
  have h2 := (lv_at h0 (List.getElem?_eq_getElem hi) hn code.length hi (Nat.le_refl _)).2.2
  rw [← hL] at h2
  omega
end Go.Proofs.Sw
namespace Go.Proofs.Sw
set_option linter.unusedVariables false
set_option linter.unusedSimpArgs false
set_option linter.unusedSectionVars false
open Go.Ab
variable [Globals]
theorem untO_len (held : List Int) (N : Int) (rs unt : List Int) : (untO held N unt rs).length = unt.length := untO_length held N rs unt
/-- The values laid ahead of all instructions. -/
def pk0 (p : Pg) : Pk :=
  let g := p.ins.toNat
  let unt := untM p
  if 0 ≤ unt.getD g 0 then ⟨layP g ++ [(p.ins, (g : Int))], layF unt g ++ [decide (unt.getD g 0 < 0)], [], (g : Int) + 1⟩ else ⟨layP g, layF unt g, [], g⟩
def pkEnd (p : Pg) : Pk := pkAt (lvEnd p) (untM p) (pk0 p) (neededM p) p.code p.code.length
/-- A program whose registers are given anew. -/
def packM (p : Pg) : Pg := ⟨p.ins, (pkEnd p).regs, (pkEnd p).code, atL (pkEnd p).at_ (lOuts p)⟩
theorem Pack_bad (k : Nat) (p : Pg) (nl : Bool) (cap : Option Nat) (nl2 : Bool) (cap2 : Option Nat) (hk : p.outs.length + p.code.length + 110 ≤ k) (hr : rightM p = false) :
    ∃ G, evalT Try.prog (mkHints tab) (k+3) (.fn 44) [aP p nl cap nl2 cap2] [] = some (.tup [.agg [ii 0, ii 0, .c (.slice [] 0 true (some 0)), .c (.slice [] 0 true (some 0))], ii 80], G) := by
  obtain ⟨G, hc⟩ := lives_bad k p nl cap nl2 cap2 hk hr
  simp only [aP, ii] at hc
  rw [ev44]
  simp only [Try.f44, aP, ii, hc, EVb, EVc, Int.reduceEq, Int.reduceToNat, Int.reduceLE, Int.reduceLT, Int.reduceAdd, Int.reduceMul, Int.reduceSub, Int.reduceNeg, Nat.reduceAdd, Nat.reduceSub, Nat.reduceMul, Nat.reduceLT, Nat.reduceBEq, Nat.reduceEqDiff, Nat.reduceLeDiff, FACTS, TYPES]
  exact ⟨_, rfl⟩
end Go.Proofs.Sw
