/- A part of the proof: what functions of the program answer, of whatever arguments, reckoned with letters by the interpreter's equations. Its conditions stand in each theorem. -/
import Derived.Test.YtefdgfdahmaciaaWA
namespace Go.Proofs.Sw
set_option linter.unusedVariables false
set_option linter.unusedSimpArgs false
set_option linter.unusedSectionVars false
open Go.Ab
variable [Globals]
theorem oStart_ev (k : Nat) (ins : Int) (x1 x2 x3 : IV) (r : Int) : run (k+1) 112 [.agg [ii ins, .c x1, .c x2, .c x3], ii r] = some (ii (if ins < r then ins else r)) := by
  rw [run, ev112, ans_trim]
  simp only [Try.f112, ii, EVb, EVc, Int.reduceEq, Int.reduceToNat, Int.reduceLE, Int.reduceLT, Int.reduceAdd, Int.reduceMul, Int.reduceSub, Int.reduceNeg, Nat.reduceAdd, Nat.reduceSub, Nat.reduceMul, Nat.reduceLT, Nat.reduceBEq, Nat.reduceEqDiff, Nat.reduceLeDiff, FACTS, TYPES]
/-- The values of a program, on the way. -/
structure Lv where
  held : List Int
  a : List Int
  b : List Int
  sets : List Int
  unt : List Int
def lvB (held : List Int) (x : Ins) : Int := if x.op = 3 ∨ x.op = 4 then held.getD x.b.toNat 0 else held.getD x.a.toNat 0
def lvStep (q : Lv) (k : Nat) (x : Ins) : Lv :=
  ⟨q.held.set x.to.toNat q.unt.length, q.a.set k (q.held.getD x.a.toNat 0), q.b.set k (lvB q.held x), q.sets.set k q.unt.length, ((q.unt.set (q.held.getD x.a.toNat 0).toNat k).set (lvB q.held x).toNat k) ++ [-1]⟩
def lvAt (q0 : Lv) (need : List Bool) (code : List Ins) : Nat → Lv
  | 0 => q0
  | i + 1 => match code[i]? with
    | some x => if need.getD i false = true then lvStep (lvAt q0 need code i) i x else lvAt q0 need code i
    | none => lvAt q0 need code i
theorem lvAt_succ {q0 : Lv} {need : List Bool} {code : List Ins} {i : Nat} (h : i < code.length) : lvAt q0 need code (i + 1) = if need.getD i false = true then lvStep (lvAt q0 need code i) i code[i] else lvAt q0 need code i := by
  rw [lvAt, List.getElem?_eq_getElem h]
/-- All that is held is a value's number. -/
structure LvOk (q : Lv) (n c : Nat) : Prop where
  held : q.held.length = n
  a : q.a.length = c
  b : q.b.length = c
  sets : q.sets.length = c
  pos : 0 < q.unt.length
  vals : ∀ v ∈ q.held, 0 ≤ v ∧ v < q.unt.length
theorem getD_mem {l : List Int} {r : Nat} (h : r < l.length) : l.getD r 0 ∈ l := by
  rw [List.getD_eq_getElem?_getD, List.getElem?_eq_getElem h]
  exact List.getElem_mem h
theorem lvB_ok {q : Lv} {n c : Nat} (h : LvOk q n c) {x : Ins} (m5 : 0 ≤ x.a ∧ x.a < n) (m7 : x.op = 3 ∨ x.op = 4 → 0 ≤ x.b ∧ x.b < n) : 0 ≤ lvB q.held x ∧ lvB q.held x < q.unt.length := by
  unfold lvB
  split
  · rename_i h34
    have := m7 h34
    exact h.vals _ (getD_mem (by rw [h.held]; omega))
  · exact h.vals _ (getD_mem (by rw [h.held]; omega))
theorem lvStep_ok {q : Lv} {n c k : Nat} {x : Ins} (h : LvOk q n c) : LvOk (lvStep q k x) n c := by
  refine ⟨by simp [lvStep, h.held], by simp [lvStep, h.a], by simp [lvStep, h.b], by simp [lvStep, h.sets], by simp [lvStep], fun v hv => ?_⟩
  simp only [lvStep, List.length_append, List.length_set, List.length_cons, List.length_nil] at hv ⊢
  rcases List.mem_or_eq_of_mem_set hv with hv | rfl
  · have := h.vals v hv; omega
  · omega
theorem lvStep_unt {q : Lv} {k : Nat} {x : Ins} : (lvStep q k x).unt.length = q.unt.length + 1 := by simp [lvStep]
theorem lvAt_ok {q0 : Lv} {need : List Bool} {code : List Ins} {n c : Nat} (h : LvOk q0 n c) : ∀ i, LvOk (lvAt q0 need code i) n c ∧ (lvAt q0 need code i).unt.length ≤ q0.unt.length + i
  | 0 => ⟨h, Nat.le_refl _⟩
  | i + 1 => by
    obtain ⟨h1, h2⟩ := lvAt_ok (need := need) (code := code) h i
    rw [lvAt]
    split
    · split
      · exact ⟨lvStep_ok h1, by rw [lvStep_unt]; omega⟩
      · exact ⟨h1, by omega⟩
    · exact ⟨h1, by omega⟩
theorem startM_app {ins : Int} {n i : Nat} (h : i < n) : (startM ins i ++ List.replicate (n - i) 0).set i (if ins < (i : Int) then ins else (i : Int)) = startM ins (i + 1) ++ List.replicate (n - (i + 1)) 0 := by
  rw [List.set_append_right _ _ (by rw [startM_length]; exact Nat.le_refl _), startM_length, Nat.sub_self, startM_succ]
  obtain ⟨m, hm⟩ : ∃ m, n - i = m + 1 := ⟨n - i - 1, by omega⟩
  rw [hm, show n - (i + 1) = m by omega, List.replicate_succ, List.set_cons_zero, List.append_assoc]
  rfl
theorem encInts_rep (n : Nat) : (List.replicate n [IV.int .i64 0]).flatten = encInts (List.replicate n 0) := by
  induction n with
  | zero => rfl
  | succ n ih => rw [List.replicate_succ, List.flatten_cons, ih]; rfl
theorem loop_lives8 (kf : Nat) (ins : Int) (x1 x2 x3 : IV) (nd : List Bool) (c3 c4 c5 : List IV) (zz : List AV) (hz0 : (zz.all fun e => AV.under 8 e) = true) (cl : Int) (n : Nat) (hn : n ≤ 1000000) (k : Nat) (l : Ass) (z : Option Out) (hz : loopR Try.prog tab (kf + 1) none LB82_8 82 203 [1, 4, 6, 7, 8, 39, 40] 8 k l ([.slot, .slot, .row false 3 c3, .row false 3 c4, .row false 3 c5, .cells 25 [ii ins, .c x1, .c x2, .c x3], .cells 128 zz, rI (startM ins 0 ++ List.replicate (n - 0) 0)]) = z) (hk : n < k) (a1 : asc l 1 = .ptr 5 0) (a4 : asc l 4 = sB nd false none) (a6 : asc l 6 = ii cl) (a7 : asc l 7 = .ptr 6 0) (a8 : asc l 8 = hI 7 n) (a39 : asc l 39 = ii n) (a40 : asc l 40 = ii 0) :
    ∃ l', z = some (.exit 0 (fr 203 l') ([.slot, .slot, .row false 3 c3, .row false 3 c4, .row false 3 c5, .cells 25 [ii ins, .c x1, .c x2, .c x3], .cells 128 zz, rI (startM ins n ++ List.replicate (n - n) 0)])) ∧ asc l' 1 = .ptr 5 0 ∧ asc l' 4 = sB nd false none ∧ asc l' 6 = ii cl ∧ asc l' 7 = .ptr 6 0 ∧ asc l' 8 = hI 7 n ∧ asc l' 39 = ii n ∧ asc l' 40 = ii n := by
  subst hz
  refine loop_nat n (fun k l H => loopR Try.prog tab (kf + 1) none LB82_8 82 203 [1, 4, 6, 7, 8, 39, 40] 8 k l H)
    (fun i l H => asc l 1 = .ptr 5 0 ∧ asc l 4 = sB nd false none ∧ asc l 6 = ii cl ∧ asc l 7 = .ptr 6 0 ∧ asc l 8 = hI 7 n ∧ asc l 39 = ii n ∧ asc l 40 = ii i ∧ ∃ G, H = ([.slot, .slot, .row false 3 c3, .row false 3 c4, .row false 3 c5, .cells 25 [ii ins, .c x1, .c x2, .c x3], .cells 128 zz, rI (startM ins i ++ List.replicate (n - i) 0)]) ++ G)
    (fun z => ∃ l', z = some (.exit 0 (fr 203 l') ([.slot, .slot, .row false 3 c3, .row false 3 c4, .row false 3 c5, .cells 25 [ii ins, .c x1, .c x2, .c x3], .cells 128 zz, rI (startM ins n ++ List.replicate (n - n) 0)])) ∧ asc l' 1 = .ptr 5 0 ∧ asc l' 4 = sB nd false none ∧ asc l' 6 = ii cl ∧ asc l' 7 = .ptr 6 0 ∧ asc l' 8 = hI 7 n ∧ asc l' 39 = ii n ∧ asc l' 40 = ii n) ?_ n 0 k l _ (by omega) hk ⟨a1, a4, a6, a7, a8, a39, a40, [], by rw [List.append_nil]⟩
  clear hk a1 a4 a6 a7 a8 a39 a40
  rintro i k l H hi ⟨a1, a4, a6, a7, a8, a39, a40, G, rfl⟩
  have ht : trim 8 (fr 203 (keep l [1, 4, 6, 7, 8, 39, 40])) (([.slot, .slot, .row false 3 c3, .row false 3 c4, .row false 3 c5, .cells 25 [ii ins, .c x1, .c x2, .c x3], .cells 128 zz, rI (startM ins i ++ List.replicate (n - i) 0)]) ++ G) = ([.slot, .slot, .row false 3 c3, .row false 3 c4, .row false 3 c5, .cells 25 [ii ins, .c x1, .c x2, .c x3], .cells 128 zz, rI (startM ins i ++ List.replicate (n - i) 0)]) := trim_app (by simp) (by simp only [a1, a4, a6, a7, a8, a39, a40, hz0, EVb, EVc, Int.reduceEq, Int.reduceToNat, Int.reduceLE, Int.reduceLT, Int.reduceAdd, Int.reduceMul, Int.reduceSub, Int.reduceNeg, Nat.reduceAdd, Nat.reduceSub, Nat.reduceMul, Nat.reduceLT, Nat.reduceBEq, Nat.reduceEqDiff, Nat.reduceLeDiff]) (by simp only [hz0, EVb, EVc, Int.reduceEq, Int.reduceToNat, Int.reduceLE, Int.reduceLT, Int.reduceAdd, Int.reduceMul, Int.reduceSub, Int.reduceNeg, Nat.reduceAdd, Nat.reduceSub, Nat.reduceMul, Nat.reduceLT, Nat.reduceBEq, Nat.reduceEqDiff, Nat.reduceLeDiff])
  by_cases hc : i < n
  · have hc' : (i : Int) < ((n : Nat) : Int) := by omega
    have hc0 : (0 : Int) ≤ i := by omega
    have hw : IntKind.wrap .i64 ((i : Int) + 1) = ((i + 1 : Nat) : Int) := by rw [wrap64 (by omega) (by omega)]; omega
    have hS := oStart_ev kf ins x1 x2 x3 i
    simp only [run, ii] at hS
    have hel : (encInts (startM ins i ++ List.replicate (n - i) 0)).length = n := by rw [encInts_length, List.length_append, startM_length, List.length_replicate]; omega
    simp only [loopR_succ, ht]
    simp only [a1, a4, a6, a7, a8, a39, a40, hc', hc0, hw, hS, hel, loopR_succ, loopOf, findLoop, firstRegion, Option.some_or, Option.none_or, Option.getD_some, Option.some.injEq, Try.f82, EVb, EVc, Int.reduceEq, Int.reduceToNat, Int.reduceLE, Int.reduceLT, Int.reduceAdd, Int.reduceMul, Int.reduceSub, Int.reduceNeg, Nat.reduceAdd, Nat.reduceSub, Nat.reduceMul, Nat.reduceLT, Nat.reduceBEq, Nat.reduceEqDiff, Nat.reduceLeDiff, FACTS, TYPES]
    try simp only [a1, a4, a6, a7, a8, a39, a40, hc', hc0, hw, hS, hel, encInts_set, startM_app hc, if_pos hc, EVb, EVc, Int.reduceEq, Int.reduceToNat, Int.reduceLE, Int.reduceLT, Int.reduceAdd, Int.reduceMul, Int.reduceSub, Int.reduceNeg, Nat.reduceAdd, Nat.reduceSub, Nat.reduceMul, Nat.reduceLT, Nat.reduceBEq, Nat.reduceEqDiff, Nat.reduceLeDiff, FACTS, TYPES]
    refine .inr ⟨_, _, hc, rfl, (by rfl), (by rfl), (by rfl), (by rfl), (by rfl), (by rfl), (by rfl), ?_⟩
    exact ⟨_, by rfl⟩
  · refine .inl ?_
    obtain rfl : i = n := by omega
    have hc' : ¬ (((i : Nat) : Int) < ((i : Nat) : Int)) := by omega
    simp only [loopR_succ, ht]
    simp only [a1, a4, a6, a7, a8, a39, a40, hc', loopR_succ, loopOf, findLoop, firstRegion, Option.some_or, Option.none_or, Option.getD_some, Option.some.injEq, Try.f82, EVb, EVc, Int.reduceEq, Int.reduceToNat, Int.reduceLE, Int.reduceLT, Int.reduceAdd, Int.reduceMul, Int.reduceSub, Int.reduceNeg, Nat.reduceAdd, Nat.reduceSub, Nat.reduceMul, Nat.reduceLT, Nat.reduceBEq, Nat.reduceEqDiff, Nat.reduceLeDiff, FACTS, TYPES]
    exact ⟨_, rfl, (by rfl), (by rfl), (by rfl), (by rfl), (by rfl), (by rfl), (by rfl)⟩

theorem loop_lives13 (kf : Nat) (x0 x1 x2 x3 : IV) (nd : List Bool) (c3 c4 c5 hc7 : List IV) (y0 y1 y2 y3 y4 : IV) (cl : Int) (n c m : Nat) (hm : m ≤ 1000000) (k : Nat) (l : Ass) (z : Option Out) (hz : loopR Try.prog tab kf none LB82_13 82 203 [1, 4, 6, 7, 8, 52, 53] 8 k l ([lo 3 0 (encInts (List.replicate 0 (-1))), .slot, .row false 3 c3, .row false 3 c4, .row false 3 c5, .cells 25 [.c x0, .c x1, .c x2, .c x3], .cells 128 [.c y0, .c y1, .c y2, .c y3, .c y4, hI 2 c, hI 3 c, hI 4 c, .c (.slice [] 0 true (some 0)), lv 0 1 0], .row false 3 hc7]) = z) (hk : m < k) (a1 : asc l 1 = .ptr 5 0) (a4 : asc l 4 = sB nd false none) (a6 : asc l 6 = ii cl) (a7 : asc l 7 = .ptr 6 0) (a8 : asc l 8 = hI 7 n) (a52 : asc l 52 = ii m) (a53 : asc l 53 = ii 0) :
    ∃ l', z = some (.exit 2 (fr 203 l') ([lo 3 m (encInts (List.replicate m (-1))), .slot, .row false 3 c3, .row false 3 c4, .row false 3 c5, .cells 25 [.c x0, .c x1, .c x2, .c x3], .cells 128 [.c y0, .c y1, .c y2, .c y3, .c y4, hI 2 c, hI 3 c, hI 4 c, .c (.slice [] 0 true (some 0)), lv 0 1 m], .row false 3 hc7])) ∧ asc l' 1 = .ptr 5 0 ∧ asc l' 4 = sB nd false none ∧ asc l' 6 = ii cl ∧ asc l' 7 = .ptr 6 0 ∧ asc l' 8 = hI 7 n ∧ asc l' 52 = ii m ∧ asc l' 53 = ii m := by
  subst hz
  refine loop_nat m (fun k l H => loopR Try.prog tab kf none LB82_13 82 203 [1, 4, 6, 7, 8, 52, 53] 8 k l H)
    (fun i l H => asc l 1 = .ptr 5 0 ∧ asc l 4 = sB nd false none ∧ asc l 6 = ii cl ∧ asc l 7 = .ptr 6 0 ∧ asc l 8 = hI 7 n ∧ asc l 52 = ii m ∧ asc l 53 = ii i ∧ ∃ G, H = ([lo 3 i (encInts (List.replicate i (-1))), .slot, .row false 3 c3, .row false 3 c4, .row false 3 c5, .cells 25 [.c x0, .c x1, .c x2, .c x3], .cells 128 [.c y0, .c y1, .c y2, .c y3, .c y4, hI 2 c, hI 3 c, hI 4 c, .c (.slice [] 0 true (some 0)), lv 0 1 i], .row false 3 hc7]) ++ G)
    (fun z => ∃ l', z = some (.exit 2 (fr 203 l') ([lo 3 m (encInts (List.replicate m (-1))), .slot, .row false 3 c3, .row false 3 c4, .row false 3 c5, .cells 25 [.c x0, .c x1, .c x2, .c x3], .cells 128 [.c y0, .c y1, .c y2, .c y3, .c y4, hI 2 c, hI 3 c, hI 4 c, .c (.slice [] 0 true (some 0)), lv 0 1 m], .row false 3 hc7])) ∧ asc l' 1 = .ptr 5 0 ∧ asc l' 4 = sB nd false none ∧ asc l' 6 = ii cl ∧ asc l' 7 = .ptr 6 0 ∧ asc l' 8 = hI 7 n ∧ asc l' 52 = ii m ∧ asc l' 53 = ii m) ?_ m 0 k l _ (by omega) hk ⟨a1, a4, a6, a7, a8, a52, a53, [], by rw [List.append_nil]⟩
  clear hk a1 a4 a6 a7 a8 a52 a53
  rintro i k l H hi ⟨a1, a4, a6, a7, a8, a52, a53, G, rfl⟩
  have ht : trim 8 (fr 203 (keep l [1, 4, 6, 7, 8, 52, 53])) (([lo 3 i (encInts (List.replicate i (-1))), .slot, .row false 3 c3, .row false 3 c4, .row false 3 c5, .cells 25 [.c x0, .c x1, .c x2, .c x3], .cells 128 [.c y0, .c y1, .c y2, .c y3, .c y4, hI 2 c, hI 3 c, hI 4 c, .c (.slice [] 0 true (some 0)), lv 0 1 i], .row false 3 hc7]) ++ G) = ([lo 3 i (encInts (List.replicate i (-1))), .slot, .row false 3 c3, .row false 3 c4, .row false 3 c5, .cells 25 [.c x0, .c x1, .c x2, .c x3], .cells 128 [.c y0, .c y1, .c y2, .c y3, .c y4, hI 2 c, hI 3 c, hI 4 c, .c (.slice [] 0 true (some 0)), lv 0 1 i], .row false 3 hc7]) := trim_app (by simp) (by simp only [a1, a4, a6, a7, a8, a52, a53, EVb, EVc, Int.reduceEq, Int.reduceToNat, Int.reduceLE, Int.reduceLT, Int.reduceAdd, Int.reduceMul, Int.reduceSub, Int.reduceNeg, Nat.reduceAdd, Nat.reduceSub, Nat.reduceMul, Nat.reduceLT, Nat.reduceBEq, Nat.reduceEqDiff, Nat.reduceLeDiff]) (by simp only [EVb, EVc, Int.reduceEq, Int.reduceToNat, Int.reduceLE, Int.reduceLT, Int.reduceAdd, Int.reduceMul, Int.reduceSub, Int.reduceNeg, Nat.reduceAdd, Nat.reduceSub, Nat.reduceMul, Nat.reduceLT, Nat.reduceBEq, Nat.reduceEqDiff, Nat.reduceLeDiff])
  by_cases hc : i < m
  · have hc' : (i : Int) < ((m : Nat) : Int) := by omega
    have hc0 : (0 : Int) ≤ i := by omega
    have hw : IntKind.wrap .i64 ((i : Int) + 1) = ((i + 1 : Nat) : Int) := by rw [wrap64 (by omega) (by omega)]; omega
    have hap := fun X x => lo_length (e := 3) (n := i) (sz := 1) (by_ := 8) (cells := encInts (List.replicate i (-1))) (cs := [x]) (X := X) (Nat.le_trans (Nat.mul_le_mul_right 8 (show i + 1 ≤ 1000001 by omega)) (by decide)) (by decide) (by rw [encInts_length, List.length_replicate, Nat.mul_one])
    simp only [loopR_succ, ht]
    simp only [a1, a4, a6, a7, a8, a52, a53, hc', hc0, hw, hap, loopR_succ, loopOf, findLoop, firstRegion, Option.some_or, Option.none_or, Option.getD_some, Option.some.injEq, Try.f82, EVb, EVc, Int.reduceEq, Int.reduceToNat, Int.reduceLE, Int.reduceLT, Int.reduceAdd, Int.reduceMul, Int.reduceSub, Int.reduceNeg, Nat.reduceAdd, Nat.reduceSub, Nat.reduceMul, Nat.reduceLT, Nat.reduceBEq, Nat.reduceEqDiff, Nat.reduceLeDiff, FACTS, TYPES]
    refine .inr ⟨_, _, hc, rfl, (by rfl), (by rfl), (by rfl), (by rfl), (by rfl), (by rfl), (by rfl), ?_⟩
    rw [List.replicate_succ', encInts_append]
    exact ⟨_, by rfl⟩
  · refine .inl ?_
    obtain rfl : i = m := by omega
    have hc' : ¬ (((i : Nat) : Int) < ((i : Nat) : Int)) := by omega
    simp only [loopR_succ, ht]
    simp only [a1, a4, a6, a7, a8, a52, a53, hc', loopR_succ, loopOf, findLoop, firstRegion, Option.some_or, Option.none_or, Option.getD_some, Option.some.injEq, Try.f82, EVb, EVc, Int.reduceEq, Int.reduceToNat, Int.reduceLE, Int.reduceLT, Int.reduceAdd, Int.reduceMul, Int.reduceSub, Int.reduceNeg, Nat.reduceAdd, Nat.reduceSub, Nat.reduceMul, Nat.reduceLT, Nat.reduceBEq, Nat.reduceEqDiff, Nat.reduceLeDiff, FACTS, TYPES]
    exact ⟨_, rfl, (by rfl), (by rfl), (by rfl), (by rfl), (by rfl), (by rfl), (by rfl)⟩

end Go.Proofs.Sw
namespace Go.Proofs.Sw
set_option linter.unusedVariables false
set_option linter.unusedSimpArgs false
set_option linter.unusedSectionVars false
open Go.Ab
variable [Globals]
theorem encB_nat {l : List Bool} {i : Nat} (h : i < l.length) : (encB l)[i]? = some (.bool (l.getD i false)) := by
  simp [encB, h]
theorem encInts_same {l : List Int} {i : Nat} {v : Int} (h : i < l.length) : (encInts (l.set i v))[i]? = some (.int .i64 v) := by
  simp [encInts, h]
theorem apO_hI {l : List Int} {X : Heap} {cs : List IV} (h0 : 0 < l.length) (hb : l.length ≤ 1000000) :
    apO 3 1 8 (some 0) (hI 0 l.length) (rI l :: X) (some (cs, 1)) = some (hI 0 (l.length + 1), .row false 3 (encInts l ++ cs) :: X) := by
  have := lo_length (e := 3) (n := l.length) (sz := 1) (by_ := 8) (cells := encInts l) (cs := cs) (X := X) (Nat.le_trans (Nat.mul_le_mul_right 8 (show l.length + 1 ≤ 1000001 by omega)) (by decide)) (by decide) (by rw [encInts_length, Nat.mul_one])
  rw [lv_pos h0, lo_pos h0, lv_pos (by omega), lo_pos (by omega), Nat.mul_one, Nat.mul_one] at this
  exact this
set_option maxHeartbeats 8000000 in
theorem loop_lives17 (kf : Nat) (x0 x1 x2 x3 : IV) (y0 y1 y2 y3 y4 : IV) (n : Nat) (need : List Bool) (q0 : Lv) (code : List Ins) (hnd : need.length = code.length) (nl : Bool) (cap : Option Nat) (hq : LvOk q0 n code.length) (hu : q0.unt.length ≤ 1000) (hcode : ∀ i ∈ code, mayM i n = true) (hlen : code.length ≤ 20000) (k : Nat) (l : Ass) (z : Option Out) (hz : loopR Try.prog tab (kf + 1) none LB82_17 82 203 [1, 4, 6, 7, 8, 66, 67, 68] 8 k l ([rI (lvAt q0 need code 0).unt, .slot, rI (lvAt q0 need code 0).a, rI (lvAt q0 need code 0).b, rI (lvAt q0 need code 0).sets, .cells 25 [.c x0, .c x1, .c x2, .c x3], .cells 128 [.c y0, .c y1, .c y2, .c y3, .c y4, hI 2 code.length, hI 3 code.length, hI 4 code.length, .c (.slice [] 0 true (some 0)), hI 0 (lvAt q0 need code 0).unt.length], rI (lvAt q0 need code 0).held]) = z) (hk : code.length < k) (a1 : asc l 1 = .ptr 5 0) (a4 : asc l 4 = sB need false none) (a6 : asc l 6 = ii code.length) (a7 : asc l 7 = .ptr 6 0) (a8 : asc l 8 = hI 7 n) (a66 : asc l 66 = sC code nl cap) (a67 : asc l 67 = ii code.length) (a68 : asc l 68 = ii 0) :
    ∃ l', z = some (.exit 4 (fr 203 l') ([rI (lvAt q0 need code code.length).unt, .slot, rI (lvAt q0 need code code.length).a, rI (lvAt q0 need code code.length).b, rI (lvAt q0 need code code.length).sets, .cells 25 [.c x0, .c x1, .c x2, .c x3], .cells 128 [.c y0, .c y1, .c y2, .c y3, .c y4, hI 2 code.length, hI 3 code.length, hI 4 code.length, .c (.slice [] 0 true (some 0)), hI 0 (lvAt q0 need code code.length).unt.length], rI (lvAt q0 need code code.length).held])) ∧ asc l' 1 = .ptr 5 0 ∧ asc l' 4 = sB need false none ∧ asc l' 6 = ii code.length ∧ asc l' 7 = .ptr 6 0 ∧ asc l' 8 = hI 7 n ∧ asc l' 66 = sC code nl cap ∧ asc l' 67 = ii code.length ∧ asc l' 68 = ii code.length := by
  subst hz
  refine loop_nat code.length (fun k l H => loopR Try.prog tab (kf + 1) none LB82_17 82 203 [1, 4, 6, 7, 8, 66, 67, 68] 8 k l H)
    (fun i l H => asc l 1 = .ptr 5 0 ∧ asc l 4 = sB need false none ∧ asc l 6 = ii code.length ∧ asc l 7 = .ptr 6 0 ∧ asc l 8 = hI 7 n ∧ asc l 66 = sC code nl cap ∧ asc l 67 = ii code.length ∧ asc l 68 = ii i ∧ ∃ G, H = ([rI (lvAt q0 need code i).unt, .slot, rI (lvAt q0 need code i).a, rI (lvAt q0 need code i).b, rI (lvAt q0 need code i).sets, .cells 25 [.c x0, .c x1, .c x2, .c x3], .cells 128 [.c y0, .c y1, .c y2, .c y3, .c y4, hI 2 code.length, hI 3 code.length, hI 4 code.length, .c (.slice [] 0 true (some 0)), hI 0 (lvAt q0 need code i).unt.length], rI (lvAt q0 need code i).held]) ++ G)
    (fun z => ∃ l', z = some (.exit 4 (fr 203 l') ([rI (lvAt q0 need code code.length).unt, .slot, rI (lvAt q0 need code code.length).a, rI (lvAt q0 need code code.length).b, rI (lvAt q0 need code code.length).sets, .cells 25 [.c x0, .c x1, .c x2, .c x3], .cells 128 [.c y0, .c y1, .c y2, .c y3, .c y4, hI 2 code.length, hI 3 code.length, hI 4 code.length, .c (.slice [] 0 true (some 0)), hI 0 (lvAt q0 need code code.length).unt.length], rI (lvAt q0 need code code.length).held])) ∧ asc l' 1 = .ptr 5 0 ∧ asc l' 4 = sB need false none ∧ asc l' 6 = ii code.length ∧ asc l' 7 = .ptr 6 0 ∧ asc l' 8 = hI 7 n ∧ asc l' 66 = sC code nl cap ∧ asc l' 67 = ii code.length ∧ asc l' 68 = ii code.length) ?_ code.length 0 k l _ (by omega) hk ⟨a1, a4, a6, a7, a8, a66, a67, a68, [], by rw [List.append_nil]⟩
  clear hk a1 a4 a6 a7 a8 a66 a67 a68
  rintro i k l H hi ⟨a1, a4, a6, a7, a8, a66, a67, a68, G, rfl⟩
  have ht : trim 8 (fr 203 (keep l [1, 4, 6, 7, 8, 66, 67, 68])) (([rI (lvAt q0 need code i).unt, .slot, rI (lvAt q0 need code i).a, rI (lvAt q0 need code i).b, rI (lvAt q0 need code i).sets, .cells 25 [.c x0, .c x1, .c x2, .c x3], .cells 128 [.c y0, .c y1, .c y2, .c y3, .c y4, hI 2 code.length, hI 3 code.length, hI 4 code.length, .c (.slice [] 0 true (some 0)), hI 0 (lvAt q0 need code i).unt.length], rI (lvAt q0 need code i).held]) ++ G) = ([rI (lvAt q0 need code i).unt, .slot, rI (lvAt q0 need code i).a, rI (lvAt q0 need code i).b, rI (lvAt q0 need code i).sets, .cells 25 [.c x0, .c x1, .c x2, .c x3], .cells 128 [.c y0, .c y1, .c y2, .c y3, .c y4, hI 2 code.length, hI 3 code.length, hI 4 code.length, .c (.slice [] 0 true (some 0)), hI 0 (lvAt q0 need code i).unt.length], rI (lvAt q0 need code i).held]) := trim_app (by simp) (by simp only [a1, a4, a6, a7, a8, a66, a67, a68, EVb, EVc, Int.reduceEq, Int.reduceToNat, Int.reduceLE, Int.reduceLT, Int.reduceAdd, Int.reduceMul, Int.reduceSub, Int.reduceNeg, Nat.reduceAdd, Nat.reduceSub, Nat.reduceMul, Nat.reduceLT, Nat.reduceBEq, Nat.reduceEqDiff, Nat.reduceLeDiff]) (by simp only [EVb, EVc, Int.reduceEq, Int.reduceToNat, Int.reduceLE, Int.reduceLT, Int.reduceAdd, Int.reduceMul, Int.reduceSub, Int.reduceNeg, Nat.reduceAdd, Nat.reduceSub, Nat.reduceMul, Nat.reduceLT, Nat.reduceBEq, Nat.reduceEqDiff, Nat.reduceLeDiff])
  by_cases hc : i < code.length
  · have hc' : (i : Int) < ((code.length : Nat) : Int) := by omega
    have hc0 : (0 : Int) ≤ i := by omega
    have hw : IntKind.wrap .i64 ((i : Int) + 1) = ((i + 1 : Nat) : Int) := by rw [wrap64 (by omega) (by omega)]; omega
    have hx := encCode_get hc
    obtain ⟨x, hX⟩ : ∃ x, x = code[i] := ⟨_, rfl⟩
    have hm := mayM_facts (hcode x (by rw [hX]; exact List.getElem_mem hc))
    have hst : lvAt q0 need code (i + 1) = if need.getD i false = true then lvStep (lvAt q0 need code i) i x else lvAt q0 need code i := by rw [lvAt_succ hc, hX]
    rw [← hX] at hx
    obtain ⟨hok, hul2⟩ := lvAt_ok (need := need) (code := code) hq i
    obtain ⟨q, hQ⟩ : ∃ q, q = lvAt q0 need code i := ⟨_, rfl⟩
    rw [hst]
    rw [← hQ] at hok hul2 ht ⊢
    obtain ⟨⟨m1, m2⟩, ⟨m3, m4⟩, ⟨m5, m6⟩, m7⟩ := hm
    have hnb := encB_nat (l := need) (i := i) (by omega)
    have hnl : (encB need).length = code.length := by rw [encB_length, hnd]
    have hel : (encInts q.held).length = n := by rw [encInts_length, hok.held]
    have hal : q.a.length = code.length := hok.a
    have hbl : q.b.length = code.length := hok.b
    have hsl : q.sets.length = code.length := hok.sets
    have hhl : q.held.length = n := hok.held
    have hxa := encInts_getD m5 (show x.a < q.held.length by omega)
    obtain ⟨va, hva⟩ : ∃ va, va = q.held.getD x.a.toNat 0 := ⟨_, rfl⟩
    have hv := hok.vals va (by rw [hva]; exact getD_mem (by omega))
    obtain ⟨v0, v1⟩ := hv
    rw [← hva] at hxa
    have hv2 : va.toNat < q.unt.length := by omega
    have ht2 : x.to.toNat < n := by omega
    have hA := asks_ev (kf + 0) x.op x.to x.a x.b x.c
    simp only [run, aI, ii] at hA
    have g1 := encInts_same (l := q.a) (v := va) (show i < q.a.length by omega)
    have ic : (i : Int) < code.length := hc'
    cases hni : need.getD i false with
    | false =>
      rw [if_neg (by simp)]
      rw [hni] at hnb
      simp only [loopR_succ, ht]
      simp only [a1, a4, a6, a7, a8, a66, a67, a68, hc', hc0, hw, hx, hnb, hnl, hnd, loopR_succ, loopOf, findLoop, firstRegion, Option.some_or, Option.none_or, Option.getD_some, Option.some.injEq, Try.f82, EVb, EVc, Int.reduceEq, Int.reduceToNat, Int.reduceLE, Int.reduceLT, Int.reduceAdd, Int.reduceMul, Int.reduceSub, Int.reduceNeg, Nat.reduceAdd, Nat.reduceSub, Nat.reduceMul, Nat.reduceLT, Nat.reduceBEq, Nat.reduceEqDiff, Nat.reduceLeDiff, FACTS, TYPES]
      refine .inr ⟨_, _, hc, rfl, (by rfl), (by rfl), (by rfl), (by rfl), (by rfl), (by rfl), (by rfl), (by rfl), ?_⟩
      exact ⟨_, by rfl⟩
    | true =>
      rw [if_pos rfl]
      rw [hni] at hnb
      simp only [loopR_succ, ht]
      simp only [a1, a4, a6, a7, a8, a66, a67, a68, hc', hc0, hw, hx, hnb, hnl, hnd, loopR_succ, loopOf, findLoop, firstRegion, Option.some_or, Option.none_or, Option.getD_some, Option.some.injEq, Try.f82, EVb, EVc, Int.reduceEq, Int.reduceToNat, Int.reduceLE, Int.reduceLT, Int.reduceAdd, Int.reduceMul, Int.reduceSub, Int.reduceNeg, Nat.reduceAdd, Nat.reduceSub, Nat.reduceMul, Nat.reduceLT, Nat.reduceBEq, Nat.reduceEqDiff, Nat.reduceLeDiff, FACTS, TYPES]
      rw [evalCode_drawn Try.f82 20 dr82_20]; rotate_left; rfl
      simp only [a1, a4, a6, a7, a8, a66, a67, a68, hc', hc0, hw, hel, hxa, hx, m5, m6, hal, hbl, encInts_length, List.length_set, encInts_set, if_pos hc, EVd, Nat.reducePow, Nat.reduceDiv, Nat.reduceMod, EVb, EVc, Int.reduceEq, Int.reduceToNat, Int.reduceLE, Int.reduceLT, Int.reduceAdd, Int.reduceMul, Int.reduceSub, Int.reduceNeg, Nat.reduceAdd, Nat.reduceSub, Nat.reduceMul, Nat.reduceLT, Nat.reduceBEq, Nat.reduceEqDiff, Nat.reduceLeDiff, FACTS, TYPES]
      by_cases h34 : x.op = 3 ∨ x.op = 4
      · obtain ⟨b0, b1⟩ := m7 h34
        have hxb := encInts_getD b0 (show x.b < q.held.length by omega)
        have hl2 : (asks ⟨x.op, x.to, x.a, x.b, x.c⟩).length = 2 := by rw [asks_two h34]; rfl
        have h12 : (1 : Int) < ((2 : Nat) : Int) := by decide
        have hlb : lvB q.held x = q.held.getD x.b.toNat 0 := if_pos h34
        obtain ⟨w, hw'⟩ : ∃ w, w = q.held.getD x.b.toNat 0 := ⟨_, rfl⟩
        obtain ⟨w0, w1⟩ := hok.vals w (by rw [hw']; exact getD_mem (by omega))
        rw [← hw'] at hxb hlb
        have hw2 : w.toNat < q.unt.length := by omega
        have g2 := encInts_same (l := q.b) (v := w) (show i < q.b.length by omega)
        have hap := fun X cs => apO_hI (l := (q.unt.set va.toNat i).set w.toNat i) (cs := cs) (X := X) (by simp only [List.length_set]; exact hok.pos) (by simp only [List.length_set]; omega)
        simp only [List.length_set] at hap
        have hul := encInts_length q.unt
        try simp only [a1, a4, a6, a7, a8, a66, a67, a68, hc', hc0, hw, hA, hl2, h12, EVb, EVc, Int.reduceEq, Int.reduceToNat, Int.reduceLE, Int.reduceLT, Int.reduceAdd, Int.reduceMul, Int.reduceSub, Int.reduceNeg, Nat.reduceAdd, Nat.reduceSub, Nat.reduceMul, Nat.reduceLT, Nat.reduceBEq, Nat.reduceEqDiff, Nat.reduceLeDiff, FACTS, TYPES]
        rw [evalCode_drawn Try.f82 22 dr82_22]; rotate_left; rfl
        simp only [a1, a4, a6, a7, a8, a66, a67, a68, hc', hc0, hw, hel, hxb, b0, b1, hal, hbl, encInts_length, List.length_set, encInts_set, if_pos hc, List.set_set, EVd, Nat.reducePow, Nat.reduceDiv, Nat.reduceMod, EVb, EVc, Int.reduceEq, Int.reduceToNat, Int.reduceLE, Int.reduceLT, Int.reduceAdd, Int.reduceMul, Int.reduceSub, Int.reduceNeg, Nat.reduceAdd, Nat.reduceSub, Nat.reduceMul, Nat.reduceLT, Nat.reduceBEq, Nat.reduceEqDiff, Nat.reduceLeDiff, FACTS, TYPES]
        rw [evalCode_drawn Try.f82 23 dr82_23]; rotate_left; rfl
        simp only [a1, a4, a6, a7, a8, a66, a67, a68, hc', hc0, hw, hv2, hw2, g1, g2, hal, hbl, hel, hul, encInts_length, List.length_set, v0, v1, w0, w1, encInts_set, if_pos hc, EVd, Nat.reducePow, Nat.reduceDiv, Nat.reduceMod, EVb, EVc, Int.reduceEq, Int.reduceToNat, Int.reduceLE, Int.reduceLT, Int.reduceAdd, Int.reduceMul, Int.reduceSub, Int.reduceNeg, Nat.reduceAdd, Nat.reduceSub, Nat.reduceMul, Nat.reduceLT, Nat.reduceBEq, Nat.reduceEqDiff, Nat.reduceLeDiff, FACTS, TYPES]
        rw [evalCode_drawn Try.f82 24 dr82_24]; rotate_left; rfl
        simp only [a1, a4, a6, a7, a8, a66, a67, a68, hc', hc0, hw, ht2, hsl, hhl, hel, hul, encInts_length, List.length_set, m3, m4, ic, encInts_set, if_pos hc, EVd, Nat.reducePow, Nat.reduceDiv, Nat.reduceMod, EVb, EVc, Int.reduceEq, Int.reduceToNat, Int.reduceLE, Int.reduceLT, Int.reduceAdd, Int.reduceMul, Int.reduceSub, Int.reduceNeg, Nat.reduceAdd, Nat.reduceSub, Nat.reduceMul, Nat.reduceLT, Nat.reduceBEq, Nat.reduceEqDiff, Nat.reduceLeDiff, FACTS, TYPES]
        try simp only [a1, a4, a6, a7, a8, a66, a67, a68, hc', hc0, hw, hap, hul, EVb, EVc, Int.reduceEq, Int.reduceToNat, Int.reduceLE, Int.reduceLT, Int.reduceAdd, Int.reduceMul, Int.reduceSub, Int.reduceNeg, Nat.reduceAdd, Nat.reduceSub, Nat.reduceMul, Nat.reduceLT, Nat.reduceBEq, Nat.reduceEqDiff, Nat.reduceLeDiff, FACTS, TYPES]
        refine .inr ⟨_, _, hc, rfl, (by rfl), (by rfl), (by rfl), (by rfl), (by rfl), (by rfl), (by rfl), (by rfl), ?_⟩
        simp only [lvStep, rI, List.length_append, List.length_set, List.length_cons, List.length_nil, Nat.zero_add, encInts_append, hlb, ← hva]
        exact ⟨_, by rfl⟩
      · have hl1 : ¬ (1 : Int) < ((asks ⟨x.op, x.to, x.a, x.b, x.c⟩).length : Int) := by
          unfold asks
          rw [if_neg h34]
          split <;> simp
        have hlb : lvB q.held x = q.held.getD x.a.toNat 0 := if_neg h34
        rw [← hva] at hlb
        obtain ⟨w, hw'⟩ : ∃ w, w = va := ⟨_, rfl⟩
        have hw2 := hv2
        have w0 := v0
        have w1 := v1
        have g2 := encInts_same (l := q.b) (v := va) (show i < q.b.length by omega)
        have hap := fun X cs => apO_hI (l := (q.unt.set va.toNat i).set va.toNat i) (cs := cs) (X := X) (by simp only [List.length_set]; exact hok.pos) (by simp only [List.length_set]; omega)
        simp only [List.length_set] at hap
        have hul := encInts_length q.unt
        try simp only [a1, a4, a6, a7, a8, a66, a67, a68, hc', hc0, hw, hA, hl1, EVb, EVc, Int.reduceEq, Int.reduceToNat, Int.reduceLE, Int.reduceLT, Int.reduceAdd, Int.reduceMul, Int.reduceSub, Int.reduceNeg, Nat.reduceAdd, Nat.reduceSub, Nat.reduceMul, Nat.reduceLT, Nat.reduceBEq, Nat.reduceEqDiff, Nat.reduceLeDiff, FACTS, TYPES]
        rw [evalCode_drawn Try.f82 23 dr82_23]; rotate_left; rfl
        simp only [a1, a4, a6, a7, a8, a66, a67, a68, hc', hc0, hw, hv2, hw2, g1, g2, hal, hbl, hel, hul, encInts_length, List.length_set, v0, v1, w0, w1, encInts_set, if_pos hc, EVd, Nat.reducePow, Nat.reduceDiv, Nat.reduceMod, EVb, EVc, Int.reduceEq, Int.reduceToNat, Int.reduceLE, Int.reduceLT, Int.reduceAdd, Int.reduceMul, Int.reduceSub, Int.reduceNeg, Nat.reduceAdd, Nat.reduceSub, Nat.reduceMul, Nat.reduceLT, Nat.reduceBEq, Nat.reduceEqDiff, Nat.reduceLeDiff, FACTS, TYPES]
        rw [evalCode_drawn Try.f82 24 dr82_24]; rotate_left; rfl
        simp only [a1, a4, a6, a7, a8, a66, a67, a68, hc', hc0, hw, ht2, hsl, hhl, hel, hul, encInts_length, List.length_set, m3, m4, ic, encInts_set, if_pos hc, EVd, Nat.reducePow, Nat.reduceDiv, Nat.reduceMod, EVb, EVc, Int.reduceEq, Int.reduceToNat, Int.reduceLE, Int.reduceLT, Int.reduceAdd, Int.reduceMul, Int.reduceSub, Int.reduceNeg, Nat.reduceAdd, Nat.reduceSub, Nat.reduceMul, Nat.reduceLT, Nat.reduceBEq, Nat.reduceEqDiff, Nat.reduceLeDiff, FACTS, TYPES]
        try simp only [a1, a4, a6, a7, a8, a66, a67, a68, hc', hc0, hw, hap, hul, EVb, EVc, Int.reduceEq, Int.reduceToNat, Int.reduceLE, Int.reduceLT, Int.reduceAdd, Int.reduceMul, Int.reduceSub, Int.reduceNeg, Nat.reduceAdd, Nat.reduceSub, Nat.reduceMul, Nat.reduceLT, Nat.reduceBEq, Nat.reduceEqDiff, Nat.reduceLeDiff, FACTS, TYPES]
        refine .inr ⟨_, _, hc, rfl, (by rfl), (by rfl), (by rfl), (by rfl), (by rfl), (by rfl), (by rfl), (by rfl), ?_⟩
        simp only [lvStep, rI, List.length_append, List.length_set, List.length_cons, List.length_nil, Nat.zero_add, encInts_append, hlb, ← hva]
        exact ⟨_, by rfl⟩
  · refine .inl ?_
    obtain rfl : i = code.length := by omega
    have hc' : ¬ (((code.length : Nat) : Int) < ((code.length : Nat) : Int)) := by omega
    simp only [loopR_succ, ht]
    simp only [a1, a4, a6, a7, a8, a66, a67, a68, hc', loopR_succ, loopOf, findLoop, firstRegion, Option.some_or, Option.none_or, Option.getD_some, Option.some.injEq, Try.f82, EVb, EVc, Int.reduceEq, Int.reduceToNat, Int.reduceLE, Int.reduceLT, Int.reduceAdd, Int.reduceMul, Int.reduceSub, Int.reduceNeg, Nat.reduceAdd, Nat.reduceSub, Nat.reduceMul, Nat.reduceLT, Nat.reduceBEq, Nat.reduceEqDiff, Nat.reduceLeDiff, FACTS, TYPES]
    exact ⟨_, rfl, (by rfl), (by rfl), (by rfl), (by rfl), (by rfl), (by rfl), (by rfl), (by rfl)⟩

end Go.Proofs.Sw
namespace Go.Proofs.Sw
set_option linter.unusedVariables false
set_option linter.unusedSimpArgs false
set_option linter.unusedSectionVars false
open Go.Ab
variable [Globals]
/-- The values that the outs hold last for ever. -/
def untO (held : List Int) (N : Int) (unt : List Int) : List Int → List Int
  | [] => unt
  | r :: rs => untO held N (unt.set (held.getD r.toNat 0).toNat N) rs
theorem untO_length (held : List Int) (N : Int) : ∀ (rs unt : List Int), (untO held N unt rs).length = unt.length
  | [], _ => rfl
  | r :: rs, unt => by rw [untO, untO_length held N rs]; simp
theorem untO_snoc (held : List Int) (N : Int) (r : Int) : ∀ (rs unt : List Int), untO held N unt (rs ++ [r]) = (untO held N unt rs).set (held.getD r.toNat 0).toNat N
  | [], _ => rfl
  | x :: rs, unt => by rw [List.cons_append, untO, untO_snoc held N r rs]; rfl
def outsV (held outs : List Int) : List Int := outs.map fun r => held.getD r.toNat 0
theorem outsV_length (held outs : List Int) : (outsV held outs).length = outs.length := by simp [outsV]
theorem outsV_take {held outs : List Int} {i : Nat} (h : i < outs.length) : outsV held (outs.take (i + 1)) = outsV held (outs.take i) ++ [held.getD outs[i].toNat 0] := by
  rw [List.take_succ_eq_append_getElem h, outsV, outsV, List.map_append]; rfl
theorem loop_lives28 (kf : Nat) (x0 x1 x2 x3 : IV) (y0 y1 y2 y3 y4 : IV) (n c : Nat) (N : Int) (c3 c4 c5 : List IV) (q : Lv) (outs : List Int) (nl : Bool) (cap : Option Nat) (hq : LvOk q n c) (hr : ∀ r ∈ outs, 0 ≤ r ∧ r < (n : Int)) (hlen : outs.length ≤ 20000) (k : Nat) (l : Ass) (z : Option Out) (hz : loopR Try.prog tab kf none LB82_28 82 203 [6, 7, 8, 172, 173, 174] 8 k l ([rI (untO q.held N q.unt (outs.take 0)), lo 3 0 (encInts (outsV q.held (outs.take 0))), .row false 3 c3, .row false 3 c4, .row false 3 c5, .cells 25 [.c x0, .c x1, .c x2, .c x3], .cells 128 [.c y0, .c y1, .c y2, .c y3, .c y4, hI 2 c, hI 3 c, hI 4 c, lv 1 1 0, hI 0 q.unt.length], rI q.held]) = z) (hk : outs.length < k) (a6 : asc l 6 = ii N) (a7 : asc l 7 = .ptr 6 0) (a8 : asc l 8 = hI 7 n) (a172 : asc l 172 = sI outs nl cap) (a173 : asc l 173 = ii outs.length) (a174 : asc l 174 = ii 0) :
    ∃ l', z = some (.exit 6 (fr 203 l') ([rI (untO q.held N q.unt (outs.take outs.length)), lo 3 outs.length (encInts (outsV q.held (outs.take outs.length))), .row false 3 c3, .row false 3 c4, .row false 3 c5, .cells 25 [.c x0, .c x1, .c x2, .c x3], .cells 128 [.c y0, .c y1, .c y2, .c y3, .c y4, hI 2 c, hI 3 c, hI 4 c, lv 1 1 outs.length, hI 0 q.unt.length], rI q.held])) ∧ asc l' 6 = ii N ∧ asc l' 7 = .ptr 6 0 ∧ asc l' 8 = hI 7 n ∧ asc l' 172 = sI outs nl cap ∧ asc l' 173 = ii outs.length ∧ asc l' 174 = ii outs.length := by
  subst hz
  refine loop_nat outs.length (fun k l H => loopR Try.prog tab kf none LB82_28 82 203 [6, 7, 8, 172, 173, 174] 8 k l H)
    (fun i l H => asc l 6 = ii N ∧ asc l 7 = .ptr 6 0 ∧ asc l 8 = hI 7 n ∧ asc l 172 = sI outs nl cap ∧ asc l 173 = ii outs.length ∧ asc l 174 = ii i ∧ ∃ G, H = ([rI (untO q.held N q.unt (outs.take i)), lo 3 i (encInts (outsV q.held (outs.take i))), .row false 3 c3, .row false 3 c4, .row false 3 c5, .cells 25 [.c x0, .c x1, .c x2, .c x3], .cells 128 [.c y0, .c y1, .c y2, .c y3, .c y4, hI 2 c, hI 3 c, hI 4 c, lv 1 1 i, hI 0 q.unt.length], rI q.held]) ++ G)
    (fun z => ∃ l', z = some (.exit 6 (fr 203 l') ([rI (untO q.held N q.unt (outs.take outs.length)), lo 3 outs.length (encInts (outsV q.held (outs.take outs.length))), .row false 3 c3, .row false 3 c4, .row false 3 c5, .cells 25 [.c x0, .c x1, .c x2, .c x3], .cells 128 [.c y0, .c y1, .c y2, .c y3, .c y4, hI 2 c, hI 3 c, hI 4 c, lv 1 1 outs.length, hI 0 q.unt.length], rI q.held])) ∧ asc l' 6 = ii N ∧ asc l' 7 = .ptr 6 0 ∧ asc l' 8 = hI 7 n ∧ asc l' 172 = sI outs nl cap ∧ asc l' 173 = ii outs.length ∧ asc l' 174 = ii outs.length) ?_ outs.length 0 k l _ (by omega) hk ⟨a6, a7, a8, a172, a173, a174, [], by rw [List.append_nil]⟩
  clear hk a6 a7 a8 a172 a173 a174
  rintro i k l H hi ⟨a6, a7, a8, a172, a173, a174, G, rfl⟩
  have ht : trim 8 (fr 203 (keep l [6, 7, 8, 172, 173, 174])) (([rI (untO q.held N q.unt (outs.take i)), lo 3 i (encInts (outsV q.held (outs.take i))), .row false 3 c3, .row false 3 c4, .row false 3 c5, .cells 25 [.c x0, .c x1, .c x2, .c x3], .cells 128 [.c y0, .c y1, .c y2, .c y3, .c y4, hI 2 c, hI 3 c, hI 4 c, lv 1 1 i, hI 0 q.unt.length], rI q.held]) ++ G) = ([rI (untO q.held N q.unt (outs.take i)), lo 3 i (encInts (outsV q.held (outs.take i))), .row false 3 c3, .row false 3 c4, .row false 3 c5, .cells 25 [.c x0, .c x1, .c x2, .c x3], .cells 128 [.c y0, .c y1, .c y2, .c y3, .c y4, hI 2 c, hI 3 c, hI 4 c, lv 1 1 i, hI 0 q.unt.length], rI q.held]) := trim_app (by simp) (by simp only [a6, a7, a8, a172, a173, a174, EVb, EVc, Int.reduceEq, Int.reduceToNat, Int.reduceLE, Int.reduceLT, Int.reduceAdd, Int.reduceMul, Int.reduceSub, Int.reduceNeg, Nat.reduceAdd, Nat.reduceSub, Nat.reduceMul, Nat.reduceLT, Nat.reduceBEq, Nat.reduceEqDiff, Nat.reduceLeDiff]) (by simp only [EVb, EVc, Int.reduceEq, Int.reduceToNat, Int.reduceLE, Int.reduceLT, Int.reduceAdd, Int.reduceMul, Int.reduceSub, Int.reduceNeg, Nat.reduceAdd, Nat.reduceSub, Nat.reduceMul, Nat.reduceLT, Nat.reduceBEq, Nat.reduceEqDiff, Nat.reduceLeDiff])
  by_cases hc : i < outs.length
  · have hc' : (i : Int) < ((outs.length : Nat) : Int) := by omega
    have hc0 : (0 : Int) ≤ i := by omega
    have hw : IntKind.wrap .i64 ((i : Int) + 1) = ((i + 1 : Nat) : Int) := by rw [wrap64 (by omega) (by omega)]; omega
    have hx := encInts_get hc
    have hlen2 : (outsV q.held (outs.take i)).length = i := by rw [outsV_length, List.length_take]; omega
    have hap := fun x0 X cs => apO_lv (e := 3) (s := 1) (n := i) (m := 1) (sz := 1) (by_ := 8) (cells := encInts (outsV q.held (outs.take i))) (cs := cs) (H := x0 :: lo 3 i (encInts (outsV q.held (outs.take i))) :: X) (by decide) (Nat.le_trans (Nat.mul_le_mul_right 8 (show i + 1 ≤ 20001 by omega)) (by decide)) (by decide) rfl (by rw [encInts_length, hlen2, Nat.mul_one])
    obtain ⟨r, hR⟩ : ∃ r, r = outs[i] := ⟨_, rfl⟩
    obtain ⟨r0, r1⟩ := hr r (by rw [hR]; exact List.getElem_mem hc)
    have hnx := outsV_take (held := q.held) hc
    have hny : untO q.held N q.unt (outs.take (i + 1)) = (untO q.held N q.unt (outs.take i)).set (q.held.getD r.toNat 0).toNat N := by rw [List.take_succ_eq_append_getElem hc, untO_snoc, hR]
    rw [← hR] at hx hnx
    have hul := untO_length q.held N (outs.take i) q.unt
    obtain ⟨U, hU⟩ : ∃ U, U = untO q.held N q.unt (outs.take i) := ⟨_, rfl⟩
    rw [← hU] at hul hny ht ⊢
    have hel := encInts_length q.held
    have hhl := hq.held
    have heu := encInts_length U
    have hxr := encInts_getD r0 (show r < q.held.length by omega)
    obtain ⟨v, hv⟩ : ∃ v, v = q.held.getD r.toNat 0 := ⟨_, rfl⟩
    obtain ⟨v0, v1⟩ := hq.vals v (by rw [hv]; exact getD_mem (by omega))
    rw [← hv] at hxr hnx hny
    have hv2 : v.toNat < q.unt.length := by omega
    rw [hnx, hny]
    simp only [loopR_succ, ht]
    simp only [a6, a7, a8, a172, a173, a174, hc', hc0, hw, hx, loopR_succ, loopOf, findLoop, firstRegion, Option.some_or, Option.none_or, Option.getD_some, Option.some.injEq, Try.f82, EVb, EVc, Int.reduceEq, Int.reduceToNat, Int.reduceLE, Int.reduceLT, Int.reduceAdd, Int.reduceMul, Int.reduceSub, Int.reduceNeg, Nat.reduceAdd, Nat.reduceSub, Nat.reduceMul, Nat.reduceLT, Nat.reduceBEq, Nat.reduceEqDiff, Nat.reduceLeDiff, FACTS, TYPES]
    rw [evalCode_drawn Try.f82 30 dr82_30]; rotate_left; rfl
    simp only [a6, a7, a8, a172, a173, a174, hc', hc0, hw, hx, hxr, hel, hhl, r0, r1, hap, EVd, Nat.reducePow, Nat.reduceDiv, Nat.reduceMod, EVb, EVc, Int.reduceEq, Int.reduceToNat, Int.reduceLE, Int.reduceLT, Int.reduceAdd, Int.reduceMul, Int.reduceSub, Int.reduceNeg, Nat.reduceAdd, Nat.reduceSub, Nat.reduceMul, Nat.reduceLT, Nat.reduceBEq, Nat.reduceEqDiff, Nat.reduceLeDiff, FACTS, TYPES]
    rw [evalCode_drawn Try.f82 31 dr82_31]; rotate_left; rfl
    simp only [a6, a7, a8, a172, a173, a174, hc', hc0, hw, hx, hxr, hel, hhl, heu, hul, r0, r1, v0, v1, hv2, encInts_set, EVd, Nat.reducePow, Nat.reduceDiv, Nat.reduceMod, EVb, EVc, Int.reduceEq, Int.reduceToNat, Int.reduceLE, Int.reduceLT, Int.reduceAdd, Int.reduceMul, Int.reduceSub, Int.reduceNeg, Nat.reduceAdd, Nat.reduceSub, Nat.reduceMul, Nat.reduceLT, Nat.reduceBEq, Nat.reduceEqDiff, Nat.reduceLeDiff, FACTS, TYPES]
    refine .inr ⟨_, _, hc, rfl, (by rfl), (by rfl), (by rfl), (by rfl), (by rfl), (by rfl), ?_⟩
    simp only [rI, encInts_append]
    exact ⟨_, by rfl⟩
  · refine .inl ?_
    obtain rfl : i = outs.length := by omega
    have hc' : ¬ (((outs.length : Nat) : Int) < ((outs.length : Nat) : Int)) := by omega
    simp only [loopR_succ, ht]
    simp only [a6, a7, a8, a172, a173, a174, hc', loopR_succ, loopOf, findLoop, firstRegion, Option.some_or, Option.none_or, Option.getD_some, Option.some.injEq, Try.f82, EVb, EVc, Int.reduceEq, Int.reduceToNat, Int.reduceLE, Int.reduceLT, Int.reduceAdd, Int.reduceMul, Int.reduceSub, Int.reduceNeg, Nat.reduceAdd, Nat.reduceSub, Nat.reduceMul, Nat.reduceLT, Nat.reduceBEq, Nat.reduceEqDiff, Nat.reduceLeDiff, FACTS, TYPES]
    exact ⟨_, rfl, (by rfl), (by rfl), (by rfl), (by rfl), (by rfl), (by rfl)⟩

def lvStart (ins : Int) (n c : Nat) : Lv := ⟨startM ins n, List.replicate c 0, List.replicate c 0, List.replicate c 0, List.replicate (ins.toNat + 1) (-1)⟩
theorem lvStart_ok {ins : Int} {n c : Nat} (h : 0 ≤ ins) : LvOk (lvStart ins n c) n c := by
  refine ⟨startM_length _ _, by simp [lvStart], by simp [lvStart], by simp [lvStart], by simp [lvStart], fun v hv => ?_⟩
  simp only [lvStart, startM, List.mem_map, List.length_replicate] at hv ⊢
  obtain ⟨r, _, rfl⟩ := hv
  split <;> omega
def lvEnd (p : Pg) : Lv := lvAt (lvStart p.ins p.regs.toNat p.code.length) (neededM p) p.code p.code.length
def untM (p : Pg) : List Int := untO (lvEnd p).held p.code.length (lvEnd p).unt p.outs
def lOuts (p : Pg) : List Int := outsV (lvEnd p).held p.outs
theorem lives_bad (k : Nat) (p : Pg) (nl : Bool) (cap : Option Nat) (nl2 : Bool) (cap2 : Option Nat) (hk : p.outs.length + p.code.length + 110 ≤ k) (hr : rightM p = false) :
    ∃ G, evalT Try.prog (mkHints tab) (k+2) (.fn 82) [aP p nl cap nl2 cap2] [] = some (.tup [.c .nilp, ii 80], G) := by
  have hN := Needed_bad k p nl cap nl2 cap2 (by omega) hr
  simp only [run, aP, ii] at hN
  rw [ev82]
  simp only [Try.f82, aP, ii, hN, EVb, EVc, Int.reduceEq, Int.reduceToNat, Int.reduceLE, Int.reduceLT, Int.reduceAdd, Int.reduceMul, Int.reduceSub, Int.reduceNeg, Nat.reduceAdd, Nat.reduceSub, Nat.reduceMul, Nat.reduceLT, Nat.reduceBEq, Nat.reduceEqDiff, Nat.reduceLeDiff, FACTS, TYPES]
  exact ⟨_, rfl⟩
theorem needL_len2 (a : List Bool) (c : List Ins) : (needL a c).2.length = c.length := (needL_length a c).2
theorem bd128 (a b c d e : IV) (i1 n1 m1 s1 i2 n2 m2 s2 i3 n3 m3 s3 : Nat) : buildA Try.prog 128 [(0, .agg [.c a, .c b, .c c, .c d]), (1, .c e), (2, .hsl i1 0 n1 m1 s1), (3, .hsl i2 0 n2 m2 s2), (4, .hsl i3 0 n3 m3 s3)] = some (.agg [.c a, .c b, .c c, .c d, .c e, .hsl i1 0 n1 m1 s1, .hsl i2 0 n2 m2 s2, .hsl i3 0 n3 m3 s3, .c (.slice [] 0 true (some 0)), .c (.slice [] 0 true (some 0))]) := by kernel_rfl
theorem lives_ev (k : Nat) (ins : Int) (n : Nat) (code : List Ins) (outs : List Int) (nl : Bool) (cap : Option Nat) (nl2 : Bool) (cap2 : Option Nat) (hk : outs.length + code.length + 400 ≤ k) (hr : rightM ⟨ins, n, code, outs⟩ = true) :
    ∃ X, evalT Try.prog (mkHints tab) (k+2) (.fn 82) [aP ⟨ins, n, code, outs⟩ nl cap nl2 cap2] [] =
      some (.tup [.ptr 6 0, ii 0], [rI (untM ⟨ins, n, code, outs⟩), rI (lOuts ⟨ins, n, code, outs⟩), rI (lvEnd ⟨ins, n, code, outs⟩).a, rI (lvEnd ⟨ins, n, code, outs⟩).b, rI (lvEnd ⟨ins, n, code, outs⟩).sets, X,
        .cells 128 [ii ins, ii n, sC code nl cap, sI outs nl2 cap2, sB (neededM ⟨ins, n, code, outs⟩) false none, hI 2 code.length, hI 3 code.length, hI 4 code.length, hI 1 outs.length, hI 0 (lvEnd ⟨ins, n, code, outs⟩).unt.length], rI (lvEnd ⟨ins, n, code, outs⟩).held]) := by
  have hN := Needed_ev k n ins code outs nl cap nl2 cap2 (by omega) hr
  have hr' := hr
  simp only [rightM, headM, Bool.and_eq_true, decide_eq_true_eq] at hr'
  obtain ⟨⟨hh, ho⟩, hc⟩ := hr'
  have hout : ∀ r ∈ outs, 0 ≤ r ∧ r < (n : Int) := fun r h => by have := List.all_eq_true.1 ho r h; simpa using this
  have hcode : ∀ i ∈ code, mayM i n = true := fun i h => List.all_eq_true.1 hc i h
  have q1 : (0 : Int) ≤ n := by omega
  have q2 : n ≤ roomBytes := Nat.le_trans (show n ≤ 128 by omega) (by decide)
  have q3 : (0 : Int) ≤ code.length := by omega
  have q4 : code.length ≤ roomBytes := Nat.le_trans (show code.length ≤ 1000000 by omega) (by decide)
  have q5 : code.length * 8 ≤ roomBytes := Nat.le_trans (show code.length * 8 ≤ 1000000 by omega) (by decide)
  have q6 : n * 8 ≤ roomBytes := Nat.le_trans (show n * 8 ≤ 1000000 by omega) (by decide)
  obtain ⟨g, rfl⟩ : ∃ g : Nat, ins = g := ⟨ins.toNat, by omega⟩
  have hw : IntKind.wrap .i64 ((g : Int) + 1) = ((g + 1 : Nat) : Int) := by rw [wrap64 (by omega) (by omega)]; omega
  simp only [run, aP, ii, sB] at hN
  rw [ev82]
  simp only [Try.f82, aP, ii, hN, EVb, EVc, Int.reduceEq, Int.reduceToNat, Int.reduceLE, Int.reduceLT, Int.reduceAdd, Int.reduceMul, Int.reduceSub, Int.reduceNeg, Nat.reduceAdd, Nat.reduceSub, Nat.reduceMul, Nat.reduceLT, Nat.reduceBEq, Nat.reduceEqDiff, Nat.reduceLeDiff, FACTS, TYPES]
  rw [evalCode_drawn Try.f82 5 dr82_5]; rotate_left; rfl
  simp only [q1, q2, q3, q4, q5, q6, encInts_rep, bd128, EVd, Nat.reducePow, Nat.reduceDiv, Nat.reduceMod, EVb, EVc, Int.reduceEq, Int.reduceToNat, Int.reduceLE, Int.reduceLT, Int.reduceAdd, Int.reduceMul, Int.reduceSub, Int.reduceNeg, Nat.reduceAdd, Nat.reduceSub, Nat.reduceMul, Nat.reduceLT, Nat.reduceBEq, Nat.reduceEqDiff, Nat.reduceLeDiff, FACTS, TYPES]
  rw [evalCode_loopB LB82_8 lp82_8]; rotate_left; rfl; rfl; rfl
  generalize hz : loopR _ _ _ _ _ _ _ _ _ _ _ _ = z
  rw [show List.replicate n (0 : Int) = startM g 0 ++ List.replicate (n - 0) 0 from by simp [startM]] at hz
  obtain ⟨l1, rfl, e1, e4, e6, e7, e8, _, _⟩ := loop_lives8 k g _ _ _ (neededM ⟨(g : Int), n, code, outs⟩) _ _ _ _ (by simp only [EVb, EVc, Int.reduceEq, Int.reduceToNat, Int.reduceLE, Int.reduceLT, Int.reduceAdd, Int.reduceMul, Int.reduceSub, Int.reduceNeg, Nat.reduceAdd, Nat.reduceSub, Nat.reduceMul, Nat.reduceLT, Nat.reduceBEq, Nat.reduceEqDiff, Nat.reduceLeDiff, FACTS, TYPES]) _ n (by omega) _ _ z hz (by omega) (by rfl) (by rfl) (by rfl) (by rfl) (by rfl) (by rfl) (by rfl)
  clear hz
  simp only [e1, e4, e6, e7, e8, hw, EVb, EVc, Int.reduceEq, Int.reduceToNat, Int.reduceLE, Int.reduceLT, Int.reduceAdd, Int.reduceMul, Int.reduceSub, Int.reduceNeg, Nat.reduceAdd, Nat.reduceSub, Nat.reduceMul, Nat.reduceLT, Nat.reduceBEq, Nat.reduceEqDiff, Nat.reduceLeDiff, FACTS, TYPES]
  rw [evalCode_loopB LB82_13 lp82_13]; rotate_left; rfl; rfl; rfl
  generalize hz : loopR _ _ _ _ _ _ _ _ _ _ _ _ = z
  obtain ⟨l2, rfl, f1, f4, f6, f7, f8, _, _⟩ := loop_lives13 (k + 1) _ _ _ _ (neededM ⟨(g : Int), n, code, outs⟩) _ _ _ _ _ _ _ _ _ _ n code.length (g + 1) (by omega) _ _ z hz (by omega) e1 e4 e6 e7 e8 (by rfl) (by rfl)
  clear hz
  obtain ⟨q0, hq0⟩ : ∃ q0, q0 = lvStart g n code.length := ⟨_, rfl⟩
  have d1 : lo 3 (g + 1) (encInts (List.replicate (g + 1) (-1))) = rI q0.unt := by rw [lo_pos (by omega), hq0]; rfl
  have d2 : lv 0 1 (g + 1) = hI 0 q0.unt.length := by rw [lv_pos (by omega), hq0]; simp [lvStart]
  have d3 : List.replicate code.length 0 = q0.a := by rw [hq0]; rfl
  have d4 : q0.b = q0.a := by rw [hq0]; rfl
  have d5 : q0.sets = q0.a := by rw [hq0]; rfl
  have d6 : startM (g : Int) n ++ List.replicate (n - n) 0 = q0.held := by rw [hq0, Nat.sub_self]; simp [lvStart]
  simp only [f1, f4, f6, f7, f8, d1, d2, d3, d6, EVb, EVc, Int.reduceEq, Int.reduceToNat, Int.reduceLE, Int.reduceLT, Int.reduceAdd, Int.reduceMul, Int.reduceSub, Int.reduceNeg, Nat.reduceAdd, Nat.reduceSub, Nat.reduceMul, Nat.reduceLT, Nat.reduceBEq, Nat.reduceEqDiff, Nat.reduceLeDiff, FACTS, TYPES]
  rw [evalCode_loopB LB82_17 lp82_17]; rotate_left; rfl; rfl; rfl
  generalize hz : loopR _ _ _ _ _ _ _ _ _ _ _ _ = z
  have hok0 : LvOk q0 n code.length := by rw [hq0]; exact lvStart_ok (by omega)
  have hul0 : q0.unt.length ≤ 1000 := by rw [hq0]; simp [lvStart]; omega
  clear d1 d2 d3 d4 d5 d6
  subst hq0
  obtain ⟨l3, rfl, g1, g4, g6, g7, g8, _, _, _⟩ := loop_lives17 k _ _ _ _ _ _ _ _ _ n (neededM ⟨(g : Int), n, code, outs⟩) (lvStart g n code.length) code (needL_len2 _ _) nl cap hok0 hul0 hcode (by omega) _ _ z hz (by omega) f1 f4 f6 f7 f8 (by rfl) (by rfl) (by rfl)
  clear hz
  obtain ⟨q, hq⟩ : ∃ q, q = lvEnd ⟨(g : Int), n, code, outs⟩ := ⟨_, rfl⟩
  have hqe : lvAt (lvStart g n code.length) (neededM ⟨(g : Int), n, code, outs⟩) code code.length = q := by rw [hq]; rfl
  have hok : LvOk q n code.length := by rw [← hqe]; exact (lvAt_ok hok0 _).1
  simp only [hqe, g1, g6, g7, g8, EVb, EVc, Int.reduceEq, Int.reduceToNat, Int.reduceLE, Int.reduceLT, Int.reduceAdd, Int.reduceMul, Int.reduceSub, Int.reduceNeg, Nat.reduceAdd, Nat.reduceSub, Nat.reduceMul, Nat.reduceLT, Nat.reduceBEq, Nat.reduceEqDiff, Nat.reduceLeDiff, FACTS, TYPES]
  rw [evalCode_loopB LB82_28 lp82_28]; rotate_left; rfl; rfl; rfl
  generalize hz : loopR _ _ _ _ _ _ _ _ _ _ _ _ = z
  obtain ⟨l4, rfl, _, k7, _, _, _, _⟩ := loop_lives28 (k + 1) _ _ _ _ _ _ _ _ _ n code.length code.length _ _ _ q outs nl2 cap2 hok hout (by omega) _ _ z hz (by omega) g6 g7 g8 (by rfl) (by rfl) (by rfl)
  clear hz
  have hop : 0 < outs.length := by omega
  simp only [k7, List.take_length, lo_pos (e := 3) hop, lv_pos (s := 1) (sz := 1) hop, EVb, EVc, Int.reduceEq, Int.reduceToNat, Int.reduceLE, Int.reduceLT, Int.reduceAdd, Int.reduceMul, Int.reduceSub, Int.reduceNeg, Nat.reduceAdd, Nat.reduceSub, Nat.reduceMul, Nat.reduceLT, Nat.reduceBEq, Nat.reduceEqDiff, Nat.reduceLeDiff, FACTS, TYPES]
  simp only [untM, lOuts, ← hq]
  exact ⟨_, by rfl⟩
end Go.Proofs.Sw
namespace Go.Proofs.Sw
set_option linter.unusedVariables false
set_option linter.unusedSimpArgs false
set_option linter.unusedSectionVars false
open Go.Ab
variable [Globals]
/-- A map of numbers to numbers: its entries. -/
abbrev entsI (ps : List (Int × Int)) : List (AV × AV) := ps.map fun e => (ii e.1, ii e.2)
def lookI (k : Int) : List (Int × Int) → Option (Nat × Int)
  | [] => none
  | e :: es => if k = e.1 then some (0, e.2) else (lookI k es).map fun p => (p.1 + 1, p.2)
/-- The register of a value. -/
def atI (ps : List (Int × Int)) (v : Int) : Int := match lookI v ps with | some p => p.2 | none => 0
theorem keyEqI (a b : Int) : keyEqA Try.prog 3 (.c (.int .i64 a)) (.c (.int .i64 b)) = some (a == b) := by kernel_rfl
theorem keyOkI (a : Int) : keyOkA Try.prog 3 (.c (.int .i64 a)) = true := by kernel_rfl
theorem mapTI : mapT Try.prog 123 = some (3, 3) := by kernel_rfl
theorem zeroVI : zeroV Try.prog 3 = some (ii 0) := by kernel_rfl
theorem findA_I (k : Int) : ∀ es : List (Int × Int), findA Try.prog 3 (ii k) (entsI es) = some ((lookI k es).map fun p => (p.1, ii p.2))
  | [] => rfl
  | e :: es => by
    rw [entsI, List.map_cons, findA, keyEqI, Option.bind_some]
    by_cases h : k = e.1
    · simp [lookI, h]
    · rw [beq_false_of_ne h, if_neg (by simp), show (es.map fun e => (ii e.1, ii e.2)) = entsI es from rfl, findA_I k es, lookI, if_neg h]
      cases lookI k es <;> rfl
theorem ents_snocI (es : List (Int × Int)) (k v : Int) : entsI es ++ [(ii k, ii v)] = entsI (es ++ [(k, v)]) := by simp [entsI]
theorem upd_newI {H : Heap} {id : Nat} {es : List (Int × Int)} {k v : Int} (h : H[id]? = some (.map 123 (entsI es))) (hl : lookI k es = none) :
    mapUpdateA Try.prog H 123 (.hmap id) (ii k) (ii v) = some (H.set id (.map 123 (entsI (es ++ [(k, v)])))) := by
  unfold mapUpdateA
  rw [mapTI, Option.bind_some, if_pos (keyOkI _)]
  simp only [h, findA_I, hl, Option.map_none, Option.map_some, ents_snocI]
theorem look_valI {H : Heap} {id : Nat} {es : List (Int × Int)} {k : Int} (h : H[id]? = some (.map 123 (entsI es))) :
    lookupA Try.prog H 123 (.hmap id) (ii k) false = some (ii (atI es k)) := by
  unfold lookupA
  rw [mapTI, Option.bind_some, if_pos (keyOkI _)]
  simp only [h, Option.bind_some, findA_I, atI]
  cases lookI k es <;> simp [zeroVI]
theorem entry_newI {H : Heap} {id : Nat} {es : List (Int × Int)} {k : Int} (h : H[id]? = some (.map 123 (entsI es))) (hl : lookI k es = none) :
    mapEntryA Try.prog H 123 (.hmap id) (ii k) = some (.tup [ii 0, ii es.length], H.set id (.map 123 (entsI (es ++ [(k, 0)])))) := by
  unfold mapEntryA
  rw [mapTI, Option.bind_some, if_pos (keyOkI _)]
  simp only [h, findA_I, hl, Option.map_none, Option.bind_some, zeroVI, Option.map_some, ents_snocI, entsI, List.length_map]
theorem store_newI {H : Heap} {id : Nat} {es : List (Int × Int)} {k x : Int} (h : H[id]? = some (.map 123 (entsI (es ++ [(k, 0)])))) :
    entryStoreA H (.hmap id) (ii es.length) (ii x) = some (H.set id (.map 123 (entsI (es ++ [(k, x)])))) := by
  unfold entryStoreA
  simp only [h]
  rw [if_pos (by omega), Int.toNat_natCast]
  simp [entsI]
theorem entsI_under (m : Nat) (es : List (Int × Int)) : ((entsI es).all fun e => AV.under m e.1 && AV.under m e.2) = true := by
  induction es with
  | nil => rfl
  | cons e es ih => rw [entsI, List.map_cons, List.all_cons, ih]; rfl
theorem entsI_ids : ∀ es : List (Int × Int), entIds (entsI es) = []
  | [] => rfl
  | e :: es => by rw [entsI, List.map_cons, entIds, show es.map (fun e => (ii e.1, ii e.2)) = entsI es from rfl, entsI_ids es]; rfl
theorem entsI_ren (ρ : Nat → Option Nat) : ∀ es : List (Int × Int), renEs ρ (entsI es) = some (entsI es)
  | [] => rfl
  | e :: es => by rw [entsI, List.map_cons, renEs, show es.map (fun e => (ii e.1, ii e.2)) = entsI es from rfl, entsI_ren ρ es]; rfl
theorem encB_append (a b : List Bool) : encB (a ++ b) = encB a ++ encB b := by simp [encB]
theorem apO_lB {l : List Bool} {s : Nat} {H : Heap} {cs : List IV} (hH : H[s]? = some (lo 4 l.length (encB l))) (hb : l.length ≤ 1000000) :
    apO 4 1 1 (some s) (lv s 1 l.length) H (some (cs, 1)) = some (lv s 1 (l.length + 1), H.set s (lo 4 (l.length + 1) (encB l ++ cs))) :=
  apO_lv (by decide) (Nat.le_trans (Nat.mul_le_mul_right 1 (show l.length + 1 ≤ 1000001 by omega)) (by decide)) (by decide) hH (by rw [encB_length, Nat.mul_one])
theorem lay_evA (k : Nat) (ps : List (Int × Int)) (fl : List Bool) (v u : Int) (hf : fl = []) (hl : lookI v ps = none) (hn : fl.length ≤ 100000) :
    ∃ G, evalT Try.prog (mkHints tab) (k+1) (.fn 83) [.ptr 0 0, ii v, ii u] [.cells 125 [.hmap 1, lv 2 1 fl.length], .map 123 (entsI ps)] =
      some (.tup [], .cells 125 [.hmap 1, hI 2 (fl.length + 1)] :: .map 123 (entsI (ps ++ [(v, (fl.length : Int))])) :: rB (fl ++ [decide (u < 0)]) :: G) := by
  have hH : [.cells 125 [.hmap 1, lv 2 1 fl.length], .map 123 (entsI ps)] ++ [.slot] = [.cells 125 [.hmap 1, lv 2 1 fl.length], .map 123 (entsI ps), lo 4 fl.length (encB fl)] := by
    first
    | (subst hf; rfl)
    | (rw [lo_pos (List.length_pos_iff.2 hf)]; rfl)
  have hu := fun x0 X w => upd_newI (H := x0 :: .map 123 (entsI ps) :: X) (id := 1) (v := w) rfl hl
  have hap := fun x0 x1 X cs => apO_lB (l := fl) (s := 2) (H := x0 :: x1 :: lo 4 fl.length (encB fl) :: X) (cs := cs) rfl (by omega)
  rw [ev83, hH]
  simp only [Try.f83, ii, EVb, EVc, Int.reduceEq, Int.reduceToNat, Int.reduceLE, Int.reduceLT, Int.reduceAdd, Int.reduceMul, Int.reduceSub, Int.reduceNeg, Nat.reduceAdd, Nat.reduceSub, Nat.reduceMul, Nat.reduceLT, Nat.reduceBEq, Nat.reduceEqDiff, Nat.reduceLeDiff, FACTS, TYPES]
  rw [evalCode_drawn Try.f83 0 dr83_0]; rotate_left; rfl
  simp only [hu, hap, entsI_under, lv_pos (s := 2) (sz := 1) (Nat.succ_pos fl.length), lo_pos (e := 4) (Nat.succ_pos fl.length), EVd, Nat.reducePow, Nat.reduceDiv, Nat.reduceMod, EVb, EVc, Int.reduceEq, Int.reduceToNat, Int.reduceLE, Int.reduceLT, Int.reduceAdd, Int.reduceMul, Int.reduceSub, Int.reduceNeg, Nat.reduceAdd, Nat.reduceSub, Nat.reduceMul, Nat.reduceLT, Nat.reduceBEq, Nat.reduceEqDiff, Nat.reduceLeDiff, FACTS, TYPES]
  exact ⟨_, by simp only [rB, encB_append]; rfl⟩
theorem lay_evB (k : Nat) (ps : List (Int × Int)) (fl : List Bool) (v u : Int) (hf : fl ≠ []) (hl : lookI v ps = none) (hn : fl.length ≤ 100000) :
    ∃ G, evalT Try.prog (mkHints tab) (k+1) (.fn 83) [.ptr 0 0, ii v, ii u] [.cells 125 [.hmap 1, lv 2 1 fl.length], .map 123 (entsI ps), rB fl] =
      some (.tup [], .cells 125 [.hmap 1, hI 2 (fl.length + 1)] :: .map 123 (entsI (ps ++ [(v, (fl.length : Int))])) :: rB (fl ++ [decide (u < 0)]) :: G) := by
  have hH : [.cells 125 [.hmap 1, lv 2 1 fl.length], .map 123 (entsI ps), rB fl] ++ [.slot] = [.cells 125 [.hmap 1, lv 2 1 fl.length], .map 123 (entsI ps), lo 4 fl.length (encB fl), .slot] := by
    first
    | (subst hf; rfl)
    | (rw [lo_pos (List.length_pos_iff.2 hf)]; rfl)
  have hu := fun x0 X w => upd_newI (H := x0 :: .map 123 (entsI ps) :: X) (id := 1) (v := w) rfl hl
  have hap := fun x0 x1 X cs => apO_lB (l := fl) (s := 2) (H := x0 :: x1 :: lo 4 fl.length (encB fl) :: X) (cs := cs) rfl (by omega)
  rw [ev83, hH]
  simp only [Try.f83, ii, EVb, EVc, Int.reduceEq, Int.reduceToNat, Int.reduceLE, Int.reduceLT, Int.reduceAdd, Int.reduceMul, Int.reduceSub, Int.reduceNeg, Nat.reduceAdd, Nat.reduceSub, Nat.reduceMul, Nat.reduceLT, Nat.reduceBEq, Nat.reduceEqDiff, Nat.reduceLeDiff, FACTS, TYPES]
  rw [evalCode_drawn Try.f83 0 dr83_0]; rotate_left; rfl
  simp only [hu, hap, entsI_under, lv_pos (s := 2) (sz := 1) (Nat.succ_pos fl.length), lo_pos (e := 4) (Nat.succ_pos fl.length), EVd, Nat.reducePow, Nat.reduceDiv, Nat.reduceMod, EVb, EVc, Int.reduceEq, Int.reduceToNat, Int.reduceLE, Int.reduceLT, Int.reduceAdd, Int.reduceMul, Int.reduceSub, Int.reduceNeg, Nat.reduceAdd, Nat.reduceSub, Nat.reduceMul, Nat.reduceLT, Nat.reduceBEq, Nat.reduceEqDiff, Nat.reduceLeDiff, FACTS, TYPES]
  exact ⟨_, by simp only [rB, encB_append]; rfl⟩
end Go.Proofs.Sw
namespace Go.Proofs.Sw
set_option linter.unusedVariables false
set_option linter.unusedSimpArgs false
set_option linter.unusedSectionVars false
open Go.Ab
variable [Globals]
/-- The least free register. -/
def leastM (fl : List Bool) : Nat := fl.findIdx id
def giveF (fl : List Bool) : List Bool := if leastM fl < fl.length then fl.set (leastM fl) false else fl ++ [false]
theorem leastM_le (fl : List Bool) : leastM fl ≤ fl.length := List.findIdx_le_length
theorem loop_give (kf : Nat) (ps : List (Int × Int)) (fl : List Bool) (v : Int) (hl : lookI v ps = none) (hn : fl.length ≤ 100000) (k : Nat) (l : Ass) (z : Option Out) (hz : loopR Try.prog tab kf none LB84_2 84 60 [0, 1, 10, 11, 12] 3 k l ([.cells 125 [.hmap 1, hI 2 fl.length], .map 123 (entsI ps), rB fl]) = z) (hk : fl.length < k) (a0 : asc l 0 = .ptr 0 0) (a1 : asc l 1 = ii v) (a10 : asc l 10 = hI 2 fl.length) (a11 : asc l 11 = ii fl.length) (a12 : asc l 12 = ii 0) :
    ∃ l', (z = some (.exit 0 (fr 60 l') [.cells 125 [.hmap 1, hI 2 fl.length], .map 123 (entsI ps), rB fl]) ∧ asc l' 0 = .ptr 0 0 ∧ asc l' 1 = ii v ∧ fl.findIdx id = fl.length) ∨ (z = some (.ret (fr 60 l') [.cells 125 [.hmap 1, hI 2 fl.length], .map 123 (entsI (ps ++ [(v, (fl.findIdx id : Int))])), rB (fl.set (fl.findIdx id) false)]) ∧ asc l' 4 = ii (fl.findIdx id) ∧ fl.findIdx id < fl.length) := by
  subst hz
  refine loop_nat fl.length (fun k l H => loopR Try.prog tab kf none LB84_2 84 60 [0, 1, 10, 11, 12] 3 k l H)
    (fun i l H => asc l 0 = .ptr 0 0 ∧ asc l 1 = ii v ∧ asc l 10 = hI 2 fl.length ∧ asc l 11 = ii fl.length ∧ asc l 12 = ii i ∧ (fl.findIdx id = i + (fl.drop i).findIdx id) ∧ ∃ G, H = ([.cells 125 [.hmap 1, hI 2 fl.length], .map 123 (entsI ps), rB fl]) ++ G)
    (fun z => ∃ l', (z = some (.exit 0 (fr 60 l') [.cells 125 [.hmap 1, hI 2 fl.length], .map 123 (entsI ps), rB fl]) ∧ asc l' 0 = .ptr 0 0 ∧ asc l' 1 = ii v ∧ fl.findIdx id = fl.length) ∨ (z = some (.ret (fr 60 l') [.cells 125 [.hmap 1, hI 2 fl.length], .map 123 (entsI (ps ++ [(v, (fl.findIdx id : Int))])), rB (fl.set (fl.findIdx id) false)]) ∧ asc l' 4 = ii (fl.findIdx id) ∧ fl.findIdx id < fl.length)) ?_ fl.length 0 k l _ (by omega) hk ⟨a0, a1, a10, a11, a12, by simp, [], by rw [List.append_nil]⟩
  clear hk a0 a1 a10 a11 a12
  rintro i k l H hi ⟨a0, a1, a10, a11, a12, hp, G, rfl⟩
  have ht : trim 3 (fr 60 (keep l [0, 1, 10, 11, 12])) (([.cells 125 [.hmap 1, hI 2 fl.length], .map 123 (entsI ps), rB fl]) ++ G) = ([.cells 125 [.hmap 1, hI 2 fl.length], .map 123 (entsI ps), rB fl]) := trim_app (by simp) (by simp only [a0, a1, a10, a11, a12, entsI_under, EVb, EVc, Int.reduceEq, Int.reduceToNat, Int.reduceLE, Int.reduceLT, Int.reduceAdd, Int.reduceMul, Int.reduceSub, Int.reduceNeg, Nat.reduceAdd, Nat.reduceSub, Nat.reduceMul, Nat.reduceLT, Nat.reduceBEq, Nat.reduceEqDiff, Nat.reduceLeDiff]) (by simp only [entsI_under, EVb, EVc, Int.reduceEq, Int.reduceToNat, Int.reduceLE, Int.reduceLT, Int.reduceAdd, Int.reduceMul, Int.reduceSub, Int.reduceNeg, Nat.reduceAdd, Nat.reduceSub, Nat.reduceMul, Nat.reduceLT, Nat.reduceBEq, Nat.reduceEqDiff, Nat.reduceLeDiff])
  by_cases hc : i < fl.length
  · have hc' : (i : Int) < ((fl.length : Nat) : Int) := by omega
    have hc0 : (0 : Int) ≤ i := by omega
    have hw : IntKind.wrap .i64 ((i : Int) + 1) = ((i + 1 : Nat) : Int) := by rw [wrap64 (by omega) (by omega)]; omega
    have hx := encB_nat hc
    have hel := encB_length fl
    have hd := List.drop_eq_getElem_cons hc
    have hge : fl.getD i false = fl[i] := by rw [List.getD_eq_getElem?_getD, List.getElem?_eq_getElem hc]; rfl
    rw [hge] at hx
    obtain ⟨b, hb⟩ : ∃ b, b = fl[i] := ⟨_, rfl⟩
    rw [← hb] at hd hx
    rw [hd, List.findIdx_cons] at hp
    have he1 := fun x0 X => entry_newI (H := x0 :: .map 123 (entsI ps) :: X) (id := 1) rfl hl
    have he2 := fun x0 X w => store_newI (H := x0 :: .map 123 (entsI (ps ++ [(v, 0)])) :: X) (id := 1) (es := ps) (k := v) (x := w) rfl
    cases b with
    | true =>
      refine .inl ?_
      simp only [id_eq, cond_true, Nat.add_zero] at hp
      simp only [loopR_succ, ht]
      simp only [a0, a1, a10, a11, a12, hc', hc0, hw, hel, hx, loopR_succ, loopOf, findLoop, firstRegion, Option.some_or, Option.none_or, Option.getD_some, Option.some.injEq, Try.f84, EVb, EVc, Int.reduceEq, Int.reduceToNat, Int.reduceLE, Int.reduceLT, Int.reduceAdd, Int.reduceMul, Int.reduceSub, Int.reduceNeg, Nat.reduceAdd, Nat.reduceSub, Nat.reduceMul, Nat.reduceLT, Nat.reduceBEq, Nat.reduceEqDiff, Nat.reduceLeDiff, FACTS, TYPES]
      rw [evalCode_drawn Try.f84 5 dr84_5]; rotate_left; rfl
      simp only [a0, a1, a10, a11, a12, hc', hc0, hw, hel, hx, he1, he2, entsI_under, encB_set, if_pos hc, EVd, Nat.reducePow, Nat.reduceDiv, Nat.reduceMod, EVb, EVc, Int.reduceEq, Int.reduceToNat, Int.reduceLE, Int.reduceLT, Int.reduceAdd, Int.reduceMul, Int.reduceSub, Int.reduceNeg, Nat.reduceAdd, Nat.reduceSub, Nat.reduceMul, Nat.reduceLT, Nat.reduceBEq, Nat.reduceEqDiff, Nat.reduceLeDiff, FACTS, TYPES]
      rw [hp]
      exact ⟨_, .inr ⟨rfl, (by rfl), hc⟩⟩
    | false =>
      simp only [id_eq, cond_false] at hp
      have hp2 : fl.findIdx id = i + 1 + (fl.drop (i + 1)).findIdx id := by omega
      simp only [loopR_succ, ht]
      simp only [a0, a1, a10, a11, a12, hc', hc0, hw, hel, hx, loopR_succ, loopOf, findLoop, firstRegion, Option.some_or, Option.none_or, Option.getD_some, Option.some.injEq, Try.f84, EVb, EVc, Int.reduceEq, Int.reduceToNat, Int.reduceLE, Int.reduceLT, Int.reduceAdd, Int.reduceMul, Int.reduceSub, Int.reduceNeg, Nat.reduceAdd, Nat.reduceSub, Nat.reduceMul, Nat.reduceLT, Nat.reduceBEq, Nat.reduceEqDiff, Nat.reduceLeDiff, FACTS, TYPES]
      exact .inr ⟨_, _, hc, rfl, (by rfl), (by rfl), (by rfl), (by rfl), (by rfl), hp2, [], by rfl⟩
  · refine .inl ?_
    obtain rfl : i = fl.length := by omega
    have hc' : ¬ (((fl.length : Nat) : Int) < ((fl.length : Nat) : Int)) := by omega
    simp only [loopR_succ, ht]
    simp only [a0, a1, a10, a11, a12, hc', loopR_succ, loopOf, findLoop, firstRegion, Option.some_or, Option.none_or, Option.getD_some, Option.some.injEq, Try.f84, EVb, EVc, Int.reduceEq, Int.reduceToNat, Int.reduceLE, Int.reduceLT, Int.reduceAdd, Int.reduceMul, Int.reduceSub, Int.reduceNeg, Nat.reduceAdd, Nat.reduceSub, Nat.reduceMul, Nat.reduceLT, Nat.reduceBEq, Nat.reduceEqDiff, Nat.reduceLeDiff, FACTS, TYPES]
    rw [List.drop_length] at hp
    exact ⟨_, .inl ⟨rfl, (by rfl), (by rfl), by simpa using hp⟩⟩

theorem apO_hB {l : List Bool} {s : Nat} {sl : Option Nat} {H : Heap} {cs : List IV} (hH : H[s]? = some (rB l)) (hb : l.length ≤ 1000000) :
    apO 4 1 1 sl (hI s l.length) H (some (cs, 1)) = some (hI s (l.length + 1), H.set s (.row false 4 (encB l ++ cs))) := by
  have := apO_row (e := 4) (sz := 1) (by_ := 1) (m := 1) (sl := sl) (len := l.length) (cs := cs) (by decide) (Nat.le_trans (Nat.mul_le_mul_right 1 (show l.length + 1 ≤ 1000001 by omega)) (by decide)) (by decide) hH (by rw [encB_length, Nat.mul_one])
  rw [Nat.mul_one, Nat.mul_one] at this
  exact this
theorem give_ev (k : Nat) (ps : List (Int × Int)) (fl : List Bool) (v : Int) (hl : lookI v ps = none) (hn : fl.length ≤ 100000) (h0 : fl ≠ []) (hk : fl.length < k) :
    ∃ G, evalT Try.prog (mkHints tab) (k+1) (.fn 84) [.ptr 0 0, ii v] [.cells 125 [.hmap 1, hI 2 fl.length], .map 123 (entsI ps), rB fl] =
      some (ii (leastM fl), .cells 125 [.hmap 1, hI 2 (giveF fl).length] :: .map 123 (entsI (ps ++ [(v, (leastM fl : Int))])) :: rB (giveF fl) :: G) := by
  have hlp : 0 < fl.length := List.length_pos_iff.2 h0
  rw [ev84]
  simp only [Try.f84, ii, EVb, EVc, Int.reduceEq, Int.reduceToNat, Int.reduceLE, Int.reduceLT, Int.reduceAdd, Int.reduceMul, Int.reduceSub, Int.reduceNeg, Nat.reduceAdd, Nat.reduceSub, Nat.reduceMul, Nat.reduceLT, Nat.reduceBEq, Nat.reduceEqDiff, Nat.reduceLeDiff, FACTS, TYPES]
  rw [evalCode_loopB LB84_2 lp84_2]; rotate_left; rfl; rfl; rfl
  generalize hz : loopR _ _ _ _ _ _ _ _ _ _ _ _ = z
  obtain ⟨l', ⟨rfl, e0, e1, hx⟩ | ⟨rfl, e4, hx⟩⟩ := loop_give k ps fl v hl hn _ _ z hz hk (by rfl) (by rfl) (by rfl) (by rfl) (by rfl)
  · clear hz
    have hu := fun x0 X w => upd_newI (H := x0 :: .map 123 (entsI ps) :: X) (id := 1) (v := w) rfl hl
    have hap := fun x0 x1 X cs => apO_hB (l := fl) (s := 2) (sl := none) (H := x0 :: x1 :: rB fl :: X) (cs := cs) rfl (by omega)
    have hw : IntKind.wrap .i64 (((fl.length + 1 : Nat) : Int) - 1) = fl.length := by rw [wrap64 (by omega) (by omega)]; omega
    have hlm : leastM fl = fl.length := hx
    have hgf : giveF fl = fl ++ [false] := by unfold giveF; rw [if_neg (by omega)]
    simp only [e0, e1, EVb, EVc, Int.reduceEq, Int.reduceToNat, Int.reduceLE, Int.reduceLT, Int.reduceAdd, Int.reduceMul, Int.reduceSub, Int.reduceNeg, Nat.reduceAdd, Nat.reduceSub, Nat.reduceMul, Nat.reduceLT, Nat.reduceBEq, Nat.reduceEqDiff, Nat.reduceLeDiff, FACTS, TYPES]
    rw [evalCode_drawn Try.f84 8 dr84_8]; rotate_left; rfl
    simp only [e0, e1, hu, hap, hw, entsI_under, EVd, Nat.reducePow, Nat.reduceDiv, Nat.reduceMod, EVb, EVc, Int.reduceEq, Int.reduceToNat, Int.reduceLE, Int.reduceLT, Int.reduceAdd, Int.reduceMul, Int.reduceSub, Int.reduceNeg, Nat.reduceAdd, Nat.reduceSub, Nat.reduceMul, Nat.reduceLT, Nat.reduceBEq, Nat.reduceEqDiff, Nat.reduceLeDiff, FACTS, TYPES]
    rw [hlm, hgf]
    simp only [List.length_append, List.length_cons, List.length_nil, Nat.zero_add]
    exact ⟨_, by simp only [rB, encB_append]; rfl⟩
  · clear hz
    have hlm : fl.findIdx id = leastM fl := rfl
    have hgf : giveF fl = fl.set (leastM fl) false := by unfold giveF; exact if_pos hx
    rw [hlm] at e4
    simp only [e4, hlm, entsI_under, EVb, EVc, Int.reduceEq, Int.reduceToNat, Int.reduceLE, Int.reduceLT, Int.reduceAdd, Int.reduceMul, Int.reduceSub, Int.reduceNeg, Nat.reduceAdd, Nat.reduceSub, Nat.reduceMul, Nat.reduceLT, Nat.reduceBEq, Nat.reduceEqDiff, Nat.reduceLeDiff, FACTS, TYPES]
    rw [hgf]
    simp only [List.length_set]
    exact ⟨[], rfl⟩
end Go.Proofs.Sw
