/- A part of the proof: what functions of the program answer, of whatever arguments, reckoned with letters by the interpreter's equations. Its conditions stand in each theorem. -/
import Derived.Test.YtefdgfdahmaciaaS14D
namespace Go.Proofs.Sw
set_option linter.unusedVariables false
set_option linter.unusedSimpArgs false
set_option linter.unusedSectionVars false
open Go.Ab
variable [Globals]
/-- What registers hold ahead of a program. -/
def startM (ins : Int) (n : Nat) : List Int := (List.range n).map fun (r : Nat) => if ins < (r : Int) then ins else (r : Int)
theorem startM_length (ins : Int) (n : Nat) : (startM ins n).length = n := by simp [startM]
theorem startM_succ (ins : Int) (n : Nat) : startM ins (n + 1) = startM ins n ++ [if ins < (n : Int) then ins else (n : Int)] := by
  simp [startM, List.range_succ]
theorem bd97h (a b : Nat) (x : IV) : buildA Try.prog 97 [(1, .hmap a), (2, .hmap b), (3, .c x)] = some (.agg [.c (.slice [] 0 true (some 0)), .hmap a, .hmap b, .c x]) := by kernel_rfl
theorem loop_newTable (kf : Nat) (ins regs : Int) (x2 x3 : IV) (nx : Int) (n : Nat) (hn : n ≤ 1000000) (k : Nat) (l : Ass) (z : Option Out) (hz : loopR Try.prog tab kf none LB63_3 63 32 [1, 3, 13, 14] 5 k l ([lo 3 0 (encInts (startM ins 0)), .cells 25 [ii ins, ii regs, .c x2, .c x3], .map 95 [], .map 95 [], .cells 97 [lv 0 1 0, .hmap 2, .hmap 3, ii nx]]) = z) (hk : n < k) (a1 : asc l 1 = .ptr 1 0) (a3 : asc l 3 = .ptr 4 0) (a13 : asc l 13 = ii n) (a14 : asc l 14 = ii 0) :
    ∃ l', z = some (.exit 0 (fr 32 l') ([lo 3 n (encInts (startM ins n)), .cells 25 [ii ins, ii regs, .c x2, .c x3], .map 95 [], .map 95 [], .cells 97 [lv 0 1 n, .hmap 2, .hmap 3, ii nx]])) ∧ asc l' 1 = .ptr 1 0 ∧ asc l' 3 = .ptr 4 0 ∧ asc l' 13 = ii n ∧ asc l' 14 = ii n := by
  subst hz
  refine loop_nat n (fun k l H => loopR Try.prog tab kf none LB63_3 63 32 [1, 3, 13, 14] 5 k l H)
    (fun i l H => asc l 1 = .ptr 1 0 ∧ asc l 3 = .ptr 4 0 ∧ asc l 13 = ii n ∧ asc l 14 = ii i ∧ ∃ G, H = ([lo 3 i (encInts (startM ins i)), .cells 25 [ii ins, ii regs, .c x2, .c x3], .map 95 [], .map 95 [], .cells 97 [lv 0 1 i, .hmap 2, .hmap 3, ii nx]]) ++ G)
    (fun z => ∃ l', z = some (.exit 0 (fr 32 l') ([lo 3 n (encInts (startM ins n)), .cells 25 [ii ins, ii regs, .c x2, .c x3], .map 95 [], .map 95 [], .cells 97 [lv 0 1 n, .hmap 2, .hmap 3, ii nx]])) ∧ asc l' 1 = .ptr 1 0 ∧ asc l' 3 = .ptr 4 0 ∧ asc l' 13 = ii n ∧ asc l' 14 = ii n) ?_ n 0 k l _ (by omega) hk ⟨a1, a3, a13, a14, [], by rw [List.append_nil]⟩
  clear hk a1 a3 a13 a14
  rintro i k l H hi ⟨a1, a3, a13, a14, G, rfl⟩
  have ht : trim 5 (fr 32 (keep l [1, 3, 13, 14])) (([lo 3 i (encInts (startM ins i)), .cells 25 [ii ins, ii regs, .c x2, .c x3], .map 95 [], .map 95 [], .cells 97 [lv 0 1 i, .hmap 2, .hmap 3, ii nx]]) ++ G) = ([lo 3 i (encInts (startM ins i)), .cells 25 [ii ins, ii regs, .c x2, .c x3], .map 95 [], .map 95 [], .cells 97 [lv 0 1 i, .hmap 2, .hmap 3, ii nx]]) := trim_app (by simp) (by simp only [a1, a3, a13, a14, EVb, EVc, Int.reduceEq, Int.reduceToNat, Int.reduceLE, Int.reduceLT, Int.reduceAdd, Int.reduceMul, Int.reduceSub, Int.reduceNeg, Nat.reduceAdd, Nat.reduceSub, Nat.reduceMul, Nat.reduceLT, Nat.reduceBEq, Nat.reduceEqDiff, Nat.reduceLeDiff]) (by simp only [EVb, EVc, Int.reduceEq, Int.reduceToNat, Int.reduceLE, Int.reduceLT, Int.reduceAdd, Int.reduceMul, Int.reduceSub, Int.reduceNeg, Nat.reduceAdd, Nat.reduceSub, Nat.reduceMul, Nat.reduceLT, Nat.reduceBEq, Nat.reduceEqDiff, Nat.reduceLeDiff])
  by_cases hc : i < n
  · have hc' : (i : Int) < ((n : Nat) : Int) := by omega
    have hc0 : (0 : Int) ≤ i := by omega
    have hw : IntKind.wrap .i64 ((i : Int) + 1) = ((i + 1 : Nat) : Int) := by rw [wrap64 (by omega) (by omega)]; omega
    have hap := fun X x => lo_length (e := 3) (n := i) (sz := 1) (by_ := 8) (cells := encInts (startM ins i)) (cs := [x]) (X := X) (Nat.le_trans (Nat.mul_le_mul_right 8 (show i + 1 ≤ 1000001 by omega)) (by decide)) (by decide) (by rw [encInts_length, startM_length, Nat.mul_one])
    simp only [loopR_succ, ht]
    simp only [a1, a3, a13, a14, hc', hc0, hw, loopR_succ, loopOf, findLoop, firstRegion, Option.some_or, Option.none_or, Option.getD_some, Option.some.injEq, Try.f63, EVb, EVc, Int.reduceEq, Int.reduceToNat, Int.reduceLE, Int.reduceLT, Int.reduceAdd, Int.reduceMul, Int.reduceSub, Int.reduceNeg, Nat.reduceAdd, Nat.reduceSub, Nat.reduceMul, Nat.reduceLT, Nat.reduceBEq, Nat.reduceEqDiff, Nat.reduceLeDiff, FACTS, TYPES]
    rw [evalCode_drawn Try.f63 5 dr63_5]; rotate_left; rfl
    simp only [a1, a3, a13, a14, hc', hc0, hw, hap, EVd, Nat.reducePow, Nat.reduceDiv, Nat.reduceMod, EVb, EVc, Int.reduceEq, Int.reduceToNat, Int.reduceLE, Int.reduceLT, Int.reduceAdd, Int.reduceMul, Int.reduceSub, Int.reduceNeg, Nat.reduceAdd, Nat.reduceSub, Nat.reduceMul, Nat.reduceLT, Nat.reduceBEq, Nat.reduceEqDiff, Nat.reduceLeDiff, FACTS, TYPES]
    refine .inr ⟨_, _, hc, rfl, (by rfl), (by rfl), (by rfl), (by rfl), ?_⟩
    rw [startM_succ, encInts_append]
    exact ⟨_, by rfl⟩
  · refine .inl ?_
    obtain rfl : i = n := by omega
    have hc' : ¬ (((i : Nat) : Int) < ((i : Nat) : Int)) := by omega
    simp only [loopR_succ, ht]
    simp only [a1, a3, a13, a14, hc', loopR_succ, loopOf, findLoop, firstRegion, Option.some_or, Option.none_or, Option.getD_some, Option.some.injEq, Try.f63, EVb, EVc, Int.reduceEq, Int.reduceToNat, Int.reduceLE, Int.reduceLT, Int.reduceAdd, Int.reduceMul, Int.reduceSub, Int.reduceNeg, Nat.reduceAdd, Nat.reduceSub, Nat.reduceMul, Nat.reduceLT, Nat.reduceBEq, Nat.reduceEqDiff, Nat.reduceLeDiff, FACTS, TYPES]
    exact ⟨_, rfl, (by rfl), (by rfl), (by rfl), (by rfl)⟩

theorem newTable_ev (k : Nat) (ins : Int) (n : Nat) (x2 x3 : IV) (h1 : 0 < n) (hn : n ≤ 1000000) (hi0 : 0 ≤ ins) (hi1 : ins ≤ 1000000) (hk : n < k) :
    evalT Try.prog (mkHints tab) (k+1) (.fn 63) [.agg [ii ins, ii n, .c x2, .c x3]] [] = some (.ptr 4 0, [rI (startM ins n), .cells 25 [ii ins, ii n, .c x2, .c x3], .map 95 [], .map 95 [], .cells 97 [hI 0 (startM ins n).length, .hmap 2, .hmap 3, ii (ins + 1)]]) := by
  have hw : IntKind.wrap .i64 (ins + 1) = ins + 1 := wrap64 (by omega) (by omega)
  rw [ev63, startM_length]
  simp only [Try.f63, ii, hw, bd97h, EVb, EVc, Int.reduceEq, Int.reduceToNat, Int.reduceLE, Int.reduceLT, Int.reduceAdd, Int.reduceMul, Int.reduceSub, Int.reduceNeg, Nat.reduceAdd, Nat.reduceSub, Nat.reduceMul, Nat.reduceLT, Nat.reduceBEq, Nat.reduceEqDiff, Nat.reduceLeDiff, FACTS, TYPES]
  rw [evalCode_loopB LB63_3 lp63_3]; rotate_left; rfl; rfl; rfl
  generalize hz : loopR _ _ _ _ _ _ _ _ _ _ _ _ = z
  obtain ⟨l', rfl, e1, e3, e4, e5⟩ := loop_newTable k ins n x2 x3 (ins + 1) n hn _ _ z hz hk (by rfl) (by rfl) (by rfl) (by rfl)
  simp only [e3, lv_pos (s := 0) (sz := 1) h1, lo_pos (e := 3) h1, EVb, EVc, Int.reduceEq, Int.reduceToNat, Int.reduceLE, Int.reduceLT, Int.reduceAdd, Int.reduceMul, Int.reduceSub, Int.reduceNeg, Nat.reduceAdd, Nat.reduceSub, Nat.reduceMul, Nat.reduceLT, Nat.reduceBEq, Nat.reduceEqDiff, Nat.reduceLeDiff, FACTS, TYPES]
/-- The reference's state that is being made. -/
theorem loop_Begin (kf : Nat) (ins : Int) (x2 x3 : IV) (nx : Int) (n : Nat) (hn : n ≤ 1000000) (k : Nat) (l : Ass) (z : Option Out) (hz : loopR Try.prog tab kf none LB27_3 27 42 [1, 3, 4] 3 k l ([lo 3 0 (encInts (startM ins 0)), .cells 25 [ii ins, ii n, .c x2, .c x3], .cells 61 [lv 0 1 0, .c (.slice [] 0 true (some 0)), ii nx]]) = z) (hk : n < k) (a1 : asc l 1 = .ptr 1 0) (a3 : asc l 3 = .ptr 2 0) (a4 : asc l 4 = ii 0) :
    ∃ l', z = some (.exit 0 (fr 42 l') ([lo 3 n (encInts (startM ins n)), .cells 25 [ii ins, ii n, .c x2, .c x3], .cells 61 [lv 0 1 n, .c (.slice [] 0 true (some 0)), ii nx]])) ∧ asc l' 1 = .ptr 1 0 ∧ asc l' 3 = .ptr 2 0 ∧ asc l' 4 = ii n := by
  subst hz
  refine loop_nat n (fun k l H => loopR Try.prog tab kf none LB27_3 27 42 [1, 3, 4] 3 k l H)
    (fun i l H => asc l 1 = .ptr 1 0 ∧ asc l 3 = .ptr 2 0 ∧ asc l 4 = ii i ∧ ∃ G, H = ([lo 3 i (encInts (startM ins i)), .cells 25 [ii ins, ii n, .c x2, .c x3], .cells 61 [lv 0 1 i, .c (.slice [] 0 true (some 0)), ii nx]]) ++ G)
    (fun z => ∃ l', z = some (.exit 0 (fr 42 l') ([lo 3 n (encInts (startM ins n)), .cells 25 [ii ins, ii n, .c x2, .c x3], .cells 61 [lv 0 1 n, .c (.slice [] 0 true (some 0)), ii nx]])) ∧ asc l' 1 = .ptr 1 0 ∧ asc l' 3 = .ptr 2 0 ∧ asc l' 4 = ii n) ?_ n 0 k l _ (by omega) hk ⟨a1, a3, a4, [], by rw [List.append_nil]⟩
  clear hk a1 a3 a4
  rintro i k l H hi ⟨a1, a3, a4, G, rfl⟩
  have ht : trim 3 (fr 42 (keep l [1, 3, 4])) (([lo 3 i (encInts (startM ins i)), .cells 25 [ii ins, ii n, .c x2, .c x3], .cells 61 [lv 0 1 i, .c (.slice [] 0 true (some 0)), ii nx]]) ++ G) = ([lo 3 i (encInts (startM ins i)), .cells 25 [ii ins, ii n, .c x2, .c x3], .cells 61 [lv 0 1 i, .c (.slice [] 0 true (some 0)), ii nx]]) := trim_app (by simp) (by simp only [a1, a3, a4, EVb, EVc, Int.reduceEq, Int.reduceToNat, Int.reduceLE, Int.reduceLT, Int.reduceAdd, Int.reduceMul, Int.reduceSub, Int.reduceNeg, Nat.reduceAdd, Nat.reduceSub, Nat.reduceMul, Nat.reduceLT, Nat.reduceBEq, Nat.reduceEqDiff, Nat.reduceLeDiff]) (by simp only [EVb, EVc, Int.reduceEq, Int.reduceToNat, Int.reduceLE, Int.reduceLT, Int.reduceAdd, Int.reduceMul, Int.reduceSub, Int.reduceNeg, Nat.reduceAdd, Nat.reduceSub, Nat.reduceMul, Nat.reduceLT, Nat.reduceBEq, Nat.reduceEqDiff, Nat.reduceLeDiff])
  by_cases hc : i < n
  · have hc' : (i : Int) < ((n : Nat) : Int) := by omega
    have hc0 : (0 : Int) ≤ i := by omega
    have hw : IntKind.wrap .i64 ((i : Int) + 1) = ((i + 1 : Nat) : Int) := by rw [wrap64 (by omega) (by omega)]; omega
    have hap := fun X x => lo_length (e := 3) (n := i) (sz := 1) (by_ := 8) (cells := encInts (startM ins i)) (cs := [x]) (X := X) (Nat.le_trans (Nat.mul_le_mul_right 8 (show i + 1 ≤ 1000001 by omega)) (by decide)) (by decide) (by rw [encInts_length, startM_length, Nat.mul_one])
    by_cases hii : (i : Int) < ins
    · simp only [loopR_succ, ht]
      simp only [a1, a3, a4, hc', hc0, hw, hii, hap, loopR_succ, loopOf, findLoop, firstRegion, Option.some_or, Option.none_or, Option.getD_some, Option.some.injEq, Try.f27, EVb, EVc, Int.reduceEq, Int.reduceToNat, Int.reduceLE, Int.reduceLT, Int.reduceAdd, Int.reduceMul, Int.reduceSub, Int.reduceNeg, Nat.reduceAdd, Nat.reduceSub, Nat.reduceMul, Nat.reduceLT, Nat.reduceBEq, Nat.reduceEqDiff, Nat.reduceLeDiff, FACTS, TYPES]
      refine .inr ⟨_, _, hc, rfl, (by rfl), (by rfl), (by rfl), ?_⟩
      rw [startM_succ, encInts_append, if_neg (by omega)]
      exact ⟨_, by rfl⟩
    · simp only [loopR_succ, ht]
      simp only [a1, a3, a4, hc', hc0, hw, hii, hap, loopR_succ, loopOf, findLoop, firstRegion, Option.some_or, Option.none_or, Option.getD_some, Option.some.injEq, Try.f27, EVb, EVc, Int.reduceEq, Int.reduceToNat, Int.reduceLE, Int.reduceLT, Int.reduceAdd, Int.reduceMul, Int.reduceSub, Int.reduceNeg, Nat.reduceAdd, Nat.reduceSub, Nat.reduceMul, Nat.reduceLT, Nat.reduceBEq, Nat.reduceEqDiff, Nat.reduceLeDiff, FACTS, TYPES]
      rw [evalCode_drawn Try.f27 7 dr27_7]; rotate_left; rfl
      simp only [a1, a3, a4, hc', hc0, hw, hap, EVd, Nat.reducePow, Nat.reduceDiv, Nat.reduceMod, EVb, EVc, Int.reduceEq, Int.reduceToNat, Int.reduceLE, Int.reduceLT, Int.reduceAdd, Int.reduceMul, Int.reduceSub, Int.reduceNeg, Nat.reduceAdd, Nat.reduceSub, Nat.reduceMul, Nat.reduceLT, Nat.reduceBEq, Nat.reduceEqDiff, Nat.reduceLeDiff, FACTS, TYPES]
      refine .inr ⟨_, _, hc, rfl, (by rfl), (by rfl), (by rfl), ?_⟩
      rw [startM_succ, encInts_append, show (if ins < (i : Int) then ins else (i : Int)) = ins by split <;> omega]
      exact ⟨_, by rfl⟩
  · refine .inl ?_
    obtain rfl : i = n := by omega
    have hc' : ¬ (((i : Nat) : Int) < ((i : Nat) : Int)) := by omega
    simp only [loopR_succ, ht]
    simp only [a1, a3, a4, hc', loopR_succ, loopOf, findLoop, firstRegion, Option.some_or, Option.none_or, Option.getD_some, Option.some.injEq, Try.f27, EVb, EVc, Int.reduceEq, Int.reduceToNat, Int.reduceLE, Int.reduceLT, Int.reduceAdd, Int.reduceMul, Int.reduceSub, Int.reduceNeg, Nat.reduceAdd, Nat.reduceSub, Nat.reduceMul, Nat.reduceLT, Nat.reduceBEq, Nat.reduceEqDiff, Nat.reduceLeDiff, FACTS, TYPES]
    exact ⟨_, rfl, (by rfl), (by rfl), (by rfl)⟩

theorem Begin_ev (k : Nat) (ins : Int) (n : Nat) (x2 x3 : IV) (h1 : 0 < n) (hn : n ≤ 1000000) (hi0 : 0 ≤ ins) (hi1 : ins ≤ 1000000) (hk : n < k) :
    evalT Try.prog (mkHints tab) (k+1) (.fn 27) [.agg [ii ins, ii n, .c x2, .c x3]] [] = some (.ptr 2 0, [rI (startM ins n), .cells 25 [ii ins, ii n, .c x2, .c x3], .cells 61 [hI 0 (startM ins n).length, .c (.slice [] 0 true (some 0)), ii (ins + 1)]]) := by
  have hw : IntKind.wrap .i64 (ins + 1) = ins + 1 := wrap64 (by omega) (by omega)
  rw [ev27, startM_length]
  simp only [Try.f27, ii, hw, EVb, EVc, Int.reduceEq, Int.reduceToNat, Int.reduceLE, Int.reduceLT, Int.reduceAdd, Int.reduceMul, Int.reduceSub, Int.reduceNeg, Nat.reduceAdd, Nat.reduceSub, Nat.reduceMul, Nat.reduceLT, Nat.reduceBEq, Nat.reduceEqDiff, Nat.reduceLeDiff, FACTS, TYPES]
  rw [evalCode_loopB LB27_3 lp27_3]; rotate_left; rfl; rfl; rfl
  generalize hz : loopR _ _ _ _ _ _ _ _ _ _ _ _ = z
  obtain ⟨l', rfl, e1, e3, e4⟩ := loop_Begin k ins x2 x3 (ins + 1) n hn _ _ z hz hk (by rfl) (by rfl) (by rfl)
  simp only [e3, lv_pos (s := 0) (sz := 1) h1, lo_pos (e := 3) h1, EVb, EVc, Int.reduceEq, Int.reduceToNat, Int.reduceLE, Int.reduceLT, Int.reduceAdd, Int.reduceMul, Int.reduceSub, Int.reduceNeg, Nat.reduceAdd, Nat.reduceSub, Nat.reduceMul, Nat.reduceLT, Nat.reduceBEq, Nat.reduceEqDiff, Nat.reduceLeDiff, FACTS, TYPES]
end Go.Proofs.Sw
