/- A part of the proof: what functions of the program answer, of whatever arguments, reckoned with letters by the interpreter's equations. Its conditions stand in each theorem. -/
import Derived.Test.YtefdgfdahmaciaaWC
namespace Go.Proofs.Sw
set_option linter.unusedVariables false
set_option linter.unusedSimpArgs false
set_option linter.unusedSectionVars false
open Go.Ab
variable [Globals]
/-- Marking what is asked, in a row at place 1. -/
theorem loop_Needed_6 (kf : Nat) (pc r1 c1 : AObj) (n : Nat) (outs : List Int) (nl : Bool) (cap : Option Nat) (hlen : outs.length ≤ 4611686018427387904) (hr : ∀ r ∈ outs, 0 ≤ r ∧ r < n) (as0 : List Bool) (ha0 : as0.length = n)
    (k : Nat) (l : Ass) (H : Heap) (z : Option Out) (hz : loopR Try.prog tab kf none LB46_6 46 62 [1, 4, 5, 23, 24, 25] 5 k l H = z) (hk : outs.length < k)
    (h1 : asc l 1 = .ptr 0 0) (h4 : asc l 4 = .ptr 2 0) (h5 : asc l 5 = .ptr 4 0) (h23 : asc l 23 = sI outs nl cap) (h24 : asc l 24 = ii outs.length) (h25 : asc l 25 = ii (0 : Nat)) (hH : H = [pc, r1, c1, rB as0, .cells 64 [.hsl 3 0 n n 1]]) :
    z = some (.exit 0 (fr 62 [(26, bb false), (1, .ptr 0 0), (4, .ptr 2 0), (5, .ptr 4 0), (23, sI outs nl cap), (24, ii outs.length), (25, ii outs.length)]) [pc, r1, c1, rB (mark as0 true outs), .cells 64 [.hsl 3 0 n n 1]]) := by
  subst hH
  subst hz
  refine loop_nat outs.length (fun k l H => loopR Try.prog tab kf none LB46_6 46 62 [1, 4, 5, 23, 24, 25] 5 k l H)
    (fun i l H => asc l 1 = .ptr 0 0 ∧ asc l 4 = .ptr 2 0 ∧ asc l 5 = .ptr 4 0 ∧ asc l 23 = sI outs nl cap ∧ asc l 24 = ii outs.length ∧ asc l 25 = ii i ∧ H = [pc, r1, c1, rB (mark as0 true (outs.take i)), .cells 64 [.hsl 3 0 n n 1]])
    (fun z => z = some (.exit 0 (fr 62 [(26, bb false), (1, .ptr 0 0), (4, .ptr 2 0), (5, .ptr 4 0), (23, sI outs nl cap), (24, ii outs.length), (25, ii outs.length)]) [pc, r1, c1, rB (mark as0 true outs), .cells 64 [.hsl 3 0 n n 1]])) ?_ outs.length 0 k l _ (by omega) hk ⟨h1, h4, h5, h23, h24, h25, rfl⟩
  clear h1 h4 h5 h23 h24 h25 hk
  rintro i k l H hi ⟨h1, h4, h5, h23, h24, h25, rfl⟩
  have ht : ∀ q : List Bool, trim 5 (fr 62 (keep l [1, 4, 5, 23, 24, 25])) [pc, r1, c1, rB q, .cells 64 [.hsl 3 0 n n 1]] = [pc, r1, c1, rB q, .cells 64 [.hsl 3 0 n n 1]] := fun q => trim_same rfl
  by_cases hc : i < outs.length
  · refine .inr ?_
    have hc' : ((i : Int) < outs.length) := by omega
    have hc0 : (0 : Int) ≤ i := by omega
    have hx := encInts_get hc
    have hw := wrap_succ hc hlen
    obtain ⟨x, hX⟩ : ∃ x, x = outs[i] := ⟨_, rfl⟩
    rw [← hX] at hx
    obtain ⟨x0, x1⟩ := hr x (by rw [hX]; exact List.getElem_mem hc)
    have hm : (mark as0 true (outs.take i)).length = n := by rw [mark_length]; exact ha0
    have hnx : mark as0 true (outs.take (i + 1)) = (mark as0 true (outs.take i)).set x.toNat true := by rw [List.take_succ_eq_append_getElem hc, mark_snoc, ← hX]
    have hxl : x.toNat < n := by omega
    have hel : (encB (mark as0 true (outs.take i))).length = n := by rw [encB_length, hm]
    simp only [loopR_succ, ht]
    simp only [h1, h4, h5, h23, h24, h25, hc', hc0, hx, hw, x0, x1, hel, hxl, encB_set, loopR_succ, loopOf, findLoop, firstRegion, Option.some_or, Option.none_or, Option.getD_some, Option.some.injEq, Try.f46, EVb, EVc, Int.reduceEq, Int.reduceToNat, Int.reduceLE, Int.reduceLT, Int.reduceAdd, Int.reduceMul, Int.reduceSub, Int.reduceNeg, Nat.reduceAdd, Nat.reduceSub, Nat.reduceMul, Nat.reduceLT, Nat.reduceBEq, Nat.reduceEqDiff, Nat.reduceLeDiff, FACTS, TYPES]
    exact ⟨_, _, hc, rfl, (by rfl), (by rfl), (by rfl), (by rfl), (by rfl), (by rfl), by rw [hnx]⟩
  · refine .inl ?_
    have hc' : ¬ ((i : Int) < outs.length) := by omega
    have he : outs.take i = outs := List.take_of_length_le (by omega)
    obtain rfl : i = outs.length := by omega
    simp only [loopR_succ, ht]
    simp only [h1, h4, h5, h23, h24, h25, hc', he, loopR_succ, loopOf, findLoop, firstRegion, Option.some_or, Option.none_or, Option.getD_some, Option.some.injEq, Try.f46, EVb, EVc, Int.reduceEq, Int.reduceToNat, Int.reduceLE, Int.reduceLT, Int.reduceAdd, Int.reduceMul, Int.reduceSub, Int.reduceNeg, Nat.reduceAdd, Nat.reduceSub, Nat.reduceMul, Nat.reduceLT, Nat.reduceBEq, Nat.reduceEqDiff, Nat.reduceLeDiff, FACTS, TYPES]
/-- The same behind an instruction. -/
theorem loop_Needed_16 (kf : Nat) (ar : Option Nat) (pc r1 c1 : AObj) (X : Heap) (n : Nat) (rs : List Int) (nl : Bool) (cap : Option Nat) (hlen : rs.length ≤ 4611686018427387904) (hr : ∀ r ∈ rs, 0 ≤ r ∧ r < n) (as0 : List Bool) (ha0 : as0.length = n)
    (k : Nat) (l : Ass) (m : Nat) (z : Option Out) (hz : loopR Try.prog tab kf ar LB46_16 46 62 [5, 51, 52, 53] m k l (pc :: r1 :: c1 :: rB as0 :: .cells 64 [.hsl 3 0 n n 1] :: X) = z) (hm : X.length + 5 = m) (hk : rs.length < k)
    (h5 : asc l 5 = .ptr 4 0) (h51 : asc l 51 = sI rs nl cap) (h52 : asc l 52 = ii rs.length) (h53 : asc l 53 = ii (0 : Nat)) :
    z = some (.exit 4 (fr 62 [(54, bb false), (5, .ptr 4 0), (51, sI rs nl cap), (52, ii rs.length), (53, ii rs.length)]) (pc :: r1 :: c1 :: rB (mark as0 true rs) :: .cells 64 [.hsl 3 0 n n 1] :: X)) := by
  subst hz
  refine loop_nat rs.length (fun k l H => loopR Try.prog tab kf ar LB46_16 46 62 [5, 51, 52, 53] m k l H)
    (fun i l H => asc l 5 = .ptr 4 0 ∧ asc l 51 = sI rs nl cap ∧ asc l 52 = ii rs.length ∧ asc l 53 = ii i ∧ H = pc :: r1 :: c1 :: rB (mark as0 true (rs.take i)) :: .cells 64 [.hsl 3 0 n n 1] :: X)
    (fun z => z = some (.exit 4 (fr 62 [(54, bb false), (5, .ptr 4 0), (51, sI rs nl cap), (52, ii rs.length), (53, ii rs.length)]) (pc :: r1 :: c1 :: rB (mark as0 true rs) :: .cells 64 [.hsl 3 0 n n 1] :: X))) ?_ rs.length 0 k l _ (by omega) hk ⟨h5, h51, h52, h53, rfl⟩
  clear h5 h51 h52 h53 hk
  rintro i k l H hi ⟨h5, h51, h52, h53, rfl⟩
  have ht : ∀ q : List Bool, trim m (fr 62 (keep l [5, 51, 52, 53])) (pc :: r1 :: c1 :: rB q :: .cells 64 [.hsl 3 0 n n 1] :: X) = pc :: r1 :: c1 :: rB q :: .cells 64 [.hsl 3 0 n n 1] :: X := fun q => trim_same (by simp; omega)
  by_cases hc : i < rs.length
  · refine .inr ?_
    have hc' : ((i : Int) < rs.length) := by omega
    have hc0 : (0 : Int) ≤ i := by omega
    have hx := encInts_get hc
    have hw := wrap_succ hc hlen
    obtain ⟨x, hX⟩ : ∃ x, x = rs[i] := ⟨_, rfl⟩
    rw [← hX] at hx
    obtain ⟨x0, x1⟩ := hr x (by rw [hX]; exact List.getElem_mem hc)
    have hm : (mark as0 true (rs.take i)).length = n := by rw [mark_length]; exact ha0
    have hnx : mark as0 true (rs.take (i + 1)) = (mark as0 true (rs.take i)).set x.toNat true := by rw [List.take_succ_eq_append_getElem hc, mark_snoc, ← hX]
    have hxl : x.toNat < n := by omega
    have hel : (encB (mark as0 true (rs.take i))).length = n := by rw [encB_length, hm]
    simp only [loopR_succ, ht]
    simp only [h5, h51, h52, h53, hc', hc0, hx, hw, x0, x1, hel, hxl, encB_set, loopR_succ, loopOf, findLoop, firstRegion, Option.some_or, Option.none_or, Option.getD_some, Option.some.injEq, Try.f46, EVb, EVc, Int.reduceEq, Int.reduceToNat, Int.reduceLE, Int.reduceLT, Int.reduceAdd, Int.reduceMul, Int.reduceSub, Int.reduceNeg, Nat.reduceAdd, Nat.reduceSub, Nat.reduceMul, Nat.reduceLT, Nat.reduceBEq, Nat.reduceEqDiff, Nat.reduceLeDiff, FACTS, TYPES]
    exact ⟨_, _, hc, rfl, (by rfl), (by rfl), (by rfl), (by rfl), by rw [hnx]⟩
  · refine .inl ?_
    have hc' : ¬ ((i : Int) < rs.length) := by omega
    have he : rs.take i = rs := List.take_of_length_le (by omega)
    obtain rfl : i = rs.length := by omega
    simp only [loopR_succ, ht]
    simp only [h5, h51, h52, h53, hc', he, loopR_succ, loopOf, findLoop, firstRegion, Option.some_or, Option.none_or, Option.getD_some, Option.some.injEq, Try.f46, EVb, EVc, Int.reduceEq, Int.reduceToNat, Int.reduceLE, Int.reduceLT, Int.reduceAdd, Int.reduceMul, Int.reduceSub, Int.reduceNeg, Nat.reduceAdd, Nat.reduceSub, Nat.reduceMul, Nat.reduceLT, Nat.reduceBEq, Nat.reduceEqDiff, Nat.reduceLeDiff, FACTS, TYPES]
/-- Memory while the instructions are gone through from behind. -/
noncomputable abbrev hM (x0 x1 x2 x3 : IV) (n N : Nat) (cs : IV) (l0 l1 : Ass) (aq out : List Bool) : Heap :=
  [.cells 25 [.c x0, .c x1, .c x2, .c x3], rB out, .cells 64 [.hsl 1 0 N N 1], rB aq, .cells 64 [.hsl 3 0 n n 1], .cells 25 [.c x0, .c x1, .c x2, .c x3],
   rfObj #[35, 36] RA46_11 RB46_11 46 .ready none (fr 62 l0), .cells 163 [.yld 6], .cells 22 [.c cs], rfObj #[11, 12] RA110_3 RB110_3 110 .ready none (fr 18 l1)]
theorem loop_Needed_B (kf : Nat) (x0 x1 x2 x3 : IV) (n : Nat) (code : List Ins) (nl : Bool) (cap : Option Nat) (l0 l1 : Ass) (c0 : (l0.all fun e => AV.under 10 e.2) = true) (c1 : (l1.all fun e => AV.under 10 e.2) = true)
    (g3 : asc l0 4 = .ptr 2 0) (g6 : asc l0 5 = .ptr 4 0) (g2 : asc l1 2 = .ptr 7 0) (as0 : List Bool) (ha0 : as0.length = n) (hcode : ∀ i ∈ code, mayM i n = true) (hlen : code.length ≤ 1000000)
    (k : Nat) (l : Ass) (z : Option Out) (hz : loopR Try.prog tab (kf + 10) none LB128_1 128 19 [0, 1, 3] 10 k l (hM x0 x1 x2 x3 n code.length (.slice (encCode code) code.length nl cap) l0 l1 as0 (List.replicate code.length false)) = z) (hk : code.length < k)
    (a0 : asc l 0 = .yld 9) (a1 : asc l 1 = .ptr 8 0) (a3 : asc l 3 = ii ((code.length : Int) - 1)) :
    ∃ l', z = some (.exit 0 (fr 19 l') (hM x0 x1 x2 x3 n code.length (.slice (encCode code) code.length nl cap) l0 l1 (needL as0 code).1 (needL as0 code).2)) := by
  subst hz
  refine loop_nat code.length (fun k l H => loopR Try.prog tab (kf + 10) none LB128_1 128 19 [0, 1, 3] 10 k l H)
    (fun j l H => asc l 0 = .yld 9 ∧ asc l 1 = .ptr 8 0 ∧ asc l 3 = ii ((code.length : Int) - j - 1) ∧
      H.take 10 = hM x0 x1 x2 x3 n code.length (.slice (encCode code) code.length nl cap) l0 l1 (needL as0 (code.drop (code.length - j))).1 (List.replicate (code.length - j) false ++ (needL as0 (code.drop (code.length - j))).2))
    (fun z => ∃ l', z = some (.exit 0 (fr 19 l') (hM x0 x1 x2 x3 n code.length (.slice (encCode code) code.length nl cap) l0 l1 (needL as0 code).1 (needL as0 code).2))) ?_ code.length 0 k l _ (by omega) hk
    ⟨a0, a1, by rw [a3]; simp, by simp [needL]⟩
  clear a0 a1 a3 hk
  rintro j k l H hj ⟨a0, a1, a3, hH⟩
  have ht : trim 10 (fr 19 (keep l [0, 1, 3])) H = hM x0 x1 x2 x3 n code.length (.slice (encCode code) code.length nl cap) l0 l1 (needL as0 (code.drop (code.length - j))).1 (List.replicate (code.length - j) false ++ (needL as0 (code.drop (code.length - j))).2) := by
    rw [trim_fr (by simp only [a0, a1, a3, EVb, EVc, Int.reduceEq, Int.reduceToNat, Int.reduceLE, Int.reduceLT, Int.reduceAdd, Int.reduceMul, Int.reduceSub, Int.reduceNeg, Nat.reduceAdd, Nat.reduceSub, Nat.reduceMul, Nat.reduceLT, Nat.reduceBEq, Nat.reduceEqDiff, Nat.reduceLeDiff]) (by rw [hH]; simp only [c0, c1, EVb, EVc, Int.reduceEq, Int.reduceToNat, Int.reduceLE, Int.reduceLT, Int.reduceAdd, Int.reduceMul, Int.reduceSub, Int.reduceNeg, Nat.reduceAdd, Nat.reduceSub, Nat.reduceMul, Nat.reduceLT, Nat.reduceBEq, Nat.reduceEqDiff, Nat.reduceLeDiff]), hH]
  by_cases hc : j < code.length
  · refine .inr ?_
    obtain ⟨i, hi⟩ : ∃ i, i + 1 = code.length - j := ⟨code.length - j - 1, by omega⟩
    rw [← hi] at ht
    have hil : i < code.length := by omega
    obtain ⟨x, hX⟩ : ∃ x, x = code[i] := ⟨_, rfl⟩
    have hd : code.drop i = x :: code.drop (i + 1) := by rw [hX]; exact List.drop_eq_getElem_cons hil
    have hx := encCode_get hil
    rw [← hX] at hx
    have a3' : asc l 3 = ii (i : Int) := by rw [a3]; congr 2; omega
    have hi0 : (0 : Int) ≤ i := by omega
    have hi1 : (i : Int) < code.length := by omega
    have hi2 : i < code.length := by omega
    have hw : IntKind.wrap .i64 ((i : Int) - 1) = (code.length : Int) - (j + 1 : Nat) - 1 := by rw [wrap64 (by omega) (by omega)]; omega
    have hm := hcode x (by rw [hX]; exact List.getElem_mem hil)
    obtain ⟨aq, haq⟩ : ∃ aq, aq = (needL as0 (code.drop (i + 1))).1 := ⟨_, rfl⟩
    obtain ⟨fl, hfl⟩ : ∃ fl, fl = (needL as0 (code.drop (i + 1))).2 := ⟨_, rfl⟩
    have hdd : code.drop (code.length - j) = code.drop (i + 1) := by rw [hi]
    rw [hi] at ht
    rw [hdd, ← hi, ← haq, ← hfl] at ht
    have haql : aq.length = n := by rw [haq, (needL_length _ _).1]; exact ha0
    have hfll : fl.length + (i + 1) = code.length := by rw [hfl, (needL_length _ _).2]; simp; omega
    have hel : (encB aq).length = n := by rw [encB_length, haql]
    have hol : (encB (List.replicate (i + 1) false ++ fl)).length = code.length := by rw [encB_length]; simp; omega
    have hm' := hm
    simp only [mayM, Bool.and_eq_true, decide_eq_true_eq] at hm'
    obtain ⟨⟨⟨⟨m1, m2, m3, m4, m5⟩, _⟩, m6⟩, m7⟩ := hm'
    have ht2 : x.to.toNat < n := by omega
    have hget := encB_get (l := aq) m3 (by rw [haql]; exact m4)
    have hnx : code.drop (code.length - (j + 1)) = x :: code.drop (i + 1) := by rw [← hd]; congr 1; omega
    have hii : code.length - (j + 1) = i := by omega
    have hran : ∀ r ∈ asks x, 0 ≤ r ∧ r < (n : Int) := by
      intro r hr
      unfold asks at hr
      split at hr
      · rename_i h34
        simp only [List.mem_cons, List.not_mem_nil, or_false] at hr
        rcases hr with rfl | rfl
        · exact m6
        · exact m7 h34
      · split at hr
        · simp only [List.mem_cons, List.not_mem_nil, or_false] at hr
          subst hr
          exact m6
        · cases hr
    cases hq : aq.getD x.to.toNat false with
    | false =>
      rw [hq] at hget
      have hnew : (needL as0 (x :: code.drop (i + 1))) = (aq, false :: fl) := by
        simp only [needL, ← haq, ← hfl, hq]
        rfl
      simp only [loopR_succ, ht]
      simp only [a0, a1, a3', hi0, hi1, hx, hw, g3, g6, g2, evalT_round, roundA_rf, hel, m3, m4, hget, rfAs, rfBd, rfOf, findRF, firstRegion, Option.some_or, Option.none_or, Option.getD_some, Option.some.injEq, findLoop, loopOf, loopR_succ, loopOf, findLoop, firstRegion, Option.some_or, Option.none_or, Option.getD_some, Option.some.injEq, Try.f128, Try.f110, Try.f46, EVb, EVc, Int.reduceEq, Int.reduceToNat, Int.reduceLE, Int.reduceLT, Int.reduceAdd, Int.reduceMul, Int.reduceSub, Int.reduceNeg, Nat.reduceAdd, Nat.reduceSub, Nat.reduceMul, Nat.reduceLT, Nat.reduceBEq, Nat.reduceEqDiff, Nat.reduceLeDiff, FACTS, TYPES]
      refine ⟨_, _, hc, rfl, (by rfl), (by rfl), (by rfl), ?_⟩
      rw [hnx, hnew, hii, ← rep_keep]
      rfl
    | true =>
      rw [hq] at hget
      have hnew : (needL as0 (x :: code.drop (i + 1))) = (mark (aq.set x.to.toNat false) true (asks x), true :: fl) := by
        simp only [needL, ← haq, ← hfl, hq]
        rfl
      have hA := asks_ev (kf + 7) x.op x.to x.a x.b x.c
      simp only [run, aI, ii, sI] at hA
      have hal : (asks x).length ≤ 2 := by unfold asks; split <;> (try split) <;> simp
      simp only [loopR_succ, ht]
      simp only [a0, a1, a3', hi0, hi1, hi2, hx, hw, g3, g6, g2, evalT_round, roundA_rf, hel, hol, ht2, m3, m4, hget, hA, encB_set, rep_set, rfAs, rfBd, rfOf, findRF, firstRegion, Option.some_or, Option.none_or, Option.getD_some, Option.some.injEq, findLoop, loopOf, loopR_succ, loopOf, findLoop, firstRegion, Option.some_or, Option.none_or, Option.getD_some, Option.some.injEq, Try.f128, Try.f110, Try.f46, EVb, EVc, Int.reduceEq, Int.reduceToNat, Int.reduceLE, Int.reduceLT, Int.reduceAdd, Int.reduceMul, Int.reduceSub, Int.reduceNeg, Nat.reduceAdd, Nat.reduceSub, Nat.reduceMul, Nat.reduceLT, Nat.reduceBEq, Nat.reduceEqDiff, Nat.reduceLeDiff, FACTS, TYPES]
      rw [evalCode_drawn Try.f46 14 dr46_14]; rotate_left; rfl
      simp only [a0, a1, a3', hi0, hi1, hi2, hx, hw, g3, g6, g2, evalT_round, roundA_rf, hel, hol, ht2, m3, m4, hget, hA, encB_set, rep_set, EVd, Nat.reducePow, Nat.reduceDiv, Nat.reduceMod, rfAs, rfBd, rfOf, findRF, firstRegion, Option.some_or, Option.none_or, Option.getD_some, Option.some.injEq, findLoop, loopOf, loopR_succ, loopOf, findLoop, firstRegion, Option.some_or, Option.none_or, Option.getD_some, Option.some.injEq, Try.f128, Try.f110, Try.f46, EVb, EVc, Int.reduceEq, Int.reduceToNat, Int.reduceLE, Int.reduceLT, Int.reduceAdd, Int.reduceMul, Int.reduceSub, Int.reduceNeg, Nat.reduceAdd, Nat.reduceSub, Nat.reduceMul, Nat.reduceLT, Nat.reduceBEq, Nat.reduceEqDiff, Nat.reduceLeDiff, FACTS, TYPES]
      rw [evalCode_loopB LB46_16 lp46_16]; rotate_left; rfl; rfl; rfl
      generalize hz : loopR _ _ _ _ _ _ _ _ _ _ _ _ = z
      have h15 := loop_Needed_16 (kf + 8) (some 6) _ _ _ _ n (asks x) (nlE (asks x)) (cpE (asks x)) (by omega) hran (aq.set x.to.toNat false) (by simp [haql]) _ _ _ z hz (by rfl) (by omega) (by simp only [g6, EVb, EVc, Int.reduceEq, Int.reduceToNat, Int.reduceLE, Int.reduceLT, Int.reduceAdd, Int.reduceMul, Int.reduceSub, Int.reduceNeg, Nat.reduceAdd, Nat.reduceSub, Nat.reduceMul, Nat.reduceLT, Nat.reduceBEq, Nat.reduceEqDiff, Nat.reduceLeDiff]) (by simp only [EVb, EVc, Int.reduceEq, Int.reduceToNat, Int.reduceLE, Int.reduceLT, Int.reduceAdd, Int.reduceMul, Int.reduceSub, Int.reduceNeg, Nat.reduceAdd, Nat.reduceSub, Nat.reduceMul, Nat.reduceLT, Nat.reduceBEq, Nat.reduceEqDiff, Nat.reduceLeDiff]) (by simp only [EVb, EVc, Int.reduceEq, Int.reduceToNat, Int.reduceLE, Int.reduceLT, Int.reduceAdd, Int.reduceMul, Int.reduceSub, Int.reduceNeg, Nat.reduceAdd, Nat.reduceSub, Nat.reduceMul, Nat.reduceLT, Nat.reduceBEq, Nat.reduceEqDiff, Nat.reduceLeDiff]) (by simp only [EVb, EVc, Int.reduceEq, Int.reduceToNat, Int.reduceLE, Int.reduceLT, Int.reduceAdd, Int.reduceMul, Int.reduceSub, Int.reduceNeg, Nat.reduceAdd, Nat.reduceSub, Nat.reduceMul, Nat.reduceLT, Nat.reduceBEq, Nat.reduceEqDiff, Nat.reduceLeDiff])
      rw [h15]
      simp only [EVb, EVc, Int.reduceEq, Int.reduceToNat, Int.reduceLE, Int.reduceLT, Int.reduceAdd, Int.reduceMul, Int.reduceSub, Int.reduceNeg, Nat.reduceAdd, Nat.reduceSub, Nat.reduceMul, Nat.reduceLT, Nat.reduceBEq, Nat.reduceEqDiff, Nat.reduceLeDiff]
      refine ⟨_, _, hc, rfl, (by rfl), (by rfl), (by rw [← hw]; rfl), ?_⟩
      rw [hnx, hnew, hii]
      dsimp only
      rw [← rep_set]
      rfl
  · refine .inl ?_
    obtain rfl : j = code.length := by omega
    have hc' : ¬ ((0 : Int) ≤ (code.length : Int) - code.length - 1) := by omega
    simp only [Nat.sub_self, List.drop_zero, List.replicate_zero, List.nil_append] at ht
    simp only [loopR_succ, ht]
    simp only [a0, a1, a3, hc', loopR_succ, loopOf, findLoop, firstRegion, Option.some_or, Option.none_or, Option.getD_some, Option.some.injEq, Try.f128, EVb, EVc, Int.reduceEq, Int.reduceToNat, Int.reduceLE, Int.reduceLT, Int.reduceAdd, Int.reduceMul, Int.reduceSub, Int.reduceNeg, Nat.reduceAdd, Nat.reduceSub, Nat.reduceMul, Nat.reduceLT, Nat.reduceBEq, Nat.reduceEqDiff, Nat.reduceLeDiff, FACTS, TYPES]
    exact ⟨_, rfl⟩
end Go.Proofs.Sw
namespace Go.Proofs.Sw
set_option linter.unusedVariables false
set_option linter.unusedSimpArgs false
set_option linter.unusedSectionVars false
open Go.Ab
variable [Globals]
/-- Whose beginning is asked. -/
def askL (base : List Bool) : List Ins → List Bool
  | [] => base
  | i :: rest => mark ((askL base rest).set i.to.toNat false) true (asks i)
theorem askL_length (base : List Bool) : ∀ code : List Ins, (askL base code).length = base.length
  | [] => rfl
  | i :: rest => by rw [askL, mark_length]; simp [askL_length base rest]
def askedM (p : Pg) : List Bool := askL (asked0 p.regs.toNat p.outs) p.code
/-- Marking what is asked, in a row at place 1. -/
theorem loop_Asked_6 (kf : Nat) (pc cq : AObj) (n : Nat) (outs : List Int) (nl : Bool) (cap : Option Nat) (hlen : outs.length ≤ 4611686018427387904) (hr : ∀ r ∈ outs, 0 ≤ r ∧ r < n) (as0 : List Bool) (ha0 : as0.length = n)
    (k : Nat) (l : Ass) (H : Heap) (z : Option Out) (hz : loopR Try.prog tab kf none LB31_6 31 55 [4, 6, 25, 26, 27] 4 k l H = z) (hk : outs.length < k)
    (h4 : asc l 4 = .ptr 1 0) (h6 : asc l 6 = .ptr 3 0) (h25 : asc l 25 = sI outs nl cap) (h26 : asc l 26 = ii outs.length) (h27 : asc l 27 = ii (0 : Nat)) (hH : H = [pc, cq, rB as0, .cells 64 [.hsl 2 0 n n 1]]) :
    z = some (.exit 0 (fr 55 [(28, bb false), (4, .ptr 1 0), (6, .ptr 3 0), (25, sI outs nl cap), (26, ii outs.length), (27, ii outs.length)]) [pc, cq, rB (mark as0 true outs), .cells 64 [.hsl 2 0 n n 1]]) := by
  subst hH
  subst hz
  refine loop_nat outs.length (fun k l H => loopR Try.prog tab kf none LB31_6 31 55 [4, 6, 25, 26, 27] 4 k l H)
    (fun i l H => asc l 4 = .ptr 1 0 ∧ asc l 6 = .ptr 3 0 ∧ asc l 25 = sI outs nl cap ∧ asc l 26 = ii outs.length ∧ asc l 27 = ii i ∧ H = [pc, cq, rB (mark as0 true (outs.take i)), .cells 64 [.hsl 2 0 n n 1]])
    (fun z => z = some (.exit 0 (fr 55 [(28, bb false), (4, .ptr 1 0), (6, .ptr 3 0), (25, sI outs nl cap), (26, ii outs.length), (27, ii outs.length)]) [pc, cq, rB (mark as0 true outs), .cells 64 [.hsl 2 0 n n 1]])) ?_ outs.length 0 k l _ (by omega) hk ⟨h4, h6, h25, h26, h27, rfl⟩
  clear h4 h6 h25 h26 h27 hk
  rintro i k l H hi ⟨h4, h6, h25, h26, h27, rfl⟩
  have ht : ∀ q : List Bool, trim 4 (fr 55 (keep l [4, 6, 25, 26, 27])) [pc, cq, rB q, .cells 64 [.hsl 2 0 n n 1]] = [pc, cq, rB q, .cells 64 [.hsl 2 0 n n 1]] := fun q => trim_same rfl
  by_cases hc : i < outs.length
  · refine .inr ?_
    have hc' : ((i : Int) < outs.length) := by omega
    have hc0 : (0 : Int) ≤ i := by omega
    have hx := encInts_get hc
    have hw := wrap_succ hc hlen
    obtain ⟨x, hX⟩ : ∃ x, x = outs[i] := ⟨_, rfl⟩
    rw [← hX] at hx
    obtain ⟨x0, x1⟩ := hr x (by rw [hX]; exact List.getElem_mem hc)
    have hm : (mark as0 true (outs.take i)).length = n := by rw [mark_length]; exact ha0
    have hnx : mark as0 true (outs.take (i + 1)) = (mark as0 true (outs.take i)).set x.toNat true := by rw [List.take_succ_eq_append_getElem hc, mark_snoc, ← hX]
    have hxl : x.toNat < n := by omega
    have hel : (encB (mark as0 true (outs.take i))).length = n := by rw [encB_length, hm]
    simp only [loopR_succ, ht]
    simp only [h4, h6, h25, h26, h27, hc', hc0, hx, hw, x0, x1, hel, hxl, encB_set, loopR_succ, loopOf, findLoop, firstRegion, Option.some_or, Option.none_or, Option.getD_some, Option.some.injEq, Try.f31, EVb, EVc, Int.reduceEq, Int.reduceToNat, Int.reduceLE, Int.reduceLT, Int.reduceAdd, Int.reduceMul, Int.reduceSub, Int.reduceNeg, Nat.reduceAdd, Nat.reduceSub, Nat.reduceMul, Nat.reduceLT, Nat.reduceBEq, Nat.reduceEqDiff, Nat.reduceLeDiff, FACTS, TYPES]
    exact ⟨_, _, hc, rfl, (by rfl), (by rfl), (by rfl), (by rfl), (by rfl), by rw [hnx]⟩
  · refine .inl ?_
    have hc' : ¬ ((i : Int) < outs.length) := by omega
    have he : outs.take i = outs := List.take_of_length_le (by omega)
    obtain rfl : i = outs.length := by omega
    simp only [loopR_succ, ht]
    simp only [h4, h6, h25, h26, h27, hc', he, loopR_succ, loopOf, findLoop, firstRegion, Option.some_or, Option.none_or, Option.getD_some, Option.some.injEq, Try.f31, EVb, EVc, Int.reduceEq, Int.reduceToNat, Int.reduceLE, Int.reduceLT, Int.reduceAdd, Int.reduceMul, Int.reduceSub, Int.reduceNeg, Nat.reduceAdd, Nat.reduceSub, Nat.reduceMul, Nat.reduceLT, Nat.reduceBEq, Nat.reduceEqDiff, Nat.reduceLeDiff, FACTS, TYPES]
/-- The same behind an instruction. -/
theorem loop_Asked_14 (kf : Nat) (ar : Option Nat) (pc cq : AObj) (X : Heap) (n : Nat) (rs : List Int) (nl : Bool) (cap : Option Nat) (hlen : rs.length ≤ 4611686018427387904) (hr : ∀ r ∈ rs, 0 ≤ r ∧ r < n) (as0 : List Bool) (ha0 : as0.length = n)
    (k : Nat) (l : Ass) (m : Nat) (z : Option Out) (hz : loopR Try.prog tab kf ar LB31_14 31 55 [6, 44, 45, 46] m k l (pc :: cq :: rB as0 :: .cells 64 [.hsl 2 0 n n 1] :: X) = z) (hm : X.length + 4 = m) (hk : rs.length < k)
    (h6 : asc l 6 = .ptr 3 0) (h44 : asc l 44 = sI rs nl cap) (h45 : asc l 45 = ii rs.length) (h46 : asc l 46 = ii (0 : Nat)) :
    z = some (.exit 4 (fr 55 [(47, bb false), (6, .ptr 3 0), (44, sI rs nl cap), (45, ii rs.length), (46, ii rs.length)]) (pc :: cq :: rB (mark as0 true rs) :: .cells 64 [.hsl 2 0 n n 1] :: X)) := by
  subst hz
  refine loop_nat rs.length (fun k l H => loopR Try.prog tab kf ar LB31_14 31 55 [6, 44, 45, 46] m k l H)
    (fun i l H => asc l 6 = .ptr 3 0 ∧ asc l 44 = sI rs nl cap ∧ asc l 45 = ii rs.length ∧ asc l 46 = ii i ∧ H = pc :: cq :: rB (mark as0 true (rs.take i)) :: .cells 64 [.hsl 2 0 n n 1] :: X)
    (fun z => z = some (.exit 4 (fr 55 [(47, bb false), (6, .ptr 3 0), (44, sI rs nl cap), (45, ii rs.length), (46, ii rs.length)]) (pc :: cq :: rB (mark as0 true rs) :: .cells 64 [.hsl 2 0 n n 1] :: X))) ?_ rs.length 0 k l _ (by omega) hk ⟨h6, h44, h45, h46, rfl⟩
  clear h6 h44 h45 h46 hk
  rintro i k l H hi ⟨h6, h44, h45, h46, rfl⟩
  have ht : ∀ q : List Bool, trim m (fr 55 (keep l [6, 44, 45, 46])) (pc :: cq :: rB q :: .cells 64 [.hsl 2 0 n n 1] :: X) = pc :: cq :: rB q :: .cells 64 [.hsl 2 0 n n 1] :: X := fun q => trim_same (by simp; omega)
  by_cases hc : i < rs.length
  · refine .inr ?_
    have hc' : ((i : Int) < rs.length) := by omega
    have hc0 : (0 : Int) ≤ i := by omega
    have hx := encInts_get hc
    have hw := wrap_succ hc hlen
    obtain ⟨x, hX⟩ : ∃ x, x = rs[i] := ⟨_, rfl⟩
    rw [← hX] at hx
    obtain ⟨x0, x1⟩ := hr x (by rw [hX]; exact List.getElem_mem hc)
    have hm : (mark as0 true (rs.take i)).length = n := by rw [mark_length]; exact ha0
    have hnx : mark as0 true (rs.take (i + 1)) = (mark as0 true (rs.take i)).set x.toNat true := by rw [List.take_succ_eq_append_getElem hc, mark_snoc, ← hX]
    have hxl : x.toNat < n := by omega
    have hel : (encB (mark as0 true (rs.take i))).length = n := by rw [encB_length, hm]
    simp only [loopR_succ, ht]
    simp only [h6, h44, h45, h46, hc', hc0, hx, hw, x0, x1, hel, hxl, encB_set, loopR_succ, loopOf, findLoop, firstRegion, Option.some_or, Option.none_or, Option.getD_some, Option.some.injEq, Try.f31, EVb, EVc, Int.reduceEq, Int.reduceToNat, Int.reduceLE, Int.reduceLT, Int.reduceAdd, Int.reduceMul, Int.reduceSub, Int.reduceNeg, Nat.reduceAdd, Nat.reduceSub, Nat.reduceMul, Nat.reduceLT, Nat.reduceBEq, Nat.reduceEqDiff, Nat.reduceLeDiff, FACTS, TYPES]
    exact ⟨_, _, hc, rfl, (by rfl), (by rfl), (by rfl), (by rfl), by rw [hnx]⟩
  · refine .inl ?_
    have hc' : ¬ ((i : Int) < rs.length) := by omega
    have he : rs.take i = rs := List.take_of_length_le (by omega)
    obtain rfl : i = rs.length := by omega
    simp only [loopR_succ, ht]
    simp only [h6, h44, h45, h46, hc', he, loopR_succ, loopOf, findLoop, firstRegion, Option.some_or, Option.none_or, Option.getD_some, Option.some.injEq, Try.f31, EVb, EVc, Int.reduceEq, Int.reduceToNat, Int.reduceLE, Int.reduceLT, Int.reduceAdd, Int.reduceMul, Int.reduceSub, Int.reduceNeg, Nat.reduceAdd, Nat.reduceSub, Nat.reduceMul, Nat.reduceLT, Nat.reduceBEq, Nat.reduceEqDiff, Nat.reduceLeDiff, FACTS, TYPES]
/-- Memory while the instructions are gone through from behind. -/
noncomputable abbrev hA (y0 y1 y2 y3 x0 x1 x2 x3 : IV) (n : Nat) (cs : IV) (l0 l1 : Ass) (aq : List Bool) : Heap :=
  [.cells 25 [.c y0, .c y1, .c y2, .c y3], .cells 25 [.c x0, .c x1, .c x2, .c x3], rB aq, .cells 64 [.hsl 2 0 n n 1], .cells 25 [.c x0, .c x1, .c x2, .c x3],
   rfObj #[37, 38] RA31_11 RB31_11 31 .ready none (fr 55 l0), .cells 163 [.yld 5], .cells 22 [.c cs], rfObj #[11, 12] RA110_3 RB110_3 110 .ready none (fr 18 l1)]
theorem loop_Asked_B (kf : Nat) (y0 y1 y2 y3 x0 x1 x2 x3 : IV) (n : Nat) (code : List Ins) (nl : Bool) (cap : Option Nat) (l0 l1 : Ass) (c0 : (l0.all fun e => AV.under 9 e.2) = true) (c1 : (l1.all fun e => AV.under 9 e.2) = true)
    (g6 : asc l0 6 = .ptr 3 0) (g2 : asc l1 2 = .ptr 6 0) (as0 : List Bool) (ha0 : as0.length = n) (hcode : ∀ i ∈ code, mayM i n = true) (hlen : code.length ≤ 1000000)
    (k : Nat) (l : Ass) (z : Option Out) (hz : loopR Try.prog tab (kf + 10) none LB128_1 128 19 [0, 1, 3] 9 k l (hA y0 y1 y2 y3 x0 x1 x2 x3 n (.slice (encCode code) code.length nl cap) l0 l1 as0) = z) (hk : code.length < k)
    (a0 : asc l 0 = .yld 8) (a1 : asc l 1 = .ptr 7 0) (a3 : asc l 3 = ii ((code.length : Int) - 1)) :
    ∃ l', z = some (.exit 0 (fr 19 l') (hA y0 y1 y2 y3 x0 x1 x2 x3 n (.slice (encCode code) code.length nl cap) l0 l1 (askL as0 code))) := by
  subst hz
  refine loop_nat code.length (fun k l H => loopR Try.prog tab (kf + 10) none LB128_1 128 19 [0, 1, 3] 9 k l H)
    (fun j l H => asc l 0 = .yld 8 ∧ asc l 1 = .ptr 7 0 ∧ asc l 3 = ii ((code.length : Int) - j - 1) ∧
      H.take 9 = hA y0 y1 y2 y3 x0 x1 x2 x3 n (.slice (encCode code) code.length nl cap) l0 l1 (askL as0 (code.drop (code.length - j))))
    (fun z => ∃ l', z = some (.exit 0 (fr 19 l') (hA y0 y1 y2 y3 x0 x1 x2 x3 n (.slice (encCode code) code.length nl cap) l0 l1 (askL as0 code)))) ?_ code.length 0 k l _ (by omega) hk
    ⟨a0, a1, by rw [a3]; simp, by simp [askL]⟩
  clear a0 a1 a3 hk
  rintro j k l H hj ⟨a0, a1, a3, hH⟩
  have ht : trim 9 (fr 19 (keep l [0, 1, 3])) H = hA y0 y1 y2 y3 x0 x1 x2 x3 n (.slice (encCode code) code.length nl cap) l0 l1 (askL as0 (code.drop (code.length - j))) := by
    rw [trim_fr (by simp only [a0, a1, a3, EVb, EVc, Int.reduceEq, Int.reduceToNat, Int.reduceLE, Int.reduceLT, Int.reduceAdd, Int.reduceMul, Int.reduceSub, Int.reduceNeg, Nat.reduceAdd, Nat.reduceSub, Nat.reduceMul, Nat.reduceLT, Nat.reduceBEq, Nat.reduceEqDiff, Nat.reduceLeDiff]) (by rw [hH]; simp only [c0, c1, EVb, EVc, Int.reduceEq, Int.reduceToNat, Int.reduceLE, Int.reduceLT, Int.reduceAdd, Int.reduceMul, Int.reduceSub, Int.reduceNeg, Nat.reduceAdd, Nat.reduceSub, Nat.reduceMul, Nat.reduceLT, Nat.reduceBEq, Nat.reduceEqDiff, Nat.reduceLeDiff]), hH]
  by_cases hc : j < code.length
  · refine .inr ?_
    obtain ⟨i, hi⟩ : ∃ i, i + 1 = code.length - j := ⟨code.length - j - 1, by omega⟩
    rw [← hi] at ht
    have hil : i < code.length := by omega
    obtain ⟨x, hX⟩ : ∃ x, x = code[i] := ⟨_, rfl⟩
    have hd : code.drop i = x :: code.drop (i + 1) := by rw [hX]; exact List.drop_eq_getElem_cons hil
    have hx := encCode_get hil
    rw [← hX] at hx
    have a3' : asc l 3 = ii (i : Int) := by rw [a3]; congr 2; omega
    have hi0 : (0 : Int) ≤ i := by omega
    have hi1 : (i : Int) < code.length := by omega
    have hi2 : i < code.length := by omega
    have hw : IntKind.wrap .i64 ((i : Int) - 1) = (code.length : Int) - (j + 1 : Nat) - 1 := by rw [wrap64 (by omega) (by omega)]; omega
    have hm := hcode x (by rw [hX]; exact List.getElem_mem hil)
    obtain ⟨aq, haq⟩ : ∃ aq, aq = askL as0 (code.drop (i + 1)) := ⟨_, rfl⟩
    have hdd : code.drop (code.length - j) = code.drop (i + 1) := by rw [hi]
    rw [hi, hdd, ← haq] at ht
    have haql : aq.length = n := by rw [haq, askL_length]; exact ha0
    have hel : (encB aq).length = n := by rw [encB_length, haql]
    have hm' := hm
    simp only [mayM, Bool.and_eq_true, decide_eq_true_eq] at hm'
    obtain ⟨⟨⟨⟨m1, m2, m3, m4, m5⟩, _⟩, m6⟩, m7⟩ := hm'
    have ht2 : x.to.toNat < n := by omega
    have hget := encB_get (l := aq) m3 (by rw [haql]; exact m4)
    have hnx : code.drop (code.length - (j + 1)) = x :: code.drop (i + 1) := by rw [← hd]; congr 1; omega
    have hii : code.length - (j + 1) = i := by omega
    have hran : ∀ r ∈ asks x, 0 ≤ r ∧ r < (n : Int) := by
      intro r hr
      unfold asks at hr
      split at hr
      · rename_i h34
        simp only [List.mem_cons, List.not_mem_nil, or_false] at hr
        rcases hr with rfl | rfl
        · exact m6
        · exact m7 h34
      · split at hr
        · simp only [List.mem_cons, List.not_mem_nil, or_false] at hr
          subst hr
          exact m6
        · cases hr
    have hnew : askL as0 (x :: code.drop (i + 1)) = mark (aq.set x.to.toNat false) true (asks x) := by rw [askL, ← haq]
    have hAs := asks_ev (kf + 7) x.op x.to x.a x.b x.c
    simp only [run, aI, ii, sI] at hAs
    have hal : (asks x).length ≤ 2 := by unfold asks; split <;> (try split) <;> simp
    simp only [loopR_succ, ht]
    simp only [a0, a1, a3', hi0, hi1, hi2, hx, hw, g6, g2, evalT_round, roundA_rf, hel, ht2, m3, m4, hget, hAs, encB_set, rfAs, rfBd, rfOf, findRF, firstRegion, Option.some_or, Option.none_or, Option.getD_some, Option.some.injEq, findLoop, loopOf, loopR_succ, loopOf, findLoop, firstRegion, Option.some_or, Option.none_or, Option.getD_some, Option.some.injEq, Try.f128, Try.f110, Try.f31, EVb, EVc, Int.reduceEq, Int.reduceToNat, Int.reduceLE, Int.reduceLT, Int.reduceAdd, Int.reduceMul, Int.reduceSub, Int.reduceNeg, Nat.reduceAdd, Nat.reduceSub, Nat.reduceMul, Nat.reduceLT, Nat.reduceBEq, Nat.reduceEqDiff, Nat.reduceLeDiff, FACTS, TYPES]
    rw [evalCode_loopB LB31_14 lp31_14]; rotate_left; rfl; rfl; rfl
    generalize hz : loopR _ _ _ _ _ _ _ _ _ _ _ _ = z
    have h15 := loop_Asked_14 (kf + 8) (some 5) _ _ _ n (asks x) (nlE (asks x)) (cpE (asks x)) (by omega) hran (aq.set x.to.toNat false) (by simp [haql]) _ _ _ z hz (by rfl) (by omega) (by simp only [g6, EVb, EVc, Int.reduceEq, Int.reduceToNat, Int.reduceLE, Int.reduceLT, Int.reduceAdd, Int.reduceMul, Int.reduceSub, Int.reduceNeg, Nat.reduceAdd, Nat.reduceSub, Nat.reduceMul, Nat.reduceLT, Nat.reduceBEq, Nat.reduceEqDiff, Nat.reduceLeDiff]) (by simp only [EVb, EVc, Int.reduceEq, Int.reduceToNat, Int.reduceLE, Int.reduceLT, Int.reduceAdd, Int.reduceMul, Int.reduceSub, Int.reduceNeg, Nat.reduceAdd, Nat.reduceSub, Nat.reduceMul, Nat.reduceLT, Nat.reduceBEq, Nat.reduceEqDiff, Nat.reduceLeDiff]) (by simp only [EVb, EVc, Int.reduceEq, Int.reduceToNat, Int.reduceLE, Int.reduceLT, Int.reduceAdd, Int.reduceMul, Int.reduceSub, Int.reduceNeg, Nat.reduceAdd, Nat.reduceSub, Nat.reduceMul, Nat.reduceLT, Nat.reduceBEq, Nat.reduceEqDiff, Nat.reduceLeDiff]) (by simp only [EVb, EVc, Int.reduceEq, Int.reduceToNat, Int.reduceLE, Int.reduceLT, Int.reduceAdd, Int.reduceMul, Int.reduceSub, Int.reduceNeg, Nat.reduceAdd, Nat.reduceSub, Nat.reduceMul, Nat.reduceLT, Nat.reduceBEq, Nat.reduceEqDiff, Nat.reduceLeDiff])
    rw [h15]
    simp only [EVb, EVc, Int.reduceEq, Int.reduceToNat, Int.reduceLE, Int.reduceLT, Int.reduceAdd, Int.reduceMul, Int.reduceSub, Int.reduceNeg, Nat.reduceAdd, Nat.reduceSub, Nat.reduceMul, Nat.reduceLT, Nat.reduceBEq, Nat.reduceEqDiff, Nat.reduceLeDiff]
    refine ⟨_, _, hc, rfl, (by rfl), (by rfl), (by rw [← hw]; rfl), ?_⟩
    rw [hnx, hnew]
    rfl
  · refine .inl ?_
    obtain rfl : j = code.length := by omega
    have hc' : ¬ ((0 : Int) ≤ (code.length : Int) - code.length - 1) := by omega
    simp only [Nat.sub_self, List.drop_zero] at ht
    simp only [loopR_succ, ht]
    simp only [a0, a1, a3, hc', loopR_succ, loopOf, findLoop, firstRegion, Option.some_or, Option.none_or, Option.getD_some, Option.some.injEq, Try.f128, EVb, EVc, Int.reduceEq, Int.reduceToNat, Int.reduceLE, Int.reduceLT, Int.reduceAdd, Int.reduceMul, Int.reduceSub, Int.reduceNeg, Nat.reduceAdd, Nat.reduceSub, Nat.reduceMul, Nat.reduceLT, Nat.reduceBEq, Nat.reduceEqDiff, Nat.reduceLeDiff, FACTS, TYPES]
    exact ⟨_, rfl⟩
end Go.Proofs.Sw
namespace Go.Proofs.Sw
set_option linter.unusedVariables false
set_option linter.unusedSimpArgs false
set_option linter.unusedSectionVars false
open Go.Ab
variable [Globals]
theorem keepL_mem : ∀ (c : List Ins) (fl : List Bool) (x : Ins), x ∈ keepL c fl → x ∈ c
  | [], _, x, h => by simp [keepL] at h
  | i :: c, [], x, h => by simp [keepL] at h
  | i :: c, f :: fl, x, h => by
    simp only [keepL] at h
    split at h
    · rcases List.mem_cons.1 h with rfl | h
      · simp
      · exact List.mem_cons_of_mem _ (keepL_mem c fl x h)
    · exact List.mem_cons_of_mem _ (keepL_mem c fl x h)
theorem deadP_right {p : Pg} (hr : rightM p = true) : rightM (deadP p) = true := by
  simp only [rightM, Bool.and_eq_true] at hr ⊢
  obtain ⟨⟨h1, h2⟩, h3⟩ := hr
  refine ⟨⟨?_, h2⟩, ?_⟩
  · have := keepL_len p.code (neededM p)
    unfold headM at h1 ⊢
    rw [decide_eq_true_eq] at h1 ⊢
    show _ ∧ _ ∧ _ ∧ (keepL p.code (neededM p)).length ≤ 16384 ∧ _
    exact ⟨h1.1, h1.2.1, h1.2.2.1, by have := h1.2.2.2.1; omega, h1.2.2.2.2⟩
  · simp only [codeM, deadP, List.all_eq_true] at h3 ⊢
    exact fun x hx => h3 x (keepL_mem _ _ x hx)
theorem Needed_bad (k : Nat) (p : Pg) (nl : Bool) (cap : Option Nat) (nl2 : Bool) (cap2 : Option Nat) (hk : p.outs.length + p.code.length + 100 ≤ k) (hr : rightM p = false) :
    run (k+1) 46 [aP p nl cap nl2 cap2] = some (.tup [.c (.slice [] 0 true (some 0)), ii 80]) := by
  have hrt := right_ev (k - 1) p nl cap nl2 cap2 (by omega)
  rw [show k - 1 + 1 = k by omega] at hrt
  simp only [run, aP, ii, sC, sI, bb, hr] at hrt
  rw [run, ev46, ans_trim]
  simp only [Try.f46, aP, ii, bb, hrt, EVb, EVc, Int.reduceEq, Int.reduceToNat, Int.reduceLE, Int.reduceLT, Int.reduceAdd, Int.reduceMul, Int.reduceSub, Int.reduceNeg, Nat.reduceAdd, Nat.reduceSub, Nat.reduceMul, Nat.reduceLT, Nat.reduceBEq, Nat.reduceEqDiff, Nat.reduceLeDiff, FACTS, TYPES]
/-- What is needed, as the layer below tells it. -/
theorem Needed_ev (k n : Nat) (ins : Int) (code : List Ins) (outs : List Int) (nl : Bool) (cap : Option Nat) (nl2 : Bool) (cap2 : Option Nat) (hk : outs.length + code.length + 100 ≤ k) (hr : rightM ⟨ins, n, code, outs⟩ = true) :
    run (k+1) 46 [aP ⟨ins, n, code, outs⟩ nl cap nl2 cap2] = some (.tup [sB (neededM ⟨ins, n, code, outs⟩) false none, ii 0]) := by
  have hr' := hr
  simp only [rightM, headM, Bool.and_eq_true, decide_eq_true_eq] at hr'
  obtain ⟨⟨hh, ho⟩, hc⟩ := hr'
  have q1 : (0 : Int) ≤ n := by omega
  have q2 : n ≤ roomBytes := Nat.le_trans (show n ≤ 128 by omega) (by decide)
  have q3 : (0 : Int) ≤ code.length := by omega
  have q4 : code.length ≤ roomBytes := Nat.le_trans (show code.length ≤ 16384 by omega) (by decide)
  have hout : ∀ r ∈ outs, 0 ≤ r ∧ r < (n : Int) := fun r h => by have := List.all_eq_true.1 ho r h; simpa using this
  have hcode : ∀ i ∈ code, mayM i n = true := fun i h => List.all_eq_true.1 hc i h
  obtain ⟨k, rfl⟩ : ∃ j, k = j + 60 := ⟨k - 60, by omega⟩
  have hbk := Back_raw (k + 59) (ii ins) (ii n) (sC code nl cap) (sI outs nl2 cap2) rfl
  have hba := Back_ans (k + 59) (ii ins) (ii n) (sC code nl cap) (sI outs nl2 cap2) rfl
  have hrt := right_ev (k + 58) ⟨ins, n, code, outs⟩ nl cap nl2 cap2 (by simp only; omega)
  have hrt0 := right_ev (k + 59) ⟨ins, n, code, outs⟩ nl cap nl2 cap2 (by simp only; omega)
  have hwr := Backward_raw (k + 58) (.slice (encCode code) code.length nl cap)
  have hwa := Backward_ans (k + 58) (.slice (encCode code) code.length nl cap)
  have hw : IntKind.wrap .i64 ((code.length : Int) - 1) = (code.length : Int) - 1 := by rw [wrap64 (by omega) (by omega)]
  simp only [run, aP, ii, sC, sI, bb, hr] at hbk hba hrt hrt0
  rw [run, ev46, ans_trim]
  simp only [Try.f46, aP, ii, bb, q1, q2, q3, q4, hrt0, encB_rep, EVb, EVc, Int.reduceEq, Int.reduceToNat, Int.reduceLE, Int.reduceLT, Int.reduceAdd, Int.reduceMul, Int.reduceSub, Int.reduceNeg, Nat.reduceAdd, Nat.reduceSub, Nat.reduceMul, Nat.reduceLT, Nat.reduceBEq, Nat.reduceEqDiff, Nat.reduceLeDiff, FACTS, TYPES]
  rw [evalCode_loopB LB46_6 lp46_6]; rotate_left; rfl; rfl; rfl
  generalize hz : loopR _ _ _ _ _ _ _ _ _ _ _ _ = z
  obtain rfl := loop_Needed_6 (k + 60) _ _ _ n outs nl2 cap2 (by omega) hout (List.replicate n false) (by simp) _ _ _ z hz (by omega) (by rfl) (by rfl) (by rfl) (by rfl) (by rfl) (by rfl) (by rfl)
  clear hz
  simp only [q3, q4, encB_rep, hba, hbk, EVb, EVc, Int.reduceEq, Int.reduceToNat, Int.reduceLE, Int.reduceLT, Int.reduceAdd, Int.reduceMul, Int.reduceSub, Int.reduceNeg, Nat.reduceAdd, Nat.reduceSub, Nat.reduceMul, Nat.reduceLT, Nat.reduceBEq, Nat.reduceEqDiff, Nat.reduceLeDiff, FACTS, TYPES]
  rw [evalCode_rf RA46_11 RB46_11]; rotate_left; rfl; rfl
  simp only [q3, q4, hba, hbk, ev110, Try.f110, hrt, hwa, hwr, EVb, EVc, Int.reduceEq, Int.reduceToNat, Int.reduceLE, Int.reduceLT, Int.reduceAdd, Int.reduceMul, Int.reduceSub, Int.reduceNeg, Nat.reduceAdd, Nat.reduceSub, Nat.reduceMul, Nat.reduceLT, Nat.reduceBEq, Nat.reduceEqDiff, Nat.reduceLeDiff, FACTS, TYPES]
  rw [evalCode_rf RA110_3 RB110_3]; rotate_left; rfl; rfl
  simp only [ev128, Try.f128, hw, EVb, EVc, Int.reduceEq, Int.reduceToNat, Int.reduceLE, Int.reduceLT, Int.reduceAdd, Int.reduceMul, Int.reduceSub, Int.reduceNeg, Nat.reduceAdd, Nat.reduceSub, Nat.reduceMul, Nat.reduceLT, Nat.reduceBEq, Nat.reduceEqDiff, Nat.reduceLeDiff, FACTS, TYPES]
  rw [evalCode_loopB LB128_1 lp128_1]; rotate_left; rfl; rfl; rfl
  generalize hz : loopR _ _ _ _ _ _ _ _ _ _ _ _ = z
  obtain ⟨l', rfl⟩ := loop_Needed_B (k + 48) (.int .i64 ins) (.int .i64 n) (.slice (encCode code) code.length nl cap) (.slice (encInts outs) outs.length nl2 cap2) n code nl cap _ _ (by rfl) (by rfl) (by rfl) (by rfl) (by rfl)
    (asked0 n outs) (by simp [asked0, mark_length]) hcode (by omega) _ _ z hz (by omega) (by rfl) (by rfl) (by rfl)
  have hfl : (encB (needL (asked0 n outs) code).2).length = code.length := by rw [encB_length, (needL_length _ _).2]
  have htk : (encB (needL (asked0 n outs) code).2).take code.length = encB (needL (asked0 n outs) code).2 := by rw [← hfl, List.take_length]
  have hnm : neededM ⟨ins, n, code, outs⟩ = (needL (asked0 n outs) code).2 := rfl
  simp only [EVb, EVc, Int.reduceEq, Int.reduceToNat, Int.reduceLE, Int.reduceLT, Int.reduceAdd, Int.reduceMul, Int.reduceSub, Int.reduceNeg, Nat.reduceAdd, Nat.reduceSub, Nat.reduceMul, Nat.reduceLT, Nat.reduceBEq, Nat.reduceEqDiff, Nat.reduceLeDiff, FACTS, TYPES]
  rw [hnm]
  simp only [hfl, htk, encB_length, Nat.le_refl, sB, (needL_length _ _).2, EVb, EVc, Int.reduceEq, Int.reduceToNat, Int.reduceLE, Int.reduceLT, Int.reduceAdd, Int.reduceMul, Int.reduceSub, Int.reduceNeg, Nat.reduceAdd, Nat.reduceSub, Nat.reduceMul, Nat.reduceLT, Nat.reduceBEq, Nat.reduceEqDiff, Nat.reduceLeDiff, FACTS, TYPES]
theorem Asked_bad (k : Nat) (p : Pg) (nl : Bool) (cap : Option Nat) (nl2 : Bool) (cap2 : Option Nat) (hk : p.outs.length + p.code.length + 100 ≤ k) (hr : rightM p = false) :
    run (k+1) 31 [aP p nl cap nl2 cap2] = some (.tup [.c (.slice [] 0 true (some 0)), ii 80]) := by
  have hrt := deadPass_bad (k - 1) p nl cap nl2 cap2 (by omega) hr
  rw [show k - 1 + 1 = k by omega] at hrt
  simp only [run, aP, ii, sC, sI, bb] at hrt
  rw [run, ev31, ans_trim]
  simp only [Try.f31, aP, ii, bb, hrt, EVb, EVc, Int.reduceEq, Int.reduceToNat, Int.reduceLE, Int.reduceLT, Int.reduceAdd, Int.reduceMul, Int.reduceSub, Int.reduceNeg, Nat.reduceAdd, Nat.reduceSub, Nat.reduceMul, Nat.reduceLT, Nat.reduceBEq, Nat.reduceEqDiff, Nat.reduceLeDiff, FACTS, TYPES]
theorem Asked_ev (k n : Nat) (ins : Int) (code0 : List Ins) (outs : List Int) (nl0 : Bool) (cap0 cap2 : Option Nat) (hk : outs.length + code0.length + 200 ≤ k) (hr0 : rightM ⟨ins, n, code0, outs⟩ = true) :
    run (k+1) 31 [aP ⟨ins, n, code0, outs⟩ nl0 cap0 false cap2] = some (.tup [sB (askedM (deadP ⟨ins, n, code0, outs⟩)) false none, ii 0]) := by
  obtain ⟨k, rfl⟩ : ∃ j, k = j + 60 := ⟨k - 60, by omega⟩
  have hps := deadPass_ev (k + 59) n ins code0 outs nl0 cap0 cap2 (by omega) hr0
  have hr := deadP_right hr0
  obtain ⟨code, hcd⟩ : ∃ code, code = keepL code0 (neededM ⟨ins, n, code0, outs⟩) := ⟨_, rfl⟩
  have hdp : deadP ⟨ins, n, code0, outs⟩ = ⟨ins, n, code, outs⟩ := by rw [hcd]; rfl
  rw [hdp] at hr hps ⊢
  have hcl : code.length ≤ code0.length := by rw [hcd]; exact keepL_len _ _
  have hr' := hr
  simp only [rightM, headM, Bool.and_eq_true, decide_eq_true_eq] at hr'
  obtain ⟨⟨hh, ho⟩, hc⟩ := hr'
  have q1 : (0 : Int) ≤ n := by omega
  have q2 : n ≤ roomBytes := Nat.le_trans (show n ≤ 128 by omega) (by decide)
  have hout : ∀ r ∈ outs, 0 ≤ r ∧ r < (n : Int) := fun r h => by have := List.all_eq_true.1 ho r h; simpa using this
  have hcode : ∀ i ∈ code, mayM i n = true := fun i h => List.all_eq_true.1 hc i h
  obtain ⟨nl, hnl⟩ : ∃ nl, nl = nlE code := ⟨_, rfl⟩
  obtain ⟨cap, hcap⟩ : ∃ cap, cap = cpE code := ⟨_, rfl⟩
  simp only [← hnl, ← hcap] at hps
  have hbk := Back_raw (k + 59) (ii ins) (ii n) (sC code nl cap) (sI outs false none) rfl
  have hba := Back_ans (k + 59) (ii ins) (ii n) (sC code nl cap) (sI outs false none) rfl
  have hrt := right_ev (k + 58) ⟨ins, n, code, outs⟩ nl cap false none (by simp only; omega)
  have hwr := Backward_raw (k + 58) (.slice (encCode code) code.length nl cap)
  have hwa := Backward_ans (k + 58) (.slice (encCode code) code.length nl cap)
  have hw : IntKind.wrap .i64 ((code.length : Int) - 1) = (code.length : Int) - 1 := by rw [wrap64 (by omega) (by omega)]
  simp only [run, aP, ii, sC, sI, bb, hr] at hbk hba hrt hps
  rw [run, ev31, ans_trim]
  simp only [Try.f31, aP, ii, bb, q1, q2, hps, encB_rep, EVb, EVc, Int.reduceEq, Int.reduceToNat, Int.reduceLE, Int.reduceLT, Int.reduceAdd, Int.reduceMul, Int.reduceSub, Int.reduceNeg, Nat.reduceAdd, Nat.reduceSub, Nat.reduceMul, Nat.reduceLT, Nat.reduceBEq, Nat.reduceEqDiff, Nat.reduceLeDiff, FACTS, TYPES]
  rw [evalCode_loopB LB31_6 lp31_6]; rotate_left; rfl; rfl; rfl
  generalize hz : loopR _ _ _ _ _ _ _ _ _ _ _ _ = z
  obtain rfl := loop_Asked_6 (k + 60) _ _ n outs false none (by omega) hout (List.replicate n false) (by simp) _ _ _ z hz (by omega) (by rfl) (by rfl) (by rfl) (by rfl) (by rfl) (by rfl)
  clear hz
  simp only [hba, hbk, EVb, EVc, Int.reduceEq, Int.reduceToNat, Int.reduceLE, Int.reduceLT, Int.reduceAdd, Int.reduceMul, Int.reduceSub, Int.reduceNeg, Nat.reduceAdd, Nat.reduceSub, Nat.reduceMul, Nat.reduceLT, Nat.reduceBEq, Nat.reduceEqDiff, Nat.reduceLeDiff, FACTS, TYPES]
  rw [evalCode_rf RA31_11 RB31_11]; rotate_left; rfl; rfl
  simp only [hba, hbk, ev110, Try.f110, hrt, hwa, hwr, EVb, EVc, Int.reduceEq, Int.reduceToNat, Int.reduceLE, Int.reduceLT, Int.reduceAdd, Int.reduceMul, Int.reduceSub, Int.reduceNeg, Nat.reduceAdd, Nat.reduceSub, Nat.reduceMul, Nat.reduceLT, Nat.reduceBEq, Nat.reduceEqDiff, Nat.reduceLeDiff, FACTS, TYPES]
  rw [evalCode_rf RA110_3 RB110_3]; rotate_left; rfl; rfl
  simp only [ev128, Try.f128, hw, EVb, EVc, Int.reduceEq, Int.reduceToNat, Int.reduceLE, Int.reduceLT, Int.reduceAdd, Int.reduceMul, Int.reduceSub, Int.reduceNeg, Nat.reduceAdd, Nat.reduceSub, Nat.reduceMul, Nat.reduceLT, Nat.reduceBEq, Nat.reduceEqDiff, Nat.reduceLeDiff, FACTS, TYPES]
  rw [evalCode_loopB LB128_1 lp128_1]; rotate_left; rfl; rfl; rfl
  generalize hz : loopR _ _ _ _ _ _ _ _ _ _ _ _ = z
  obtain ⟨l', rfl⟩ := loop_Asked_B (k + 48) (.int .i64 ins) (.int .i64 n) (.slice (encCode code0) code0.length nl0 cap0) (.slice (encInts outs) outs.length false cap2) (.int .i64 ins) (.int .i64 n) (.slice (encCode code) code.length nl cap) (.slice (encInts outs) outs.length false none) n code nl cap _ _ (by rfl) (by rfl) (by rfl) (by rfl)
    (asked0 n outs) (by simp [asked0, mark_length]) hcode (by omega) _ _ z hz (by omega) (by rfl) (by rfl) (by rfl)
  have hal : (askL (asked0 n outs) code).length = n := by rw [askL_length]; simp [asked0, mark_length]
  have hfl : (encB (askL (asked0 n outs) code)).length = n := by rw [encB_length, hal]
  have htk : (encB (askL (asked0 n outs) code)).take n = encB (askL (asked0 n outs) code) := List.take_of_length_le (by omega)
  have hnm : askedM ⟨ins, n, code, outs⟩ = askL (asked0 n outs) code := rfl
  simp only [EVb, EVc, Int.reduceEq, Int.reduceToNat, Int.reduceLE, Int.reduceLT, Int.reduceAdd, Int.reduceMul, Int.reduceSub, Int.reduceNeg, Nat.reduceAdd, Nat.reduceSub, Nat.reduceMul, Nat.reduceLT, Nat.reduceBEq, Nat.reduceEqDiff, Nat.reduceLeDiff, FACTS, TYPES]
  rw [hnm]
  simp only [hfl, htk, encB_length, Nat.le_refl, sB, hal, EVb, EVc, Int.reduceEq, Int.reduceToNat, Int.reduceLE, Int.reduceLT, Int.reduceAdd, Int.reduceMul, Int.reduceSub, Int.reduceNeg, Nat.reduceAdd, Nat.reduceSub, Nat.reduceMul, Nat.reduceLT, Nat.reduceBEq, Nat.reduceEqDiff, Nat.reduceLeDiff, FACTS, TYPES]
end Go.Proofs.Sw
namespace Go.Proofs.Sw
set_option linter.unusedVariables false
set_option linter.unusedSimpArgs false
set_option linter.unusedSectionVars false
open Go.Ab
variable [Globals]
theorem eqBools_ev (k : Nat) (xs : List Bool) (nl nl2 : Bool) (cap cap2 : Option Nat) (hl : xs.length ≤ 1000000) (hk : xs.length + 2 ≤ k) : run (k+1) 32 [sB xs nl cap, sB xs nl2 cap2] = some (bb true) := by
  rw [run, ev32, ans_trim]
  simp only [Try.f32, bb, EVb, EVc, Int.reduceEq, Int.reduceToNat, Int.reduceLE, Int.reduceLT, Int.reduceAdd, Int.reduceMul, Int.reduceSub, Int.reduceNeg, Nat.reduceAdd, Nat.reduceSub, Nat.reduceMul, Nat.reduceLT, Nat.reduceBEq, Nat.reduceEqDiff, Nat.reduceLeDiff, FACTS, TYPES]
  rw [evalCode_loopB LB32_4 lp32_4]; rotate_left; rfl; rfl; rfl
  generalize hz : loopR _ _ _ _ _ _ _ _ _ _ _ _ = z
  have h : ∃ l' H', z = some (.exit 0 (fr 26 l') H') := by
    subst hz
    refine loop_nat xs.length (fun k' l H => loopR Try.prog tab k none LB32_4 32 26 [0, 1, 12, 13] 0 k' l H)
      (fun i l H => asc l 0 = sB xs nl cap ∧ asc l 1 = sB xs nl2 cap2 ∧ asc l 12 = ii xs.length ∧ asc l 13 = ii i)
      (fun z => ∃ l' H', z = some (.exit 0 (fr 26 l') H')) ?_ xs.length 0 k _ _ (by omega) (by omega) ⟨(by rfl), (by rfl), (by rfl), (by rfl)⟩
    rintro i k' l H hi ⟨a0, a1, a12, a13⟩
    by_cases hc : i < xs.length
    · refine .inr ?_
      have hi0 : (0 : Int) ≤ i := by omega
      have hi1 : (i : Int) < xs.length := by omega
      have hx := encB_getN hc
      have hw := wrap_succ hc (by omega)
      simp only [a0, a1, a12, a13, hi0, hi1, hx, hw, loopR_succ, loopOf, findLoop, firstRegion, Option.some_or, Option.none_or, Option.getD_some, Option.some.injEq, Try.f32, EVb, EVc, Int.reduceEq, Int.reduceToNat, Int.reduceLE, Int.reduceLT, Int.reduceAdd, Int.reduceMul, Int.reduceSub, Int.reduceNeg, Nat.reduceAdd, Nat.reduceSub, Nat.reduceMul, Nat.reduceLT, Nat.reduceBEq, Nat.reduceEqDiff, Nat.reduceLeDiff, FACTS, TYPES]
      rw [evalCode_drawn Try.f32 6 dr32_6]; rotate_left; rfl
      simp only [a0, a1, a12, a13, hi0, hi1, hx, hw, EVd, Nat.reducePow, Nat.reduceDiv, Nat.reduceMod, loopR_succ, loopOf, findLoop, firstRegion, Option.some_or, Option.none_or, Option.getD_some, Option.some.injEq, Try.f32, EVb, EVc, Int.reduceEq, Int.reduceToNat, Int.reduceLE, Int.reduceLT, Int.reduceAdd, Int.reduceMul, Int.reduceSub, Int.reduceNeg, Nat.reduceAdd, Nat.reduceSub, Nat.reduceMul, Nat.reduceLT, Nat.reduceBEq, Nat.reduceEqDiff, Nat.reduceLeDiff, FACTS, TYPES]
      exact ⟨_, _, hc, rfl, (by rfl), (by rfl), (by rfl), (by rfl)⟩
    · refine .inl ?_
      have hc' : ¬ ((i : Int) < xs.length) := by omega
      simp only [a0, a1, a12, a13, hc', loopR_succ, loopOf, findLoop, firstRegion, Option.some_or, Option.none_or, Option.getD_some, Option.some.injEq, Try.f32, EVb, EVc, Int.reduceEq, Int.reduceToNat, Int.reduceLE, Int.reduceLT, Int.reduceAdd, Int.reduceMul, Int.reduceSub, Int.reduceNeg, Nat.reduceAdd, Nat.reduceSub, Nat.reduceMul, Nat.reduceLT, Nat.reduceBEq, Nat.reduceEqDiff, Nat.reduceLeDiff, FACTS, TYPES]
      exact ⟨_, _, rfl⟩
  obtain ⟨l', H', rfl⟩ := h
  simp only [EVb, EVc, Int.reduceEq, Int.reduceToNat, Int.reduceLE, Int.reduceLT, Int.reduceAdd, Int.reduceMul, Int.reduceSub, Int.reduceNeg, Nat.reduceAdd, Nat.reduceSub, Nat.reduceMul, Nat.reduceLT, Nat.reduceBEq, Nat.reduceEqDiff, Nat.reduceLeDiff, FACTS, TYPES]
theorem eqInts_ev (k : Nat) (xs : List Int) (nl nl2 : Bool) (cap cap2 : Option Nat) (hl : xs.length ≤ 1000000) (hk : xs.length + 2 ≤ k) : run (k+1) 39 [sI xs nl cap, sI xs nl2 cap2] = some (bb true) := by
  rw [run, ev39, ans_trim]
  simp only [Try.f39, bb, EVb, EVc, Int.reduceEq, Int.reduceToNat, Int.reduceLE, Int.reduceLT, Int.reduceAdd, Int.reduceMul, Int.reduceSub, Int.reduceNeg, Nat.reduceAdd, Nat.reduceSub, Nat.reduceMul, Nat.reduceLT, Nat.reduceBEq, Nat.reduceEqDiff, Nat.reduceLeDiff, FACTS, TYPES]
  rw [evalCode_loopB LB39_4 lp39_4]; rotate_left; rfl; rfl; rfl
  generalize hz : loopR _ _ _ _ _ _ _ _ _ _ _ _ = z
  have h : ∃ l' H', z = some (.exit 0 (fr 26 l') H') := by
    subst hz
    refine loop_nat xs.length (fun k' l H => loopR Try.prog tab k none LB39_4 39 26 [0, 1, 12, 13] 0 k' l H)
      (fun i l H => asc l 0 = sI xs nl cap ∧ asc l 1 = sI xs nl2 cap2 ∧ asc l 12 = ii xs.length ∧ asc l 13 = ii i)
      (fun z => ∃ l' H', z = some (.exit 0 (fr 26 l') H')) ?_ xs.length 0 k _ _ (by omega) (by omega) ⟨(by rfl), (by rfl), (by rfl), (by rfl)⟩
    rintro i k' l H hi ⟨a0, a1, a12, a13⟩
    by_cases hc : i < xs.length
    · refine .inr ?_
      have hi0 : (0 : Int) ≤ i := by omega
      have hi1 : (i : Int) < xs.length := by omega
      have hx := encInts_get hc
      have hw := wrap_succ hc (by omega)
      simp only [a0, a1, a12, a13, hi0, hi1, hx, hw, loopR_succ, loopOf, findLoop, firstRegion, Option.some_or, Option.none_or, Option.getD_some, Option.some.injEq, Try.f39, EVb, EVc, Int.reduceEq, Int.reduceToNat, Int.reduceLE, Int.reduceLT, Int.reduceAdd, Int.reduceMul, Int.reduceSub, Int.reduceNeg, Nat.reduceAdd, Nat.reduceSub, Nat.reduceMul, Nat.reduceLT, Nat.reduceBEq, Nat.reduceEqDiff, Nat.reduceLeDiff, FACTS, TYPES]
      rw [evalCode_drawn Try.f39 6 dr39_6]; rotate_left; rfl
      simp only [a0, a1, a12, a13, hi0, hi1, hx, hw, EVd, Nat.reducePow, Nat.reduceDiv, Nat.reduceMod, loopR_succ, loopOf, findLoop, firstRegion, Option.some_or, Option.none_or, Option.getD_some, Option.some.injEq, Try.f39, EVb, EVc, Int.reduceEq, Int.reduceToNat, Int.reduceLE, Int.reduceLT, Int.reduceAdd, Int.reduceMul, Int.reduceSub, Int.reduceNeg, Nat.reduceAdd, Nat.reduceSub, Nat.reduceMul, Nat.reduceLT, Nat.reduceBEq, Nat.reduceEqDiff, Nat.reduceLeDiff, FACTS, TYPES]
      exact ⟨_, _, hc, rfl, (by rfl), (by rfl), (by rfl), (by rfl)⟩
    · refine .inl ?_
      have hc' : ¬ ((i : Int) < xs.length) := by omega
      simp only [a0, a1, a12, a13, hc', loopR_succ, loopOf, findLoop, firstRegion, Option.some_or, Option.none_or, Option.getD_some, Option.some.injEq, Try.f39, EVb, EVc, Int.reduceEq, Int.reduceToNat, Int.reduceLE, Int.reduceLT, Int.reduceAdd, Int.reduceMul, Int.reduceSub, Int.reduceNeg, Nat.reduceAdd, Nat.reduceSub, Nat.reduceMul, Nat.reduceLT, Nat.reduceBEq, Nat.reduceEqDiff, Nat.reduceLeDiff, FACTS, TYPES]
      exact ⟨_, _, rfl⟩
  obtain ⟨l', H', rfl⟩ := h
  simp only [EVb, EVc, Int.reduceEq, Int.reduceToNat, Int.reduceLE, Int.reduceLT, Int.reduceAdd, Int.reduceMul, Int.reduceSub, Int.reduceNeg, Nat.reduceAdd, Nat.reduceSub, Nat.reduceMul, Nat.reduceLT, Nat.reduceBEq, Nat.reduceEqDiff, Nat.reduceLeDiff, FACTS, TYPES]
theorem eqInstrs_ev (k : Nat) (xs : List Ins) (nl nl2 : Bool) (cap cap2 : Option Nat) (hl : xs.length ≤ 1000000) (hk : xs.length + 2 ≤ k) : run (k+1) 87 [sC xs nl cap, sC xs nl2 cap2] = some (bb true) := by
  rw [run, ev87, ans_trim]
  simp only [Try.f87, bb, EVb, EVc, Int.reduceEq, Int.reduceToNat, Int.reduceLE, Int.reduceLT, Int.reduceAdd, Int.reduceMul, Int.reduceSub, Int.reduceNeg, Nat.reduceAdd, Nat.reduceSub, Nat.reduceMul, Nat.reduceLT, Nat.reduceBEq, Nat.reduceEqDiff, Nat.reduceLeDiff, FACTS, TYPES]
  rw [evalCode_loopB LB87_4 lp87_4]; rotate_left; rfl; rfl; rfl
  generalize hz : loopR _ _ _ _ _ _ _ _ _ _ _ _ = z
  have h : ∃ l' H', z = some (.exit 0 (fr 26 l') H') := by
    subst hz
    refine loop_nat xs.length (fun k' l H => loopR Try.prog tab k none LB87_4 87 26 [0, 1, 12, 13] 0 k' l H)
      (fun i l H => asc l 0 = sC xs nl cap ∧ asc l 1 = sC xs nl2 cap2 ∧ asc l 12 = ii xs.length ∧ asc l 13 = ii i)
      (fun z => ∃ l' H', z = some (.exit 0 (fr 26 l') H')) ?_ xs.length 0 k _ _ (by omega) (by omega) ⟨(by rfl), (by rfl), (by rfl), (by rfl)⟩
    rintro i k' l H hi ⟨a0, a1, a12, a13⟩
    by_cases hc : i < xs.length
    · refine .inr ?_
      have hi0 : (0 : Int) ≤ i := by omega
      have hi1 : (i : Int) < xs.length := by omega
      have hx := encCode_get hc
      have hw := wrap_succ hc (by omega)
      simp only [a0, a1, a12, a13, hi0, hi1, hx, hw, loopR_succ, loopOf, findLoop, firstRegion, Option.some_or, Option.none_or, Option.getD_some, Option.some.injEq, Try.f87, EVb, EVc, Int.reduceEq, Int.reduceToNat, Int.reduceLE, Int.reduceLT, Int.reduceAdd, Int.reduceMul, Int.reduceSub, Int.reduceNeg, Nat.reduceAdd, Nat.reduceSub, Nat.reduceMul, Nat.reduceLT, Nat.reduceBEq, Nat.reduceEqDiff, Nat.reduceLeDiff, FACTS, TYPES]
      rw [evalCode_drawn Try.f87 6 dr87_6]; rotate_left; rfl
      simp only [a0, a1, a12, a13, hi0, hi1, hx, hw, EVd, Nat.reducePow, Nat.reduceDiv, Nat.reduceMod, loopR_succ, loopOf, findLoop, firstRegion, Option.some_or, Option.none_or, Option.getD_some, Option.some.injEq, Try.f87, EVb, EVc, Int.reduceEq, Int.reduceToNat, Int.reduceLE, Int.reduceLT, Int.reduceAdd, Int.reduceMul, Int.reduceSub, Int.reduceNeg, Nat.reduceAdd, Nat.reduceSub, Nat.reduceMul, Nat.reduceLT, Nat.reduceBEq, Nat.reduceEqDiff, Nat.reduceLeDiff, FACTS, TYPES]
      exact ⟨_, _, hc, rfl, (by rfl), (by rfl), (by rfl), (by rfl)⟩
    · refine .inl ?_
      have hc' : ¬ ((i : Int) < xs.length) := by omega
      simp only [a0, a1, a12, a13, hc', loopR_succ, loopOf, findLoop, firstRegion, Option.some_or, Option.none_or, Option.getD_some, Option.some.injEq, Try.f87, EVb, EVc, Int.reduceEq, Int.reduceToNat, Int.reduceLE, Int.reduceLT, Int.reduceAdd, Int.reduceMul, Int.reduceSub, Int.reduceNeg, Nat.reduceAdd, Nat.reduceSub, Nat.reduceMul, Nat.reduceLT, Nat.reduceBEq, Nat.reduceEqDiff, Nat.reduceLeDiff, FACTS, TYPES]
      exact ⟨_, _, rfl⟩
  obtain ⟨l', H', rfl⟩ := h
  simp only [EVb, EVc, Int.reduceEq, Int.reduceToNat, Int.reduceLE, Int.reduceLT, Int.reduceAdd, Int.reduceMul, Int.reduceSub, Int.reduceNeg, Nat.reduceAdd, Nat.reduceSub, Nat.reduceMul, Nat.reduceLT, Nat.reduceBEq, Nat.reduceEqDiff, Nat.reduceLeDiff, FACTS, TYPES]
theorem long_ev (k : Nat) (p : Pg) (nl : Bool) (cap : Option Nat) (nl2 : Bool) (cap2 : Option Nat) : run (k+1) 34 [aP p nl cap nl2 cap2] = some (bb (decide (300 < p.code.length ∧ p.code.length ≤ 16384))) := by
  rw [run, ev34, ans_trim]
  simp only [Try.f34, aP, ii, bb, EVb, EVc, Int.reduceEq, Int.reduceToNat, Int.reduceLE, Int.reduceLT, Int.reduceAdd, Int.reduceMul, Int.reduceSub, Int.reduceNeg, Nat.reduceAdd, Nat.reduceSub, Nat.reduceMul, Nat.reduceLT, Nat.reduceBEq, Nat.reduceEqDiff, Nat.reduceLeDiff, FACTS, TYPES]
  repeat' (first
    | (rw [condO_dec]; split <;> simp only [*, EVb, EVc, Int.reduceEq, Int.reduceToNat, Int.reduceLE, Int.reduceLT, Int.reduceAdd, Int.reduceMul, Int.reduceSub, Int.reduceNeg, Nat.reduceAdd, Nat.reduceSub, Nat.reduceMul, Nat.reduceLT, Nat.reduceBEq, Nat.reduceEqDiff, Nat.reduceLeDiff, FACTS, TYPES])
    | (rw [condO_ite]; split <;> simp only [*, EVb, EVc, Int.reduceEq, Int.reduceToNat, Int.reduceLE, Int.reduceLT, Int.reduceAdd, Int.reduceMul, Int.reduceSub, Int.reduceNeg, Nat.reduceAdd, Nat.reduceSub, Nat.reduceMul, Nat.reduceLT, Nat.reduceBEq, Nat.reduceEqDiff, Nat.reduceLeDiff, FACTS, TYPES])
    | (split <;> simp only [*, EVb, EVc, Int.reduceEq, Int.reduceToNat, Int.reduceLE, Int.reduceLT, Int.reduceAdd, Int.reduceMul, Int.reduceSub, Int.reduceNeg, Nat.reduceAdd, Nat.reduceSub, Nat.reduceMul, Nat.reduceLT, Nat.reduceBEq, Nat.reduceEqDiff, Nat.reduceLeDiff, FACTS, TYPES]))
  all_goals (simp only [Option.some.injEq, AV.c.injEq, IV.bool.injEq]; rw [Bool.eq_iff_iff]; simp; omega)
theorem same_ev (k : Nat) (p : Pg) (a1 a2 b1 b2 : Bool) (c1 c2 d1 d2 : Option Nat) (hl : p.code.length ≤ 1000000) (hl2 : p.outs.length ≤ 1000000) (hk : p.code.length + p.outs.length + 10 ≤ k) :
    run (k+1) 48 [aP p a1 c1 a2 c2, aP p b1 d1 b2 d2] = some (bb true) := by
  obtain ⟨k, rfl⟩ : ∃ j, k = j + 1 := ⟨k - 1, by omega⟩
  have h1 := eqInstrs_ev k p.code a1 b1 c1 d1 hl (by omega)
  have h2 := eqInts_ev k p.outs a2 b2 c2 d2 hl2 (by omega)
  simp only [run, sC, sI, bb] at h1 h2
  rw [run, ev48, ans_trim]
  simp only [Try.f48, aP, ii, bb, h1, h2, EVb, EVc, Int.reduceEq, Int.reduceToNat, Int.reduceLE, Int.reduceLT, Int.reduceAdd, Int.reduceMul, Int.reduceSub, Int.reduceNeg, Nat.reduceAdd, Nat.reduceSub, Nat.reduceMul, Nat.reduceLT, Nat.reduceBEq, Nat.reduceEqDiff, Nat.reduceLeDiff, FACTS, TYPES]
theorem index_ev (k m : Nat) (nl : Bool) (cap : Option Nat) (hl : m ≤ 1000000) (hk : m + 2 ≤ k) : run (k+1) 86 [sB (List.replicate m true) nl cap, bb false] = some (ii (-1)) := by
  rw [run, ev86, ans_trim]
  simp only [Try.f86, bb, ii, EVb, EVc, Int.reduceEq, Int.reduceToNat, Int.reduceLE, Int.reduceLT, Int.reduceAdd, Int.reduceMul, Int.reduceSub, Int.reduceNeg, Nat.reduceAdd, Nat.reduceSub, Nat.reduceMul, Nat.reduceLT, Nat.reduceBEq, Nat.reduceEqDiff, Nat.reduceLeDiff, FACTS, TYPES]
  rw [evalCode_loopB LB86_2 lp86_2]; rotate_left; rfl; rfl; rfl
  generalize hz : loopR _ _ _ _ _ _ _ _ _ _ _ _ = z
  have h : ∃ l' H', z = some (.exit 0 (fr 19 l') H') := by
    subst hz
    have hml : (List.replicate m true).length = m := by simp
    refine loop_nat m (fun k' l H => loopR Try.prog tab k none LB86_2 86 19 [0, 1, 7, 8] 0 k' l H)
      (fun i l H => asc l 0 = sB (List.replicate m true) nl cap ∧ asc l 1 = bb false ∧ asc l 7 = ii m ∧ asc l 8 = ii i)
      (fun z => ∃ l' H', z = some (.exit 0 (fr 19 l') H')) ?_ m 0 k _ _ (by omega) (by omega) ⟨(by rfl), (by rfl), (by simp only [EVb, EVc, Int.reduceEq, Int.reduceToNat, Int.reduceLE, Int.reduceLT, Int.reduceAdd, Int.reduceMul, Int.reduceSub, Int.reduceNeg, Nat.reduceAdd, Nat.reduceSub, Nat.reduceMul, Nat.reduceLT, Nat.reduceBEq, Nat.reduceEqDiff, Nat.reduceLeDiff]; rw [hml]), (by rfl)⟩
    rintro i k' l H hi ⟨a0, a1, a7, a8⟩
    by_cases hc : i < m
    · refine .inr ?_
      have hi0 : (0 : Int) ≤ i := by omega
      have hi1 : (i : Int) < m := by omega
      have hx := encB_getN (l := List.replicate m true) (i := i) (by simpa using hc)
      rw [List.getElem_replicate] at hx
      have hw := wrap_succ hc (by omega)
      simp only [a0, a1, a7, a8, hi0, hi1, hx, hw, List.length_replicate, loopR_succ, loopOf, findLoop, firstRegion, Option.some_or, Option.none_or, Option.getD_some, Option.some.injEq, Try.f86, EVb, EVc, Int.reduceEq, Int.reduceToNat, Int.reduceLE, Int.reduceLT, Int.reduceAdd, Int.reduceMul, Int.reduceSub, Int.reduceNeg, Nat.reduceAdd, Nat.reduceSub, Nat.reduceMul, Nat.reduceLT, Nat.reduceBEq, Nat.reduceEqDiff, Nat.reduceLeDiff, FACTS, TYPES]
      exact ⟨_, _, hc, rfl, (by rfl), (by rfl), (by rfl), (by rfl)⟩
    · refine .inl ?_
      have hc' : ¬ ((i : Int) < m) := by omega
      simp only [a0, a1, a7, a8, hc', loopR_succ, loopOf, findLoop, firstRegion, Option.some_or, Option.none_or, Option.getD_some, Option.some.injEq, Try.f86, EVb, EVc, Int.reduceEq, Int.reduceToNat, Int.reduceLE, Int.reduceLT, Int.reduceAdd, Int.reduceMul, Int.reduceSub, Int.reduceNeg, Nat.reduceAdd, Nat.reduceSub, Nat.reduceMul, Nat.reduceLT, Nat.reduceBEq, Nat.reduceEqDiff, Nat.reduceLeDiff, FACTS, TYPES]
      exact ⟨_, _, rfl⟩
  obtain ⟨l', H', rfl⟩ := h
  simp only [EVb, EVc, Int.reduceEq, Int.reduceToNat, Int.reduceLE, Int.reduceLT, Int.reduceAdd, Int.reduceMul, Int.reduceSub, Int.reduceNeg, Nat.reduceAdd, Nat.reduceSub, Nat.reduceMul, Nat.reduceLT, Nat.reduceBEq, Nat.reduceEqDiff, Nat.reduceLeDiff, FACTS, TYPES]
theorem has_ev (k m : Nat) (nl : Bool) (cap : Option Nat) (hl : m ≤ 1000000) (hk : m + 3 ≤ k) : run (k+1) 47 [sB (List.replicate m true) nl cap, bb false] = some (bb false) := by
  obtain ⟨k, rfl⟩ : ∃ j, k = j + 1 := ⟨k - 1, by omega⟩
  have h := index_ev k m nl cap hl (by omega)
  simp only [run, sB, bb, ii] at h
  rw [run, ev47, ans_trim]
  simp only [Try.f47, bb, sB, h, EVb, EVc, Int.reduceEq, Int.reduceToNat, Int.reduceLE, Int.reduceLT, Int.reduceAdd, Int.reduceMul, Int.reduceSub, Int.reduceNeg, Nat.reduceAdd, Nat.reduceSub, Nat.reduceMul, Nat.reduceLT, Nat.reduceBEq, Nat.reduceEqDiff, Nat.reduceLeDiff, FACTS, TYPES]
end Go.Proofs.Sw
namespace Go.Proofs.Sw
set_option linter.unusedVariables false
set_option linter.unusedSimpArgs false
set_option linter.unusedSectionVars false
open Go.Ab
variable [Globals]
/-! ### the plain law -/
theorem mark_getD (b : Bool) : ∀ (rs : List Int) (l : List Bool) (j : Nat), j < l.length → (mark l b rs).getD j false = if (rs.any fun r => r.toNat == j) = true then b else l.getD j false
  | [], l, j, _ => by simp [mark]
  | r :: rs, l, j, h => by
    rw [mark, mark_getD b rs _ j (by simpa using h)]
    by_cases hr : r.toNat = j
    · subst hr
      simp [h]
    · simp only [List.any_cons, beq_iff_eq, hr, decide_false, Bool.false_or, show (r.toNat == j) = false by simpa using hr]
      split
      · rfl
      · simp [List.getElem?_set_ne hr]
theorem set_self {l : List Bool} {j : Nat} (h : l.getD j false = true) : l.set j true = l := by
  by_cases hj : j < l.length
  · apply List.ext_getElem?
    intro i
    rw [List.getElem?_set]
    split
    · rename_i e; subst e
      simp [hj] at h ⊢
      try rw [h]
    · rfl
  · rw [List.set_eq_of_length_le (by omega)]
/-- An instruction that does nothing asks what it sets. -/
theorem nothing_mark {l : List Bool} {i : Ins} (hn : nothing i = true) (h : l.getD i.to.toNat false = true) : mark (l.set i.to.toNat false) true (asks i) = l := by
  simp only [nothing, decide_eq_true_eq] at hn
  have ha : asks i = [i.a] := asks_one (by omega) (by omega)
  rw [ha]
  simp only [mark]
  rw [← hn.2, List.set_set]
  exact set_self h
theorem needL_keep (base : List Bool) : ∀ code : List Ins, needL base (keepL code (needL base code).2) = ((needL base code).1, List.replicate (keepL code (needL base code).2).length true)
  | [] => rfl
  | i :: rest => by
    have ih := needL_keep base rest
    by_cases hq : (needL base rest).1.getD i.to.toNat false = true
    · have e : needL base (i :: rest) = (mark ((needL base rest).1.set i.to.toNat false) true (asks i), true :: (needL base rest).2) := by simp only [needL]; rw [if_pos hq]
      rw [e]
      by_cases hn : nothing i = true
      · have hk : keepL (i :: rest) (true :: (needL base rest).2) = keepL rest (needL base rest).2 := by simp [keepL, hn]
        rw [hk, ih, nothing_mark hn hq]
      · have hk : keepL (i :: rest) (true :: (needL base rest).2) = i :: keepL rest (needL base rest).2 := by simp [keepL, hn]
        rw [hk, needL, ih]
        simp only [hq, if_true, List.length_cons, List.replicate_succ]
    · have e : needL base (i :: rest) = ((needL base rest).1, false :: (needL base rest).2) := by simp only [needL]; rw [if_neg hq]
      have hk : keepL (i :: rest) (false :: (needL base rest).2) = keepL rest (needL base rest).2 := by simp [keepL]
      rw [e, hk, ih]
theorem needed_keep (p : Pg) : neededM (deadP p) = List.replicate (deadP p).code.length true := by
  have := needL_keep (asked0 p.regs.toNat p.outs) p.code
  unfold neededM deadP neededM
  rw [this]
theorem keepL_all : ∀ (code : List Ins), (∀ i ∈ code, nothing i = false) → keepL code (List.replicate code.length true) = code
  | [], _ => rfl
  | i :: rest, h => by
    rw [List.length_cons, List.replicate_succ]
    simp only [keepL, h i (by simp), Bool.not_false, Bool.and_self, if_true]
    rw [keepL_all rest fun j hj => h j (by simp [hj])]
theorem keepL_not : ∀ (c : List Ins) (fl : List Bool), ∀ x ∈ keepL c fl, nothing x = false
  | [], _, x, h => by simp [keepL] at h
  | i :: c, [], x, h => by simp [keepL] at h
  | i :: c, f :: fl, x, h => by
    simp only [keepL] at h
    split at h
    · rename_i hc
      rcases List.mem_cons.1 h with rfl | h
      · simp at hc; exact hc.2
      · exact keepL_not c fl x h
    · exact keepL_not c fl x h
theorem deadP_idem (p : Pg) : deadP (deadP p) = deadP p := by
  have h := needed_keep p
  have h2 := keepL_all (deadP p).code (keepL_not p.code (neededM p))
  show Pg.mk p.ins p.regs (keepL (deadP p).code (neededM (deadP p))) p.outs = deadP p
  rw [h, h2]
  rfl
end Go.Proofs.Sw
