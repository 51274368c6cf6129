/- A part of the proof: what functions of the program answer, of whatever arguments, reckoned with letters by the interpreter's equations. Its conditions stand in each theorem. -/
import Derived.Test.YtefdgfdahmaciaaS15I
namespace Go.Proofs.Sw
set_option linter.unusedVariables false
set_option linter.unusedSimpArgs false
set_option linter.unusedSectionVars false
open Go.Ab
variable [Globals]
/-- Marking what is asked, in a row at place 1. -/
theorem loop_Needed_6 (kf : Nat) (pc r1 c1 : AObj) (n : Nat) (outs : List Int) (nl : Bool) (cap : Option Nat) (hlen : outs.length ≤ 4611686018427387904) (hr : ∀ r ∈ outs, 0 ≤ r ∧ r < n) (as0 : List Bool) (ha0 : as0.length = n)
    (k : Nat) (l : Ass) (H : Heap) (z : Option Out) (hz : loopR Try.prog tab kf none LB46_6 46 62 [1, 4, 5, 23, 24, 25] 5 k l H = z) (hk : outs.length < k)
    (h1 : asc l 1 = .ptr 0 0) (h4 : asc l 4 = .ptr 2 0) (h5 : asc l 5 = .ptr 4 0) (h23 : asc l 23 = sI outs nl cap) (h24 : asc l 24 = ii outs.length) (h25 : asc l 25 = ii (0 : Nat)) (hH : H = [pc, r1, c1, rB as0, .cells 64 [.hsl 3 0 n n 1]]) :
    z = some (.exit 0 (fr 62 [(26, bb false), (1, .ptr 0 0), (4, .ptr 2 0), (5, .ptr 4 0), (23, sI outs nl cap), (24, ii outs.length), (25, ii outs.length)]) [pc, r1, c1, rB (mark as0 true outs), .cells 64 [.hsl 3 0 n n 1]]) := by
  subst hH
  subst hz
  refine loop_nat outs.length (fun k l H => loopR Try.prog tab kf none LB46_6 46 62 [1, 4, 5, 23, 24, 25] 5 k l H)
    (fun i l H => asc l 1 = .ptr 0 0 ∧ asc l 4 = .ptr 2 0 ∧ asc l 5 = .ptr 4 0 ∧ asc l 23 = sI outs nl cap ∧ asc l 24 = ii outs.length ∧ asc l 25 = ii i ∧ H = [pc, r1, c1, rB (mark as0 true (outs.take i)), .cells 64 [.hsl 3 0 n n 1]])
    (fun z => z = some (.exit 0 (fr 62 [(26, bb false), (1, .ptr 0 0), (4, .ptr 2 0), (5, .ptr 4 0), (23, sI outs nl cap), (24, ii outs.length), (25, ii outs.length)]) [pc, r1, c1, rB (mark as0 true outs), .cells 64 [.hsl 3 0 n n 1]])) ?_ outs.length 0 k l _ (by omega) hk ⟨h1, h4, h5, h23, h24, h25, rfl⟩
  clear h1 h4 h5 h23 h24 h25 hk
  rintro i k l H hi ⟨h1, h4, h5, h23, h24, h25, rfl⟩
  have ht : ∀ q : List Bool, trim 5 (fr 62 (keep l [1, 4, 5, 23, 24, 25])) [pc, r1, c1, rB q, .cells 64 [.hsl 3 0 n n 1]] = [pc, r1, c1, rB q, .cells 64 [.hsl 3 0 n n 1]] := fun q => trim_same rfl
  by_cases hc : i < outs.length
  · refine .inr ?_
    have hc' : ((i : Int) < outs.length) := by omega
    have hc0 : (0 : Int) ≤ i := by omega
    have hx := encInts_get hc
    have hw := wrap_succ hc hlen
    obtain ⟨x, hX⟩ : ∃ x, x = outs[i] := ⟨_, rfl⟩
    rw [← hX] at hx
    obtain ⟨x0, x1⟩ := hr x (by rw [hX]; exact List.getElem_mem hc)
    have hm : (mark as0 true (outs.take i)).length = n := by rw [mark_length]; exact ha0
    have hnx : mark as0 true (outs.take (i + 1)) = (mark as0 true (outs.take i)).set x.toNat true := by rw [List.take_succ_eq_append_getElem hc, mark_snoc, ← hX]
    have hxl : x.toNat < n := by omega
    have hel : (encB (mark as0 true (outs.take i))).length = n := by rw [encB_length, hm]
    simp only [loopR_succ, ht]
    simp only [h1, h4, h5, h23, h24, h25, hc', hc0, hx, hw, x0, x1, hel, hxl, encB_set, loopR_succ, loopOf, findLoop, firstRegion, Option.some_or, Option.none_or, Option.getD_some, Option.some.injEq, Try.f46, EVb, EVc, Int.reduceEq, Int.reduceToNat, Int.reduceLE, Int.reduceLT, Int.reduceAdd, Int.reduceMul, Int.reduceSub, Int.reduceNeg, Nat.reduceAdd, Nat.reduceSub, Nat.reduceMul, Nat.reduceLT, Nat.reduceBEq, Nat.reduceEqDiff, Nat.reduceLeDiff, FACTS, TYPES]
    exact ⟨_, _, hc, rfl, (by rfl), (by rfl), (by rfl), (by rfl), (by rfl), (by rfl), by rw [hnx]⟩
  · refine .inl ?_
    have hc' : ¬ ((i : Int) < outs.length) := by omega
    have he : outs.take i = outs := List.take_of_length_le (by omega)
    obtain rfl : i = outs.length := by omega
    simp only [loopR_succ, ht]
    simp only [h1, h4, h5, h23, h24, h25, hc', he, loopR_succ, loopOf, findLoop, firstRegion, Option.some_or, Option.none_or, Option.getD_some, Option.some.injEq, Try.f46, EVb, EVc, Int.reduceEq, Int.reduceToNat, Int.reduceLE, Int.reduceLT, Int.reduceAdd, Int.reduceMul, Int.reduceSub, Int.reduceNeg, Nat.reduceAdd, Nat.reduceSub, Nat.reduceMul, Nat.reduceLT, Nat.reduceBEq, Nat.reduceEqDiff, Nat.reduceLeDiff, FACTS, TYPES]
/-- The same behind an instruction. -/
theorem loop_Needed_16 (kf : Nat) (ar : Option Nat) (pc r1 c1 : AObj) (X : Heap) (n : Nat) (rs : List Int) (nl : Bool) (cap : Option Nat) (hlen : rs.length ≤ 4611686018427387904) (hr : ∀ r ∈ rs, 0 ≤ r ∧ r < n) (as0 : List Bool) (ha0 : as0.length = n)
    (k : Nat) (l : Ass) (m : Nat) (z : Option Out) (hz : loopR Try.prog tab kf ar LB46_16 46 62 [5, 51, 52, 53] m k l (pc :: r1 :: c1 :: rB as0 :: .cells 64 [.hsl 3 0 n n 1] :: X) = z) (hm : X.length + 5 = m) (hk : rs.length < k)
    (h5 : asc l 5 = .ptr 4 0) (h51 : asc l 51 = sI rs nl cap) (h52 : asc l 52 = ii rs.length) (h53 : asc l 53 = ii (0 : Nat)) :
    z = some (.exit 4 (fr 62 [(54, bb false), (5, .ptr 4 0), (51, sI rs nl cap), (52, ii rs.length), (53, ii rs.length)]) (pc :: r1 :: c1 :: rB (mark as0 true rs) :: .cells 64 [.hsl 3 0 n n 1] :: X)) := by
  subst hz
  refine loop_nat rs.length (fun k l H => loopR Try.prog tab kf ar LB46_16 46 62 [5, 51, 52, 53] m k l H)
    (fun i l H => asc l 5 = .ptr 4 0 ∧ asc l 51 = sI rs nl cap ∧ asc l 52 = ii rs.length ∧ asc l 53 = ii i ∧ H = pc :: r1 :: c1 :: rB (mark as0 true (rs.take i)) :: .cells 64 [.hsl 3 0 n n 1] :: X)
    (fun z => z = some (.exit 4 (fr 62 [(54, bb false), (5, .ptr 4 0), (51, sI rs nl cap), (52, ii rs.length), (53, ii rs.length)]) (pc :: r1 :: c1 :: rB (mark as0 true rs) :: .cells 64 [.hsl 3 0 n n 1] :: X))) ?_ rs.length 0 k l _ (by omega) hk ⟨h5, h51, h52, h53, rfl⟩
  clear h5 h51 h52 h53 hk
  rintro i k l H hi ⟨h5, h51, h52, h53, rfl⟩
  have ht : ∀ q : List Bool, trim m (fr 62 (keep l [5, 51, 52, 53])) (pc :: r1 :: c1 :: rB q :: .cells 64 [.hsl 3 0 n n 1] :: X) = pc :: r1 :: c1 :: rB q :: .cells 64 [.hsl 3 0 n n 1] :: X := fun q => trim_same (by simp; omega)
  by_cases hc : i < rs.length
  · refine .inr ?_
    have hc' : ((i : Int) < rs.length) := by omega
    have hc0 : (0 : Int) ≤ i := by omega
    have hx := encInts_get hc
    have hw := wrap_succ hc hlen
    obtain ⟨x, hX⟩ : ∃ x, x = rs[i] := ⟨_, rfl⟩
    rw [← hX] at hx
    obtain ⟨x0, x1⟩ := hr x (by rw [hX]; exact List.getElem_mem hc)
    have hm : (mark as0 true (rs.take i)).length = n := by rw [mark_length]; exact ha0
    have hnx : mark as0 true (rs.take (i + 1)) = (mark as0 true (rs.take i)).set x.toNat true := by rw [List.take_succ_eq_append_getElem hc, mark_snoc, ← hX]
    have hxl : x.toNat < n := by omega
    have hel : (encB (mark as0 true (rs.take i))).length = n := by rw [encB_length, hm]
    simp only [loopR_succ, ht]
    simp only [h5, h51, h52, h53, hc', hc0, hx, hw, x0, x1, hel, hxl, encB_set, loopR_succ, loopOf, findLoop, firstRegion, Option.some_or, Option.none_or, Option.getD_some, Option.some.injEq, Try.f46, EVb, EVc, Int.reduceEq, Int.reduceToNat, Int.reduceLE, Int.reduceLT, Int.reduceAdd, Int.reduceMul, Int.reduceSub, Int.reduceNeg, Nat.reduceAdd, Nat.reduceSub, Nat.reduceMul, Nat.reduceLT, Nat.reduceBEq, Nat.reduceEqDiff, Nat.reduceLeDiff, FACTS, TYPES]
    exact ⟨_, _, hc, rfl, (by rfl), (by rfl), (by rfl), (by rfl), by rw [hnx]⟩
  · refine .inl ?_
    have hc' : ¬ ((i : Int) < rs.length) := by omega
    have he : rs.take i = rs := List.take_of_length_le (by omega)
    obtain rfl : i = rs.length := by omega
    simp only [loopR_succ, ht]
    simp only [h5, h51, h52, h53, hc', he, loopR_succ, loopOf, findLoop, firstRegion, Option.some_or, Option.none_or, Option.getD_some, Option.some.injEq, Try.f46, EVb, EVc, Int.reduceEq, Int.reduceToNat, Int.reduceLE, Int.reduceLT, Int.reduceAdd, Int.reduceMul, Int.reduceSub, Int.reduceNeg, Nat.reduceAdd, Nat.reduceSub, Nat.reduceMul, Nat.reduceLT, Nat.reduceBEq, Nat.reduceEqDiff, Nat.reduceLeDiff, FACTS, TYPES]
/-- Memory while the instructions are gone through from behind. -/
noncomputable abbrev hM (x0 x1 x2 x3 : IV) (n N : Nat) (cs : IV) (l0 l1 : Ass) (aq out : List Bool) : Heap :=
  [.cells 25 [.c x0, .c x1, .c x2, .c x3], rB out, .cells 64 [.hsl 1 0 N N 1], rB aq, .cells 64 [.hsl 3 0 n n 1], .cells 25 [.c x0, .c x1, .c x2, .c x3],
   rfObj #[35, 36] RA46_11 RB46_11 46 .ready none (fr 62 l0), .cells 163 [.yld 6], .cells 22 [.c cs], rfObj #[11, 12] RA110_3 RB110_3 110 .ready none (fr 18 l1)]
theorem loop_Needed_B (kf : Nat) (x0 x1 x2 x3 : IV) (n : Nat) (code : List Ins) (nl : Bool) (cap : Option Nat) (l0 l1 : Ass) (c0 : (l0.all fun e => AV.under 10 e.2) = true) (c1 : (l1.all fun e => AV.under 10 e.2) = true)
    (g3 : asc l0 4 = .ptr 2 0) (g6 : asc l0 5 = .ptr 4 0) (g2 : asc l1 2 = .ptr 7 0) (as0 : List Bool) (ha0 : as0.length = n) (hcode : ∀ i ∈ code, mayM i n = true) (hlen : code.length ≤ 1000000)
    (k : Nat) (l : Ass) (z : Option Out) (hz : loopR Try.prog tab (kf + 10) none LB128_1 128 19 [0, 1, 3] 10 k l (hM x0 x1 x2 x3 n code.length (.slice (encCode code) code.length nl cap) l0 l1 as0 (List.replicate code.length false)) = z) (hk : code.length < k)
    (a0 : asc l 0 = .yld 9) (a1 : asc l 1 = .ptr 8 0) (a3 : asc l 3 = ii ((code.length : Int) - 1)) :
    ∃ l', z = some (.exit 0 (fr 19 l') (hM x0 x1 x2 x3 n code.length (.slice (encCode code) code.length nl cap) l0 l1 (needL as0 code).1 (needL as0 code).2)) := by
  subst hz
  refine loop_nat code.length (fun k l H => loopR Try.prog tab (kf + 10) none LB128_1 128 19 [0, 1, 3] 10 k l H)
    (fun j l H => asc l 0 = .yld 9 ∧ asc l 1 = .ptr 8 0 ∧ asc l 3 = ii ((code.length : Int) - j - 1) ∧
      H.take 10 = hM x0 x1 x2 x3 n code.length (.slice (encCode code) code.length nl cap) l0 l1 (needL as0 (code.drop (code.length - j))).1 (List.replicate (code.length - j) false ++ (needL as0 (code.drop (code.length - j))).2))
    (fun z => ∃ l', z = some (.exit 0 (fr 19 l') (hM x0 x1 x2 x3 n code.length (.slice (encCode code) code.length nl cap) l0 l1 (needL as0 code).1 (needL as0 code).2))) ?_ code.length 0 k l _ (by omega) hk
    ⟨a0, a1, by rw [a3]; simp, by simp [needL]⟩
  clear a0 a1 a3 hk
  rintro j k l H hj ⟨a0, a1, a3, hH⟩
  have ht : trim 10 (fr 19 (keep l [0, 1, 3])) H = hM x0 x1 x2 x3 n code.length (.slice (encCode code) code.length nl cap) l0 l1 (needL as0 (code.drop (code.length - j))).1 (List.replicate (code.length - j) false ++ (needL as0 (code.drop (code.length - j))).2) := by
    rw [trim_fr (by simp only [a0, a1, a3, EVb, EVc, Int.reduceEq, Int.reduceToNat, Int.reduceLE, Int.reduceLT, Int.reduceAdd, Int.reduceMul, Int.reduceSub, Int.reduceNeg, Nat.reduceAdd, Nat.reduceSub, Nat.reduceMul, Nat.reduceLT, Nat.reduceBEq, Nat.reduceEqDiff, Nat.reduceLeDiff]) (by rw [hH]; simp only [c0, c1, EVb, EVc, Int.reduceEq, Int.reduceToNat, Int.reduceLE, Int.reduceLT, Int.reduceAdd, Int.reduceMul, Int.reduceSub, Int.reduceNeg, Nat.reduceAdd, Nat.reduceSub, Nat.reduceMul, Nat.reduceLT, Nat.reduceBEq, Nat.reduceEqDiff, Nat.reduceLeDiff]), hH]
  by_cases hc : j < code.length
  · refine .inr ?_
    obtain ⟨i, hi⟩ : ∃ i, i + 1 = code.length - j := ⟨code.length - j - 1, by omega⟩
    rw [← hi] at ht
    have hil : i < code.length := by omega
    obtain ⟨x, hX⟩ : ∃ x, x = code[i] := ⟨_, rfl⟩
    have hd : code.drop i = x :: code.drop (i + 1) := by rw [hX]; exact List.drop_eq_getElem_cons hil
    have hx := encCode_get hil
    rw [← hX] at hx
    have a3' : asc l 3 = ii (i : Int) := by rw [a3]; congr 2; omega
    have hi0 : (0 : Int) ≤ i := by omega
    have hi1 : (i : Int) < code.length := by omega
    have hi2 : i < code.length := by omega
    have hw : IntKind.wrap .i64 ((i : Int) - 1) = (code.length : Int) - (j + 1 : Nat) - 1 := by rw [wrap64 (by omega) (by omega)]; omega
    have hm := hcode x (by rw [hX]; exact List.getElem_mem hil)
    obtain ⟨aq, haq⟩ : ∃ aq, aq = (needL as0 (code.drop (i + 1))).1 := ⟨_, rfl⟩
    obtain ⟨fl, hfl⟩ : ∃ fl, fl = (needL as0 (code.drop (i + 1))).2 := ⟨_, rfl⟩
    have hdd : code.drop (code.length - j) = code.drop (i + 1) := by rw [hi]
    rw [hi] at ht
    rw [hdd, ← hi, ← haq, ← hfl] at ht
    have haql : aq.length = n := by rw [haq, (needL_length _ _).1]; exact ha0
    have hfll : fl.length + (i + 1) = code.length := by rw [hfl, (needL_length _ _).2]; simp; omega
    have hel : (encB aq).length = n := by rw [encB_length, haql]
    have hol : (encB (List.replicate (i + 1) false ++ fl)).length = code.length := by rw [encB_length]; simp; omega
    have hm' := hm
    simp only [mayM, Bool.and_eq_true, decide_eq_true_eq] at hm'
    obtain ⟨⟨⟨⟨m1, m2, m3, m4, m5⟩, _⟩, m6⟩, m7⟩ := hm'
    have ht2 : x.to.toNat < n := by omega
    have hget := encB_get (l := aq) m3 (by rw [haql]; exact m4)
    have hnx : code.drop (code.length - (j + 1)) = x :: code.drop (i + 1) := by rw [← hd]; congr 1; omega
    have hii : code.length - (j + 1) = i := by omega
    have hran : ∀ r ∈ asks x, 0 ≤ r ∧ r < (n : Int) := by
      intro r hr
      unfold asks at hr
      split at hr
      · rename_i h34
        simp only [List.mem_cons, List.not_mem_nil, or_false] at hr
        rcases hr with rfl | rfl
        · exact m6
        · exact m7 h34
      · split at hr
        · simp only [List.mem_cons, List.not_mem_nil, or_false] at hr
          subst hr
          exact m6
        · cases hr
    cases hq : aq.getD x.to.toNat false with
    | false =>
      rw [hq] at hget
      have hnew : (needL as0 (x :: code.drop (i + 1))) = (aq, false :: fl) := by
        simp only [needL, ← haq, ← hfl, hq]
        rfl
      simp only [loopR_succ, ht]
      simp only [a0, a1, a3', hi0, hi1, hx, hw, g3, g6, g2, evalT_round, roundA_rf, hel, m3, m4, hget, rfAs, rfBd, rfOf, findRF, firstRegion, Option.some_or, Option.none_or, Option.getD_some, Option.some.injEq, findLoop, loopOf, loopR_succ, loopOf, findLoop, firstRegion, Option.some_or, Option.none_or, Option.getD_some, Option.some.injEq, Try.f128, Try.f110, Try.f46, EVb, EVc, Int.reduceEq, Int.reduceToNat, Int.reduceLE, Int.reduceLT, Int.reduceAdd, Int.reduceMul, Int.reduceSub, Int.reduceNeg, Nat.reduceAdd, Nat.reduceSub, Nat.reduceMul, Nat.reduceLT, Nat.reduceBEq, Nat.reduceEqDiff, Nat.reduceLeDiff, FACTS, TYPES]
      refine ⟨_, _, hc, rfl, (by rfl), (by rfl), (by rfl), ?_⟩
      rw [hnx, hnew, hii, ← rep_keep]
      rfl
    | true =>
      rw [hq] at hget
      have hnew : (needL as0 (x :: code.drop (i + 1))) = (mark (aq.set x.to.toNat false) true (asks x), true :: fl) := by
        simp only [needL, ← haq, ← hfl, hq]
        rfl
      have hA := asks_ev (kf + 7) x.op x.to x.a x.b x.c
      simp only [run, aI, ii, sI] at hA
      have hal : (asks x).length ≤ 2 := by unfold asks; split <;> (try split) <;> simp
      simp only [loopR_succ, ht]
      simp only [a0, a1, a3', hi0, hi1, hi2, hx, hw, g3, g6, g2, evalT_round, roundA_rf, hel, hol, ht2, m3, m4, hget, hA, encB_set, rep_set, rfAs, rfBd, rfOf, findRF, firstRegion, Option.some_or, Option.none_or, Option.getD_some, Option.some.injEq, findLoop, loopOf, loopR_succ, loopOf, findLoop, firstRegion, Option.some_or, Option.none_or, Option.getD_some, Option.some.injEq, Try.f128, Try.f110, Try.f46, EVb, EVc, Int.reduceEq, Int.reduceToNat, Int.reduceLE, Int.reduceLT, Int.reduceAdd, Int.reduceMul, Int.reduceSub, Int.reduceNeg, Nat.reduceAdd, Nat.reduceSub, Nat.reduceMul, Nat.reduceLT, Nat.reduceBEq, Nat.reduceEqDiff, Nat.reduceLeDiff, FACTS, TYPES]
      rw [evalCode_drawn Try.f46 14 dr46_14]; rotate_left; rfl
      simp only [a0, a1, a3', hi0, hi1, hi2, hx, hw, g3, g6, g2, evalT_round, roundA_rf, hel, hol, ht2, m3, m4, hget, hA, encB_set, rep_set, EVd, Nat.reducePow, Nat.reduceDiv, Nat.reduceMod, rfAs, rfBd, rfOf, findRF, firstRegion, Option.some_or, Option.none_or, Option.getD_some, Option.some.injEq, findLoop, loopOf, loopR_succ, loopOf, findLoop, firstRegion, Option.some_or, Option.none_or, Option.getD_some, Option.some.injEq, Try.f128, Try.f110, Try.f46, EVb, EVc, Int.reduceEq, Int.reduceToNat, Int.reduceLE, Int.reduceLT, Int.reduceAdd, Int.reduceMul, Int.reduceSub, Int.reduceNeg, Nat.reduceAdd, Nat.reduceSub, Nat.reduceMul, Nat.reduceLT, Nat.reduceBEq, Nat.reduceEqDiff, Nat.reduceLeDiff, FACTS, TYPES]
      rw [evalCode_loopB LB46_16 lp46_16]; rotate_left; rfl; rfl; rfl
      generalize hz : loopR _ _ _ _ _ _ _ _ _ _ _ _ = z
      have h15 := loop_Needed_16 (kf + 8) (some 6) _ _ _ _ n (asks x) (nlE (asks x)) (cpE (asks x)) (by omega) hran (aq.set x.to.toNat false) (by simp [haql]) _ _ _ z hz (by rfl) (by omega) (by simp only [g6, EVb, EVc, Int.reduceEq, Int.reduceToNat, Int.reduceLE, Int.reduceLT, Int.reduceAdd, Int.reduceMul, Int.reduceSub, Int.reduceNeg, Nat.reduceAdd, Nat.reduceSub, Nat.reduceMul, Nat.reduceLT, Nat.reduceBEq, Nat.reduceEqDiff, Nat.reduceLeDiff]) (by simp only [EVb, EVc, Int.reduceEq, Int.reduceToNat, Int.reduceLE, Int.reduceLT, Int.reduceAdd, Int.reduceMul, Int.reduceSub, Int.reduceNeg, Nat.reduceAdd, Nat.reduceSub, Nat.reduceMul, Nat.reduceLT, Nat.reduceBEq, Nat.reduceEqDiff, Nat.reduceLeDiff]) (by simp only [EVb, EVc, Int.reduceEq, Int.reduceToNat, Int.reduceLE, Int.reduceLT, Int.reduceAdd, Int.reduceMul, Int.reduceSub, Int.reduceNeg, Nat.reduceAdd, Nat.reduceSub, Nat.reduceMul, Nat.reduceLT, Nat.reduceBEq, Nat.reduceEqDiff, Nat.reduceLeDiff]) (by simp only [EVb, EVc, Int.reduceEq, Int.reduceToNat, Int.reduceLE, Int.reduceLT, Int.reduceAdd, Int.reduceMul, Int.reduceSub, Int.reduceNeg, Nat.reduceAdd, Nat.reduceSub, Nat.reduceMul, Nat.reduceLT, Nat.reduceBEq, Nat.reduceEqDiff, Nat.reduceLeDiff])
      rw [h15]
      simp only [EVb, EVc, Int.reduceEq, Int.reduceToNat, Int.reduceLE, Int.reduceLT, Int.reduceAdd, Int.reduceMul, Int.reduceSub, Int.reduceNeg, Nat.reduceAdd, Nat.reduceSub, Nat.reduceMul, Nat.reduceLT, Nat.reduceBEq, Nat.reduceEqDiff, Nat.reduceLeDiff]
      refine ⟨_, _, hc, rfl, (by rfl), (by rfl), (by rw [← hw]; rfl), ?_⟩
      rw [hnx, hnew, hii]
      dsimp only
      rw [← rep_set]
      rfl
  · refine .inl ?_
    obtain rfl : j = code.length := by omega
    have hc' : ¬ ((0 : Int) ≤ (code.length : Int) - code.length - 1) := by omega
    simp only [Nat.sub_self, List.drop_zero, List.replicate_zero, List.nil_append] at ht
    simp only [loopR_succ, ht]
    simp only [a0, a1, a3, hc', loopR_succ, loopOf, findLoop, firstRegion, Option.some_or, Option.none_or, Option.getD_some, Option.some.injEq, Try.f128, EVb, EVc, Int.reduceEq, Int.reduceToNat, Int.reduceLE, Int.reduceLT, Int.reduceAdd, Int.reduceMul, Int.reduceSub, Int.reduceNeg, Nat.reduceAdd, Nat.reduceSub, Nat.reduceMul, Nat.reduceLT, Nat.reduceBEq, Nat.reduceEqDiff, Nat.reduceLeDiff, FACTS, TYPES]
    exact ⟨_, rfl⟩
end Go.Proofs.Sw
