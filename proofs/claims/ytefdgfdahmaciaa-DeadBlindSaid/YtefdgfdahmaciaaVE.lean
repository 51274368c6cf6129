/- A part of the proof: what functions of the program answer; conditions stand in each theorem. -/
import Derived.Test.YtefdgfdahmaciaaVD
import Derived.Test.YtefdgfdahmaciaaVA
import Derived.Test.YtefdgfdahmaciaaAbArgs
set_option linter.unusedVariables false
set_option linter.unusedSimpArgs false
set_option linter.unusedSectionVars false
namespace Go.Proofs.Sw
open Go.Ab
variable [Globals]
theorem needL_length (aq : List Bool) : ∀ code : List Ins, (needL aq code).1.length = aq.length ∧ (needL aq code).2.length = code.length
  | [] => ⟨rfl, rfl⟩
  | i :: rest => by
    obtain ⟨h1, h2⟩ := needL_length aq rest
    simp only [needL]
    split
    · exact ⟨by rw [mark_length]; simp [h1], by simp [h2]⟩
    · exact ⟨h1, by simp [h2]⟩
theorem rep_set (i : Nat) (fl : List Bool) : (List.replicate (i + 1) false ++ fl).set i true = List.replicate i false ++ (true :: fl) := by
  rw [List.replicate_succ', List.append_assoc, List.set_append_right _ _ (by simp)]
  simp
theorem rep_keep (i : Nat) (fl : List Bool) : List.replicate (i + 1) false ++ fl = List.replicate i false ++ (false :: fl) := by
  rw [List.replicate_succ', List.append_assoc]; rfl
noncomputable abbrev hN (x0 x1 x2 x3 : IV) (n N : Nat) (cs : IV) (l0 l1 : Ass) (aq out : List Bool) : Heap :=
  [.cells 25 [.c x0, .c x1, .c x2, .c x3], rB aq, .cells 64 [.hsl 1 0 n n 1], rB out, .cells 64 [.hsl 3 0 N N 1], .cells 25 [.c x0, .c x1, .c x2, .c x3],
   rfObj #[31, 32] RA75_9 RB75_9 75 .ready none (fr 58 l0), .cells 163 [.yld 6], .cells 22 [.c cs], rfObj #[11, 12] RA110_3 RB110_3 110 .ready none (fr 18 l1)]
theorem loop_needed_B (kf : Nat) (x0 x1 x2 x3 : IV) (n : Nat) (code : List Ins) (nl : Bool) (cap : Option Nat) (l0 l1 : Ass) (c0 : (l0.all fun e => AV.under 10 e.2) = true) (c1 : (l1.all fun e => AV.under 10 e.2) = true)
    (g3 : asc l0 3 = .ptr 2 0) (g6 : asc l0 6 = .ptr 4 0) (g2 : asc l1 2 = .ptr 7 0) (as0 : List Bool) (ha0 : as0.length = n) (hcode : ∀ i ∈ code, mayM i n = true) (hlen : code.length ≤ 1000000)
    (k : Nat) (l : Ass) (z : Option Out) (hz : loopR Try.prog tab (kf + 10) none LB128_1 128 19 [0, 1, 3] 10 k l (hN x0 x1 x2 x3 n code.length (.slice (encCode code) code.length nl cap) l0 l1 as0 (List.replicate code.length false)) = z) (hk : code.length < k)
    (a0 : asc l 0 = .yld 9) (a1 : asc l 1 = .ptr 8 0) (a3 : asc l 3 = ii ((code.length : Int) - 1)) :
    ∃ l', z = some (.exit 0 (fr 19 l') (hN x0 x1 x2 x3 n code.length (.slice (encCode code) code.length nl cap) l0 l1 (needL as0 code).1 (needL as0 code).2)) := by
  subst hz
  refine loop_nat code.length (fun k l H => loopR Try.prog tab (kf + 10) none LB128_1 128 19 [0, 1, 3] 10 k l H)
    (fun j l H => asc l 0 = .yld 9 ∧ asc l 1 = .ptr 8 0 ∧ asc l 3 = ii ((code.length : Int) - j - 1) ∧
      H.take 10 = hN x0 x1 x2 x3 n code.length (.slice (encCode code) code.length nl cap) l0 l1 (needL as0 (code.drop (code.length - j))).1 (List.replicate (code.length - j) false ++ (needL as0 (code.drop (code.length - j))).2))
    (fun z => ∃ l', z = some (.exit 0 (fr 19 l') (hN x0 x1 x2 x3 n code.length (.slice (encCode code) code.length nl cap) l0 l1 (needL as0 code).1 (needL as0 code).2))) ?_ code.length 0 k l _ (by omega) hk
    ⟨a0, a1, by rw [a3]; simp, by simp [needL]⟩
  clear a0 a1 a3 hk
  rintro j k l H hj ⟨a0, a1, a3, hH⟩
  have ht : trim 10 (fr 19 (keep l [0, 1, 3])) H = hN x0 x1 x2 x3 n code.length (.slice (encCode code) code.length nl cap) l0 l1 (needL as0 (code.drop (code.length - j))).1 (List.replicate (code.length - j) false ++ (needL as0 (code.drop (code.length - j))).2) := by
    rw [trim_fr (by simp only [a0, a1, a3, EVb, EVc, Int.reduceEq, Int.reduceToNat, Int.reduceLE, Int.reduceLT, Int.reduceAdd, Int.reduceMul, Int.reduceSub, Int.reduceNeg, Nat.reduceAdd, Nat.reduceSub, Nat.reduceMul, Nat.reduceLT, Nat.reduceBEq, Nat.reduceEqDiff, Nat.reduceLeDiff]) (by rw [hH]; simp only [c0, c1, EVb, EVc, Int.reduceEq, Int.reduceToNat, Int.reduceLE, Int.reduceLT, Int.reduceAdd, Int.reduceMul, Int.reduceSub, Int.reduceNeg, Nat.reduceAdd, Nat.reduceSub, Nat.reduceMul, Nat.reduceLT, Nat.reduceBEq, Nat.reduceEqDiff, Nat.reduceLeDiff]), hH]
  by_cases hc : j < code.length
  · refine .inr ?_
    obtain ⟨i, hi⟩ : ∃ i, i + 1 = code.length - j := ⟨code.length - j - 1, by omega⟩
    rw [← hi] at ht
    have hil : i < code.length := by omega
    obtain ⟨x, hX⟩ : ∃ x, x = code[i] := ⟨_, rfl⟩
    have hd : code.drop i = x :: code.drop (i + 1) := by rw [hX]; exact List.drop_eq_getElem_cons hil
    have hx := encCode_get hil
    rw [← hX] at hx
    have a3' : asc l 3 = ii (i : Int) := by rw [a3]; congr 2; omega
    have hi0 : (0 : Int) ≤ i := by omega
    have hi1 : (i : Int) < code.length := by omega
    have hi2 : i < code.length := by omega
    have hw : IntKind.wrap .i64 ((i : Int) - 1) = (code.length : Int) - (j + 1 : Nat) - 1 := by rw [wrap64 (by omega) (by omega)]; omega
    have hm := hcode x (by rw [hX]; exact List.getElem_mem hil)
    obtain ⟨aq, haq⟩ : ∃ aq, aq = (needL as0 (code.drop (i + 1))).1 := ⟨_, rfl⟩
    obtain ⟨fl, hfl⟩ : ∃ fl, fl = (needL as0 (code.drop (i + 1))).2 := ⟨_, rfl⟩
    have hdd : code.drop (code.length - j) = code.drop (i + 1) := by rw [hi]
    rw [hi] at ht
    rw [hdd, ← hi, ← haq, ← hfl] at ht
    have haql : aq.length = n := by rw [haq, (needL_length _ _).1]; exact ha0
    have hfll : fl.length + (i + 1) = code.length := by rw [hfl, (needL_length _ _).2]; simp; omega
    have hel : (encB aq).length = n := by rw [encB_length, haql]
    have hol : (encB (List.replicate (i + 1) false ++ fl)).length = code.length := by rw [encB_length]; simp; omega
    have hm' := hm
    simp only [mayM, Bool.and_eq_true, decide_eq_true_eq] at hm'
    obtain ⟨⟨⟨⟨m1, m2, m3, m4, m5⟩, _⟩, m6⟩, m7⟩ := hm'
    have ht2 : x.to.toNat < n := by omega
    have hget := encB_get (l := aq) m3 (by rw [haql]; exact m4)
    have hnx : code.drop (code.length - (j + 1)) = x :: code.drop (i + 1) := by rw [← hd]; congr 1; omega
    have hii : code.length - (j + 1) = i := by omega
    have hran : ∀ r ∈ asks x, 0 ≤ r ∧ r < (n : Int) := by
      intro r hr
      unfold asks at hr
      split at hr
      · rename_i h34
        simp only [List.mem_cons, List.not_mem_nil, or_false] at hr
        rcases hr with rfl | rfl
        · exact m6
        · exact m7 h34
      · split at hr
        · simp only [List.mem_cons, List.not_mem_nil, or_false] at hr
          subst hr
          exact m6
        · cases hr
    cases hq : aq.getD x.to.toNat false with
    | false =>
      rw [hq] at hget
      have hnew : (needL as0 (x :: code.drop (i + 1))) = (aq, false :: fl) := by
        simp only [needL, ← haq, ← hfl, hq]
        rfl
      simp only [loopR_succ, ht]
      simp only [a0, a1, a3', hi0, hi1, hx, hw, g3, g6, g2, evalT_round, roundA_rf, hel, m3, m4, hget, rfAs, rfBd, rfOf, findRF, firstRegion, Option.some_or, Option.none_or, Option.getD_some, Option.some.injEq, findLoop, loopOf, loopR_succ, loopOf, findLoop, firstRegion, Option.some_or, Option.none_or, Option.getD_some, Option.some.injEq, Try.f128, Try.f110, Try.f75, FT, Int.reduceEq, Int.reduceToNat, Int.reduceLE, Int.reduceLT, Int.reduceAdd, Int.reduceMul, Int.reduceSub, Int.reduceNeg, Nat.reduceAdd, Nat.reduceSub, Nat.reduceMul, Nat.reduceLT, Nat.reduceBEq, Nat.reduceEqDiff, Nat.reduceLeDiff]
      refine ⟨_, _, hc, rfl, (by rfl), (by rfl), (by rfl), ?_⟩
      rw [hnx, hnew, hii, ← rep_keep]
      rfl
    | true =>
      rw [hq] at hget
      have hnew : (needL as0 (x :: code.drop (i + 1))) = (mark (aq.set x.to.toNat false) true (asks x), true :: fl) := by
        simp only [needL, ← haq, ← hfl, hq]
        rfl
      have hA := asks_ev (kf + 7) x.op x.to x.a x.b x.c
      simp only [run, aI, ii, sI] at hA
      have hal : (asks x).length ≤ 2 := by unfold asks; split <;> (try split) <;> simp
      simp only [loopR_succ, ht]
      simp only [a0, a1, a3', hi0, hi1, hi2, hx, hw, g3, g6, g2, evalT_round, roundA_rf, hel, hol, ht2, m3, m4, hget, hA, encB_set, rep_set, rfAs, rfBd, rfOf, findRF, firstRegion, Option.some_or, Option.none_or, Option.getD_some, Option.some.injEq, findLoop, loopOf, loopR_succ, loopOf, findLoop, firstRegion, Option.some_or, Option.none_or, Option.getD_some, Option.some.injEq, Try.f128, Try.f110, Try.f75, FT, Int.reduceEq, Int.reduceToNat, Int.reduceLE, Int.reduceLT, Int.reduceAdd, Int.reduceMul, Int.reduceSub, Int.reduceNeg, Nat.reduceAdd, Nat.reduceSub, Nat.reduceMul, Nat.reduceLT, Nat.reduceBEq, Nat.reduceEqDiff, Nat.reduceLeDiff]
      rw [evalCode_loopB LB75_15 lp75_15]; rotate_left; rfl; rfl; rfl
      generalize hz : loopR _ _ _ _ _ _ _ _ _ _ _ _ = z
      have h15 := loop_needed_15 (kf + 8) (some 6) _ _ n (asks x) (nlE (asks x)) (cpE (asks x)) (by omega) hran (aq.set x.to.toNat false) (by simp [haql]) _ _ _ z hz (by rfl) (by omega) (by simp only [g3, EVb, EVc, Int.reduceEq, Int.reduceToNat, Int.reduceLE, Int.reduceLT, Int.reduceAdd, Int.reduceMul, Int.reduceSub, Int.reduceNeg, Nat.reduceAdd, Nat.reduceSub, Nat.reduceMul, Nat.reduceLT, Nat.reduceBEq, Nat.reduceEqDiff, Nat.reduceLeDiff]) (by simp only [EVb, EVc, Int.reduceEq, Int.reduceToNat, Int.reduceLE, Int.reduceLT, Int.reduceAdd, Int.reduceMul, Int.reduceSub, Int.reduceNeg, Nat.reduceAdd, Nat.reduceSub, Nat.reduceMul, Nat.reduceLT, Nat.reduceBEq, Nat.reduceEqDiff, Nat.reduceLeDiff]) (by simp only [EVb, EVc, Int.reduceEq, Int.reduceToNat, Int.reduceLE, Int.reduceLT, Int.reduceAdd, Int.reduceMul, Int.reduceSub, Int.reduceNeg, Nat.reduceAdd, Nat.reduceSub, Nat.reduceMul, Nat.reduceLT, Nat.reduceBEq, Nat.reduceEqDiff, Nat.reduceLeDiff]) (by simp only [EVb, EVc, Int.reduceEq, Int.reduceToNat, Int.reduceLE, Int.reduceLT, Int.reduceAdd, Int.reduceMul, Int.reduceSub, Int.reduceNeg, Nat.reduceAdd, Nat.reduceSub, Nat.reduceMul, Nat.reduceLT, Nat.reduceBEq, Nat.reduceEqDiff, Nat.reduceLeDiff])
      rw [h15]
      simp only [EVb, EVc, Int.reduceEq, Int.reduceToNat, Int.reduceLE, Int.reduceLT, Int.reduceAdd, Int.reduceMul, Int.reduceSub, Int.reduceNeg, Nat.reduceAdd, Nat.reduceSub, Nat.reduceMul, Nat.reduceLT, Nat.reduceBEq, Nat.reduceEqDiff, Nat.reduceLeDiff]
      refine ⟨_, _, hc, rfl, (by rfl), (by rfl), (by rw [← hw]; rfl), ?_⟩
      rw [hnx, hnew, hii]
      dsimp only
      rw [← rep_set]
      rfl
  · refine .inl ?_
    obtain rfl : j = code.length := by omega
    have hc' : ¬ ((0 : Int) ≤ (code.length : Int) - code.length - 1) := by omega
    simp only [Nat.sub_self, List.drop_zero, List.replicate_zero, List.nil_append] at ht
    simp only [loopR_succ, ht]
    simp only [a0, a1, a3, hc', loopR_succ, loopOf, findLoop, firstRegion, Option.some_or, Option.none_or, Option.getD_some, Option.some.injEq, Try.f128, FT, Int.reduceEq, Int.reduceToNat, Int.reduceLE, Int.reduceLT, Int.reduceAdd, Int.reduceMul, Int.reduceSub, Int.reduceNeg, Nat.reduceAdd, Nat.reduceSub, Nat.reduceMul, Nat.reduceLT, Nat.reduceBEq, Nat.reduceEqDiff, Nat.reduceLeDiff]
    exact ⟨_, rfl⟩
end Go.Proofs.Sw
namespace Go.Proofs.Sw
open Go.Ab
variable [Globals]
theorem needed_ev (k n : Nat) (ins : Int) (code : List Ins) (outs : List Int) (nl : Bool) (cap : Option Nat) (nl2 : Bool) (cap2 : Option Nat) (hk : outs.length + code.length + 100 ≤ k) (hr : rightM ⟨ins, n, code, outs⟩ = true) :
    run (k+1) 75 [aP ⟨ins, n, code, outs⟩ nl cap nl2 cap2] = some (sB (neededM ⟨ins, n, code, outs⟩) false none) := by
  have hr' := hr
  simp only [rightM, headM, Bool.and_eq_true, decide_eq_true_eq] at hr'
  obtain ⟨⟨hh, ho⟩, hc⟩ := hr'
  have q1 : (0 : Int) ≤ n := by omega
  have q2 : n ≤ roomBytes := Nat.le_trans (show n ≤ 128 by omega) (by decide)
  have q3 : (0 : Int) ≤ code.length := by omega
  have q4 : code.length ≤ roomBytes := Nat.le_trans (show code.length ≤ 16384 by omega) (by decide)
  have hout : ∀ r ∈ outs, 0 ≤ r ∧ r < (n : Int) := fun r h => by have := List.all_eq_true.1 ho r h; simpa using this
  have hcode : ∀ i ∈ code, mayM i n = true := fun i h => List.all_eq_true.1 hc i h
  obtain ⟨k, rfl⟩ : ∃ j, k = j + 60 := ⟨k - 60, by omega⟩
  have hbk := Back_raw (k + 59) (ii ins) (ii n) (sC code nl cap) (sI outs nl2 cap2) rfl
  have hba := Back_ans (k + 59) (ii ins) (ii n) (sC code nl cap) (sI outs nl2 cap2) rfl
  have hrt := right_ev (k + 58) ⟨ins, n, code, outs⟩ nl cap nl2 cap2 (by simp only; omega)
  have hwr := Backward_raw (k + 58) (.slice (encCode code) code.length nl cap)
  have hwa := Backward_ans (k + 58) (.slice (encCode code) code.length nl cap)
  have hw : IntKind.wrap .i64 ((code.length : Int) - 1) = (code.length : Int) - 1 := by rw [wrap64 (by omega) (by omega)]
  simp only [run, aP, ii, sC, sI, bb, hr] at hbk hba hrt
  rw [run, ev75, ans_trim]
  simp only [Try.f75, aP, ii, bb, q1, q2, encB_rep, FT, Int.reduceEq, Int.reduceToNat, Int.reduceLE, Int.reduceLT, Int.reduceAdd, Int.reduceMul, Int.reduceSub, Int.reduceNeg, Nat.reduceAdd, Nat.reduceSub, Nat.reduceMul, Nat.reduceLT, Nat.reduceBEq, Nat.reduceEqDiff, Nat.reduceLeDiff]
  rw [evalCode_loopB LB75_3 lp75_3]; rotate_left; rfl; rfl; rfl
  generalize hz : loopR _ _ _ _ _ _ _ _ _ _ _ _ = z
  obtain rfl := loop_needed_3 (k + 60) _ .dead n outs nl2 cap2 (by omega) hout (List.replicate n false) (by simp) _ _ _ z hz (by omega) (by rfl) (by rfl) (by rfl) (by rfl) (by rfl) (by rfl)
  clear hz
  simp only [q3, q4, encB_rep, hba, hbk, FT, Int.reduceEq, Int.reduceToNat, Int.reduceLE, Int.reduceLT, Int.reduceAdd, Int.reduceMul, Int.reduceSub, Int.reduceNeg, Nat.reduceAdd, Nat.reduceSub, Nat.reduceMul, Nat.reduceLT, Nat.reduceBEq, Nat.reduceEqDiff, Nat.reduceLeDiff]
  rw [evalCode_rf RA75_9 RB75_9]; rotate_left; rfl; rfl
  simp only [q3, q4, hba, hbk, ev110, Try.f110, hrt, hwa, hwr, FT, Int.reduceEq, Int.reduceToNat, Int.reduceLE, Int.reduceLT, Int.reduceAdd, Int.reduceMul, Int.reduceSub, Int.reduceNeg, Nat.reduceAdd, Nat.reduceSub, Nat.reduceMul, Nat.reduceLT, Nat.reduceBEq, Nat.reduceEqDiff, Nat.reduceLeDiff]
  rw [evalCode_rf RA110_3 RB110_3]; rotate_left; rfl; rfl
  simp only [ev128, Try.f128, hw, FT, Int.reduceEq, Int.reduceToNat, Int.reduceLE, Int.reduceLT, Int.reduceAdd, Int.reduceMul, Int.reduceSub, Int.reduceNeg, Nat.reduceAdd, Nat.reduceSub, Nat.reduceMul, Nat.reduceLT, Nat.reduceBEq, Nat.reduceEqDiff, Nat.reduceLeDiff]
  rw [evalCode_loopB LB128_1 lp128_1]; rotate_left; rfl; rfl; rfl
  generalize hz : loopR _ _ _ _ _ _ _ _ _ _ _ _ = z
  obtain ⟨l', rfl⟩ := loop_needed_B (k + 48) (.int .i64 ins) (.int .i64 n) (.slice (encCode code) code.length nl cap) (.slice (encInts outs) outs.length nl2 cap2) n code nl cap _ _ (by rfl) (by rfl) (by rfl) (by rfl) (by rfl)
    (asked0 n outs) (by simp [asked0, mark_length]) hcode (by omega) _ _ z hz (by omega) (by rfl) (by rfl) (by rfl)
  have hfl : (encB (needL (asked0 n outs) code).2).length = code.length := by rw [encB_length, (needL_length _ _).2]
  have htk : (encB (needL (asked0 n outs) code).2).take code.length = encB (needL (asked0 n outs) code).2 := by rw [← hfl, List.take_length]
  have hnm : neededM ⟨ins, n, code, outs⟩ = (needL (asked0 n outs) code).2 := rfl
  simp only [FT, Int.reduceEq, Int.reduceToNat, Int.reduceLE, Int.reduceLT, Int.reduceAdd, Int.reduceMul, Int.reduceSub, Int.reduceNeg, Nat.reduceAdd, Nat.reduceSub, Nat.reduceMul, Nat.reduceLT, Nat.reduceBEq, Nat.reduceEqDiff, Nat.reduceLeDiff]
  rw [hnm]
  simp only [hfl, htk, encB_length, FT, Int.reduceEq, Int.reduceToNat, Int.reduceLE, Int.reduceLT, Int.reduceAdd, Int.reduceMul, Int.reduceSub, Int.reduceNeg, Nat.reduceAdd, Nat.reduceSub, Nat.reduceMul, Nat.reduceLT, Nat.reduceBEq, Nat.reduceEqDiff, Nat.reduceLeDiff]
  simp only [Nat.le_refl, if_true, sB, (needL_length _ _).2]
end Go.Proofs.Sw
namespace Go.Proofs.Sw
open Go.Ab
variable [Globals]
def nothing (i : Ins) : Bool := decide (i.op = 1 ∧ i.to = i.a)
theorem nothing_ev (k : Nat) (o t a b c : Int) : run (k+1) 76 [aI o t a b c] = some (bb (nothing ⟨o, t, a, b, c⟩)) := by
  rw [run, ev76, ans_trim]
  simp only [Try.f76, aI, ii, bb, FT, Int.reduceEq, Int.reduceToNat, Int.reduceLE, Int.reduceLT, Int.reduceAdd, Int.reduceMul, Int.reduceSub, Int.reduceNeg, Nat.reduceAdd, Nat.reduceSub, Nat.reduceMul, Nat.reduceLT, Nat.reduceBEq, Nat.reduceEqDiff, Nat.reduceLeDiff]
  repeat' (first
    | (rw [condO_dec]; split <;> simp only [*, FT, Int.reduceEq, Int.reduceToNat, Int.reduceLE, Int.reduceLT, Int.reduceAdd, Int.reduceMul, Int.reduceSub, Int.reduceNeg, Nat.reduceAdd, Nat.reduceSub, Nat.reduceMul, Nat.reduceLT, Nat.reduceBEq, Nat.reduceEqDiff, Nat.reduceLeDiff])
    | (rw [condO_ite]; split <;> simp only [*, FT, Int.reduceEq, Int.reduceToNat, Int.reduceLE, Int.reduceLT, Int.reduceAdd, Int.reduceMul, Int.reduceSub, Int.reduceNeg, Nat.reduceAdd, Nat.reduceSub, Nat.reduceMul, Nat.reduceLT, Nat.reduceBEq, Nat.reduceEqDiff, Nat.reduceLeDiff])
    | (split <;> simp only [*, FT, Int.reduceEq, Int.reduceToNat, Int.reduceLE, Int.reduceLT, Int.reduceAdd, Int.reduceMul, Int.reduceSub, Int.reduceNeg, Nat.reduceAdd, Nat.reduceSub, Nat.reduceMul, Nat.reduceLT, Nat.reduceBEq, Nat.reduceEqDiff, Nat.reduceLeDiff]))
  all_goals simp [nothing, *]
theorem clone_raw (k : Nat) (outs : List Int) (cap : Option Nat) (hl : 0 < outs.length) (ho : outs.length ≤ 1000000) : evalT Try.prog (mkHints tab) (k+1) (.fn 77) [sI outs false cap] [] = some (.hsl 0 0 outs.length outs.length 1, [.row false 3 (encInts outs)]) := by
  have hl2 := encInts_length outs
  have hap : ∀ o : AObj, apO 3 1 8 none (.hsl 0 0 0 0 1) [.row false 3 []] (some (encInts outs, outs.length)) = some (.hsl 0 0 outs.length outs.length 1, [.row false 3 (encInts outs)]) := by
    intro _
    have := apO_row (sl := none) (e := 3) (sz := 1) (by_ := 8) (m := outs.length) (len := 0) (id := 0) (H := [.row false 3 []]) (cells := []) (cs := encInts outs) hl (Nat.le_trans (Nat.mul_le_mul_right 8 (show 0 + outs.length ≤ 1000000 by omega)) (by decide)) (by omega) rfl rfl
    simpa using this
  have htk : (encInts outs).take outs.length = encInts outs := by rw [← hl2, List.take_length]
  have hle : outs.length ≤ outs.length := by omega
  rw [ev77]
  simp only [Try.f77, sI, FT, Int.reduceEq, Int.reduceToNat, Int.reduceLE, Int.reduceLT, Int.reduceAdd, Int.reduceMul, Int.reduceSub, Int.reduceNeg, Nat.reduceAdd, Nat.reduceSub, Nat.reduceMul, Nat.reduceLT, Nat.reduceBEq, Nat.reduceEqDiff, Nat.reduceLeDiff]
  simp only [hap (.dead), hl2, htk, hle, FT, Int.reduceEq, Int.reduceToNat, Int.reduceLE, Int.reduceLT, Int.reduceAdd, Int.reduceMul, Int.reduceSub, Int.reduceNeg, Nat.reduceAdd, Nat.reduceSub, Nat.reduceMul, Nat.reduceLT, Nat.reduceBEq, Nat.reduceEqDiff, Nat.reduceLeDiff]
def keepL : List Ins → List Bool → List Ins
  | i :: c, f :: fl => if (f && !nothing i) = true then i :: keepL c fl else keepL c fl
  | _, _ => []
theorem keepL_take : ∀ (c : List Ins) (fl : List Bool) (i : Nat) (h : i < c.length) (h2 : i < fl.length), keepL (c.take (i + 1)) (fl.take (i + 1)) = keepL (c.take i) (fl.take i) ++ (if (fl[i] && !nothing c[i]) = true then [c[i]] else [])
  | x :: c, f :: fl, 0, _, _ => by simp only [List.take_succ_cons, List.take_zero, keepL, List.getElem_cons_zero]; split <;> simp
  | x :: c, f :: fl, i + 1, h, h2 => by
    have := keepL_take c fl i (by simpa using h) (by simpa using h2)
    simp only [List.take_succ_cons, keepL, List.getElem_cons_succ] at this ⊢
    split
    · rw [this, List.cons_append]
    · exact this
theorem keepL_len : ∀ (c : List Ins) (fl : List Bool), (keepL c fl).length ≤ c.length
  | [], _ => by simp [keepL]
  | x :: c, [] => by simp [keepL]
  | x :: c, f :: fl => by
    have := keepL_len c fl
    simp only [keepL]
    split <;> simp <;> omega
theorem encB_getN {l : List Bool} {i : Nat} (h : i < l.length) : (encB l)[i]? = some (.bool l[i]) := by
  simp [encB, h]
end Go.Proofs.Sw
namespace Go.Proofs.Sw
open Go.Ab
variable [Globals]
theorem loop_deadPass_6 (kf : Nat) (hkf : 1 ≤ kf) (x0 x1 x3 : IV) (c2 : AObj) (hc2 : AObj.under 3 c2 = true) (code : List Ins) (nl : Bool) (cap : Option Nat) (fl : List Bool) (nl2 : Bool) (cap2 : Option Nat) (hfl : fl.length = code.length) (hlen : code.length ≤ 1000000)
    (k : Nat) (l : Ass) (z : Option Out) (hz : loopR Try.prog tab kf none LB30_6 30 54 [1, 2, 6, 19, 20, 21] 3 k l [.slot, .cells 25 [.c x0, .c x1, sC code nl cap, .c x3], c2] = z) (hk : code.length < k)
    (a1 : asc l 1 = .ptr 1 0) (a2 : asc l 2 = .ptr 2 0) (a6 : asc l 6 = .c (.slice [] 0 true (some 0))) (a19 : asc l 19 = sB fl nl2 cap2) (a20 : asc l 20 = ii fl.length) (a21 : asc l 21 = ii (0 : Nat)) :
    z = some (.exit 0 (fr 54 [(22, bb false), (1, .ptr 1 0), (2, .ptr 2 0), (6, lv 0 5 (keepL code fl).length), (19, sB fl nl2 cap2), (20, ii fl.length), (21, ii fl.length)])
      [lo 34 (keepL code fl).length (encCode (keepL code fl)), .cells 25 [.c x0, .c x1, sC code nl cap, .c x3], c2]) := by
  subst hz
  obtain ⟨kf, rfl⟩ : ∃ j, kf = j + 1 := ⟨kf - 1, by omega⟩
  refine loop_nat code.length (fun k l H => loopR Try.prog tab (kf + 1) none LB30_6 30 54 [1, 2, 6, 19, 20, 21] 3 k l H)
    (fun i l H => asc l 1 = .ptr 1 0 ∧ asc l 2 = .ptr 2 0 ∧ asc l 6 = lv 0 5 (keepL (code.take i) (fl.take i)).length ∧ asc l 19 = sB fl nl2 cap2 ∧ asc l 20 = ii fl.length ∧ asc l 21 = ii i ∧
      H.take 3 = [lo 34 (keepL (code.take i) (fl.take i)).length (encCode (keepL (code.take i) (fl.take i))), .cells 25 [.c x0, .c x1, sC code nl cap, .c x3], c2])
    (fun z => z = some (.exit 0 (fr 54 [(22, bb false), (1, .ptr 1 0), (2, .ptr 2 0), (6, lv 0 5 (keepL code fl).length), (19, sB fl nl2 cap2), (20, ii fl.length), (21, ii fl.length)])
      [lo 34 (keepL code fl).length (encCode (keepL code fl)), .cells 25 [.c x0, .c x1, sC code nl cap, .c x3], c2])) ?_ code.length 0 k l _ (by omega) hk ⟨a1, a2, a6, a19, a20, a21, rfl⟩
  clear a1 a2 a6 a19 a20 a21 hk
  rintro i k l H hi ⟨a1, a2, a6, a19, a20, a21, hH⟩
  have ht : trim 3 (fr 54 (keep l [1, 2, 6, 19, 20, 21])) H = [lo 34 (keepL (code.take i) (fl.take i)).length (encCode (keepL (code.take i) (fl.take i))), .cells 25 [.c x0, .c x1, sC code nl cap, .c x3], c2] := by
    rw [trim_fr (by simp only [a1, a2, a6, a19, a20, a21, Bool.or_true, EVb, EVc, Int.reduceEq, Int.reduceToNat, Int.reduceLE, Int.reduceLT, Int.reduceAdd, Int.reduceMul, Int.reduceSub, Int.reduceNeg, Nat.reduceAdd, Nat.reduceSub, Nat.reduceMul, Nat.reduceLT, Nat.reduceBEq, Nat.reduceEqDiff, Nat.reduceLeDiff]) (by rw [hH]; simp only [hc2, EVb, EVc, Int.reduceEq, Int.reduceToNat, Int.reduceLE, Int.reduceLT, Int.reduceAdd, Int.reduceMul, Int.reduceSub, Int.reduceNeg, Nat.reduceAdd, Nat.reduceSub, Nat.reduceMul, Nat.reduceLT, Nat.reduceBEq, Nat.reduceEqDiff, Nat.reduceLeDiff]), hH]
  by_cases hc : i < code.length
  · refine .inr ?_
    have hc2 : i < fl.length := by omega
    have hi0 : (0 : Int) ≤ i := by omega
    have hi1 : (i : Int) < fl.length := by omega
    have hi2 : (i : Int) < code.length := by omega
    have hx := encCode_get hc
    have hb := encB_getN hc2
    have hw := wrap_succ hc2 (by omega)
    have hkt := keepL_take code fl i hc hc2
    obtain ⟨x, hX⟩ : ∃ x, x = code[i] := ⟨_, rfl⟩
    rw [← hX] at hx hkt
    have hn := nothing_ev kf x.op x.to x.a x.b x.c
    simp only [run, aI, ii, bb] at hn
    have hac : (keepL (code.take i) (fl.take i)).length ≤ i := Nat.le_trans (keepL_len _ _) (by simp; omega)
    obtain ⟨acc, hA⟩ : ∃ acc, acc = keepL (code.take i) (fl.take i) := ⟨_, rfl⟩
    rw [← hA] at hkt hac ht a6
    have hap : ∀ X : Heap, apO 34 5 40 (some 0) (lv 0 5 acc.length) (lo 34 acc.length (encCode acc) :: X) (some (enc1 x, 1)) = some (lv 0 5 (acc.length + 1), lo 34 (acc.length + 1) (encCode acc ++ enc1 x) :: X) :=
      fun X => lo_length (Nat.le_trans (Nat.mul_le_mul_right 40 (show acc.length + 1 ≤ 1000000 by omega)) (by decide)) (by omega) (encCode_length acc)
    have hen : encCode acc ++ enc1 x = encCode (acc ++ [x]) := by rw [encCode_append]; simp [encCode]
    cases hf : fl[i] with
    | false =>
      rw [hf] at hb hkt
      simp only [loopR_succ, ht]
      simp only [a1, a2, a6, a19, a20, a21, hi0, hi1, hi2, hx, hb, hw, loopR_succ, loopOf, findLoop, firstRegion, Option.some_or, Option.none_or, Option.getD_some, Option.some.injEq, Try.f30, FT, Int.reduceEq, Int.reduceToNat, Int.reduceLE, Int.reduceLT, Int.reduceAdd, Int.reduceMul, Int.reduceSub, Int.reduceNeg, Nat.reduceAdd, Nat.reduceSub, Nat.reduceMul, Nat.reduceLT, Nat.reduceBEq, Nat.reduceEqDiff, Nat.reduceLeDiff]
      refine ⟨_, _, hc, rfl, (by rfl), (by rfl), ?_, (by rfl), (by rfl), (by rfl), ?_⟩
      · rw [hkt]; simp; rfl
      · rw [hkt]; simp
    | true =>
      rw [hf] at hb hkt
      cases hno : nothing x with
      | true =>
        rw [show nothing ⟨x.op, x.to, x.a, x.b, x.c⟩ = true from hno] at hn
        rw [hno] at hkt
        simp only [loopR_succ, ht]
        simp only [a1, a2, a6, a19, a20, a21, hi0, hi1, hi2, hx, hb, hw, hn, loopR_succ, loopOf, findLoop, firstRegion, Option.some_or, Option.none_or, Option.getD_some, Option.some.injEq, Try.f30, FT, Int.reduceEq, Int.reduceToNat, Int.reduceLE, Int.reduceLT, Int.reduceAdd, Int.reduceMul, Int.reduceSub, Int.reduceNeg, Nat.reduceAdd, Nat.reduceSub, Nat.reduceMul, Nat.reduceLT, Nat.reduceBEq, Nat.reduceEqDiff, Nat.reduceLeDiff]
        refine ⟨_, _, hc, rfl, (by rfl), (by rfl), ?_, (by rfl), (by rfl), (by rfl), ?_⟩
        · rw [hkt]; simp; rfl
        · rw [hkt]; simp
      | false =>
        rw [show nothing ⟨x.op, x.to, x.a, x.b, x.c⟩ = false from hno] at hn
        rw [hno] at hkt
        simp only [loopR_succ, ht]
        simp only [a1, a2, a6, a19, a20, a21, hi0, hi1, hi2, hx, hb, hw, hn, hap, loopR_succ, loopOf, findLoop, firstRegion, Option.some_or, Option.none_or, Option.getD_some, Option.some.injEq, Try.f30, FT, Int.reduceEq, Int.reduceToNat, Int.reduceLE, Int.reduceLT, Int.reduceAdd, Int.reduceMul, Int.reduceSub, Int.reduceNeg, Nat.reduceAdd, Nat.reduceSub, Nat.reduceMul, Nat.reduceLT, Nat.reduceBEq, Nat.reduceEqDiff, Nat.reduceLeDiff]
        refine ⟨_, _, hc, rfl, (by rfl), (by rfl), ?_, (by rfl), (by rfl), (by rfl), ?_⟩
        · rw [hkt]; simp; rfl
        · rw [hkt, hen]; simp
  · refine .inl ?_
    obtain rfl : i = code.length := by omega
    have he : code.take code.length = code := List.take_length
    have he2 : fl.take code.length = fl := by rw [← hfl]; exact List.take_length
    rw [he, he2] at ht a6
    have hc' : ¬ ((code.length : Int) < fl.length) := by omega
    simp only [loopR_succ, ht]
    simp only [a1, a2, a6, a19, a20, a21, hc', loopR_succ, loopOf, findLoop, firstRegion, Option.some_or, Option.none_or, Option.getD_some, Option.some.injEq, Try.f30, FT, Int.reduceEq, Int.reduceToNat, Int.reduceLE, Int.reduceLT, Int.reduceAdd, Int.reduceMul, Int.reduceSub, Int.reduceNeg, Nat.reduceAdd, Nat.reduceSub, Nat.reduceMul, Nat.reduceLT, Nat.reduceBEq, Nat.reduceEqDiff, Nat.reduceLeDiff]
    rw [hfl]
end Go.Proofs.Sw
namespace Go.Proofs.Sw
open Go.Ab
variable [Globals]
abbrev zP : Pg := ⟨0, 0, [], []⟩
def deadP (p : Pg) : Pg := ⟨p.ins, p.regs, keepL p.code (neededM p), p.outs⟩
theorem deadPass_bad (k : Nat) (p : Pg) (nl : Bool) (cap : Option Nat) (nl2 : Bool) (cap2 : Option Nat) (hk : p.outs.length + p.code.length + 12 ≤ k) (hr : rightM p = false) :
    run (k+1) 30 [aP p nl cap nl2 cap2] = some (.tup [aP zP true (some 0) true (some 0), ii 80]) := by
  obtain ⟨k, rfl⟩ : ∃ j, k = j + 1 := ⟨k - 1, by omega⟩
  obtain ⟨n, hc⟩ := check_ev k p nl cap nl2 cap2 (by omega)
  simp only [run, aP, ii, bb, checkE, hr] at hc
  rw [run, ev30, ans_trim]
  simp only [Try.f30, aP, ii, bb, hc, FT, Int.reduceEq, Int.reduceToNat, Int.reduceLE, Int.reduceLT, Int.reduceAdd, Int.reduceMul, Int.reduceSub, Int.reduceNeg, Nat.reduceAdd, Nat.reduceSub, Nat.reduceMul, Nat.reduceLT, Nat.reduceBEq, Nat.reduceEqDiff, Nat.reduceLeDiff]
  rfl
theorem keepO_row {id off len ext sz : Nat} {fz : Bool} {t : TypeId} {cs : List IV} {H H1 : Heap} (h : H1[id]? = some (.row fz t cs)) : keepO (some (.hsl id off len ext sz, H1)) H = some (.hsl H.length off len ext sz, H ++ [.row fz t cs]) := by
  simp [keepO, AV.imp, AV.imp1, AV.imp0, rowsOf, rowAt, h]
  rfl
theorem deadPass_raw (k n : Nat) (ins : Int) (code : List Ins) (outs : List Int) (nl : Bool) (cap cap2 : Option Nat) (hk : outs.length + code.length + 110 ≤ k) (hr : rightM ⟨ins, n, code, outs⟩ = true) : ∃ a b,
    evalT Try.prog (mkHints tab) (k+1) (.fn 30) [aP ⟨ins, n, code, outs⟩ nl cap false cap2] [] =
      some (.tup [.agg [ii ins, ii n, lv 0 5 (deadP ⟨ins, n, code, outs⟩).code.length, .hsl 3 0 outs.length outs.length 1], ii 0], [lo 34 (deadP ⟨ins, n, code, outs⟩).code.length (encCode (deadP ⟨ins, n, code, outs⟩).code), a, b, .row false 3 (encInts outs)]) := by
  have hr' := hr
  simp only [rightM, headM, Bool.and_eq_true, decide_eq_true_eq] at hr'
  obtain ⟨⟨hh, ho⟩, hc⟩ := hr'
  obtain ⟨k, rfl⟩ : ∃ j, k = j + 1 := ⟨k - 1, by omega⟩
  obtain ⟨cn, hck⟩ := check_ev k ⟨ins, n, code, outs⟩ nl cap false cap2 (by simp only; omega)
  have hne := needed_ev k n ins code outs nl cap false cap2 (by omega) hr
  have hcl := clone_raw k outs cap2 (by omega) (by omega)
  have hnl : (neededM ⟨ins, n, code, outs⟩).length = code.length := (needL_length _ _).2
  have hkp : ∀ H, keepO (some (AV.hsl 0 0 outs.length outs.length 1, [.row false 3 (encInts outs)])) H = some (.hsl H.length 0 outs.length outs.length 1, H ++ [.row false 3 (encInts outs)]) := fun H => keepO_row rfl
  simp only [run, aP, ii, bb, sI, sC, sB, checkE, hr] at hck hne hcl
  rw [ev30]
  simp only [Try.f30, aP, ii, bb, hck, hne, FT, Int.reduceEq, Int.reduceToNat, Int.reduceLE, Int.reduceLT, Int.reduceAdd, Int.reduceMul, Int.reduceSub, Int.reduceNeg, Nat.reduceAdd, Nat.reduceSub, Nat.reduceMul, Nat.reduceLT, Nat.reduceBEq, Nat.reduceEqDiff, Nat.reduceLeDiff]
  rw [evalCode_loopB LB30_6 lp30_6]; rotate_left; rfl; rfl; rfl
  generalize hz : loopR _ _ _ _ _ _ _ _ _ _ _ _ = z
  obtain rfl := loop_deadPass_6 (k + 1) (by omega) (.int .i64 ins) (.int .i64 n) (.slice (encInts outs) outs.length false cap2) _ (by rfl) code nl cap (neededM ⟨ins, n, code, outs⟩) false none hnl (by omega) _ _ z hz (by omega) (by rfl) (by rfl) (by rfl) (by rfl) (by rfl) (by rfl)
  clear hz
  simp only [FT, Int.reduceEq, Int.reduceToNat, Int.reduceLE, Int.reduceLT, Int.reduceAdd, Int.reduceMul, Int.reduceSub, Int.reduceNeg, Nat.reduceAdd, Nat.reduceSub, Nat.reduceMul, Nat.reduceLT, Nat.reduceBEq, Nat.reduceEqDiff, Nat.reduceLeDiff]
  rw [evalCode_drawn Try.f30 11 dr30_11]; rotate_left; rfl
  simp only [hcl, hkp, doCall_cxK, freeO_cxK, EVd, List.getElem?_nil, Nat.reducePow, Nat.reduceDiv, Nat.reduceMod, FT, Int.reduceEq, Int.reduceToNat, Int.reduceLE, Int.reduceLT, Int.reduceAdd, Int.reduceMul, Int.reduceSub, Int.reduceNeg, Nat.reduceAdd, Nat.reduceSub, Nat.reduceMul, Nat.reduceLT, Nat.reduceBEq, Nat.reduceEqDiff, Nat.reduceLeDiff]
  exact ⟨_, _, rfl⟩
theorem deadPass_ev (k n : Nat) (ins : Int) (code : List Ins) (outs : List Int) (nl : Bool) (cap cap2 : Option Nat) (hk : outs.length + code.length + 110 ≤ k) (hr : rightM ⟨ins, n, code, outs⟩ = true) :
    run (k+1) 30 [aP ⟨ins, n, code, outs⟩ nl cap false cap2] =
      some (.tup [aP (deadP ⟨ins, n, code, outs⟩) (nlE (deadP ⟨ins, n, code, outs⟩).code) (cpE (deadP ⟨ins, n, code, outs⟩).code) false none, ii 0]) := by
  obtain ⟨a, b, h⟩ := deadPass_raw k n ins code outs nl cap cap2 hk hr
  have hq : (encCode (deadP ⟨ins, n, code, outs⟩).code).length = (deadP ⟨ins, n, code, outs⟩).code.length * 5 := encCode_length _
  have hl2 := encInts_length outs
  have htk : (encInts outs).take outs.length = encInts outs := by rw [← hl2, List.take_length]
  have hle : outs.length ≤ outs.length := by omega
  rw [run, h]
  have e1 : (deadP ⟨ins, n, code, outs⟩).ins = ins := rfl
  have e2 : (deadP ⟨ins, n, code, outs⟩).regs = n := rfl
  have e3 : (deadP ⟨ins, n, code, outs⟩).outs = outs := rfl
  by_cases hz : (deadP ⟨ins, n, code, outs⟩).code.length = 0
  · simp only [hq, hl2, htk, hle, hz, e1, e2, e3, aP, ii, EVd, List.getElem?_nil, Nat.reducePow, Nat.reduceDiv, Nat.reduceMod, FT, Int.reduceEq, Int.reduceToNat, Int.reduceLE, Int.reduceLT, Int.reduceAdd, Int.reduceMul, Int.reduceSub, Int.reduceNeg, Nat.reduceAdd, Nat.reduceSub, Nat.reduceMul, Nat.reduceLT, Nat.reduceBEq, Nat.reduceEqDiff, Nat.reduceLeDiff]
    simp [nlE, cpE, sC, sI, hz]
  · simp only [hq, hl2, htk, hle, hz, e1, e2, e3, aP, ii, EVd, List.getElem?_nil, Nat.reducePow, Nat.reduceDiv, Nat.reduceMod, FT, Int.reduceEq, Int.reduceToNat, Int.reduceLE, Int.reduceLT, Int.reduceAdd, Int.reduceMul, Int.reduceSub, Int.reduceNeg, Nat.reduceAdd, Nat.reduceSub, Nat.reduceMul, Nat.reduceLT, Nat.reduceBEq, Nat.reduceEqDiff, Nat.reduceLeDiff]
    simp [nlE, cpE, sC, sI, hz]
end Go.Proofs.Sw
namespace Go.Proofs.Sw
open Go.Ab
variable [Globals]
def askL (base : List Bool) : List Ins → List Bool
  | [] => base
  | i :: rest => mark ((askL base rest).set i.to.toNat false) true (asks i)
theorem askL_length (base : List Bool) : ∀ code : List Ins, (askL base code).length = base.length
  | [] => rfl
  | i :: rest => by rw [askL, mark_length]; simp [askL_length base rest]
def askedM (p : Pg) : List Bool := askL (asked0 p.regs.toNat p.outs) p.code
theorem loop_Asked_6 (kf : Nat) (pc cq : AObj) (n : Nat) (outs : List Int) (nl : Bool) (cap : Option Nat) (hlen : outs.length ≤ 4611686018427387904) (hr : ∀ r ∈ outs, 0 ≤ r ∧ r < n) (as0 : List Bool) (ha0 : as0.length = n)
    (k : Nat) (l : Ass) (H : Heap) (z : Option Out) (hz : loopR Try.prog tab kf none LB31_6 31 55 [4, 6, 25, 26, 27] 4 k l H = z) (hk : outs.length < k)
    (h4 : asc l 4 = .ptr 1 0) (h6 : asc l 6 = .ptr 3 0) (h25 : asc l 25 = sI outs nl cap) (h26 : asc l 26 = ii outs.length) (h27 : asc l 27 = ii (0 : Nat)) (hH : H = [pc, cq, rB as0, .cells 64 [.hsl 2 0 n n 1]]) :
    z = some (.exit 0 (fr 55 [(28, bb false), (4, .ptr 1 0), (6, .ptr 3 0), (25, sI outs nl cap), (26, ii outs.length), (27, ii outs.length)]) [pc, cq, rB (mark as0 true outs), .cells 64 [.hsl 2 0 n n 1]]) := by
  subst hH
  subst hz
  refine loop_nat outs.length (fun k l H => loopR Try.prog tab kf none LB31_6 31 55 [4, 6, 25, 26, 27] 4 k l H)
    (fun i l H => asc l 4 = .ptr 1 0 ∧ asc l 6 = .ptr 3 0 ∧ asc l 25 = sI outs nl cap ∧ asc l 26 = ii outs.length ∧ asc l 27 = ii i ∧ H = [pc, cq, rB (mark as0 true (outs.take i)), .cells 64 [.hsl 2 0 n n 1]])
    (fun z => z = some (.exit 0 (fr 55 [(28, bb false), (4, .ptr 1 0), (6, .ptr 3 0), (25, sI outs nl cap), (26, ii outs.length), (27, ii outs.length)]) [pc, cq, rB (mark as0 true outs), .cells 64 [.hsl 2 0 n n 1]])) ?_ outs.length 0 k l _ (by omega) hk ⟨h4, h6, h25, h26, h27, rfl⟩
  clear h4 h6 h25 h26 h27 hk
  rintro i k l H hi ⟨h4, h6, h25, h26, h27, rfl⟩
  have ht : ∀ q : List Bool, trim 4 (fr 55 (keep l [4, 6, 25, 26, 27])) [pc, cq, rB q, .cells 64 [.hsl 2 0 n n 1]] = [pc, cq, rB q, .cells 64 [.hsl 2 0 n n 1]] := fun q => trim_same rfl
  by_cases hc : i < outs.length
  · refine .inr ?_
    have hc' : ((i : Int) < outs.length) := by omega
    have hc0 : (0 : Int) ≤ i := by omega
    have hx := encInts_get hc
    have hw := wrap_succ hc hlen
    obtain ⟨x, hX⟩ : ∃ x, x = outs[i] := ⟨_, rfl⟩
    rw [← hX] at hx
    obtain ⟨x0, x1⟩ := hr x (by rw [hX]; exact List.getElem_mem hc)
    have hm : (mark as0 true (outs.take i)).length = n := by rw [mark_length]; exact ha0
    have hnx : mark as0 true (outs.take (i + 1)) = (mark as0 true (outs.take i)).set x.toNat true := by rw [List.take_succ_eq_append_getElem hc, mark_snoc, ← hX]
    have hxl : x.toNat < n := by omega
    have hel : (encB (mark as0 true (outs.take i))).length = n := by rw [encB_length, hm]
    simp only [loopR_succ, ht]
    simp only [h4, h6, h25, h26, h27, hc', hc0, hx, hw, x0, x1, hel, hxl, encB_set, loopR_succ, loopOf, findLoop, firstRegion, Option.some_or, Option.none_or, Option.getD_some, Option.some.injEq, Try.f31, FT, Int.reduceEq, Int.reduceToNat, Int.reduceLE, Int.reduceLT, Int.reduceAdd, Int.reduceMul, Int.reduceSub, Int.reduceNeg, Nat.reduceAdd, Nat.reduceSub, Nat.reduceMul, Nat.reduceLT, Nat.reduceBEq, Nat.reduceEqDiff, Nat.reduceLeDiff]
    exact ⟨_, _, hc, rfl, (by rfl), (by rfl), (by rfl), (by rfl), (by rfl), by rw [hnx]⟩
  · refine .inl ?_
    have hc' : ¬ ((i : Int) < outs.length) := by omega
    have he : outs.take i = outs := List.take_of_length_le (by omega)
    obtain rfl : i = outs.length := by omega
    simp only [loopR_succ, ht]
    simp only [h4, h6, h25, h26, h27, hc', he, loopR_succ, loopOf, findLoop, firstRegion, Option.some_or, Option.none_or, Option.getD_some, Option.some.injEq, Try.f31, FT, Int.reduceEq, Int.reduceToNat, Int.reduceLE, Int.reduceLT, Int.reduceAdd, Int.reduceMul, Int.reduceSub, Int.reduceNeg, Nat.reduceAdd, Nat.reduceSub, Nat.reduceMul, Nat.reduceLT, Nat.reduceBEq, Nat.reduceEqDiff, Nat.reduceLeDiff]
theorem loop_Asked_14 (kf : Nat) (ar : Option Nat) (pc cq : AObj) (X : Heap) (n : Nat) (rs : List Int) (nl : Bool) (cap : Option Nat) (hlen : rs.length ≤ 4611686018427387904) (hr : ∀ r ∈ rs, 0 ≤ r ∧ r < n) (as0 : List Bool) (ha0 : as0.length = n)
    (k : Nat) (l : Ass) (m : Nat) (z : Option Out) (hz : loopR Try.prog tab kf ar LB31_14 31 55 [6, 44, 45, 46] m k l (pc :: cq :: rB as0 :: .cells 64 [.hsl 2 0 n n 1] :: X) = z) (hm : X.length + 4 = m) (hk : rs.length < k)
    (h6 : asc l 6 = .ptr 3 0) (h44 : asc l 44 = sI rs nl cap) (h45 : asc l 45 = ii rs.length) (h46 : asc l 46 = ii (0 : Nat)) :
    z = some (.exit 4 (fr 55 [(47, bb false), (6, .ptr 3 0), (44, sI rs nl cap), (45, ii rs.length), (46, ii rs.length)]) (pc :: cq :: rB (mark as0 true rs) :: .cells 64 [.hsl 2 0 n n 1] :: X)) := by
  subst hz
  refine loop_nat rs.length (fun k l H => loopR Try.prog tab kf ar LB31_14 31 55 [6, 44, 45, 46] m k l H)
    (fun i l H => asc l 6 = .ptr 3 0 ∧ asc l 44 = sI rs nl cap ∧ asc l 45 = ii rs.length ∧ asc l 46 = ii i ∧ H = pc :: cq :: rB (mark as0 true (rs.take i)) :: .cells 64 [.hsl 2 0 n n 1] :: X)
    (fun z => z = some (.exit 4 (fr 55 [(47, bb false), (6, .ptr 3 0), (44, sI rs nl cap), (45, ii rs.length), (46, ii rs.length)]) (pc :: cq :: rB (mark as0 true rs) :: .cells 64 [.hsl 2 0 n n 1] :: X))) ?_ rs.length 0 k l _ (by omega) hk ⟨h6, h44, h45, h46, rfl⟩
  clear h6 h44 h45 h46 hk
  rintro i k l H hi ⟨h6, h44, h45, h46, rfl⟩
  have ht : ∀ q : List Bool, trim m (fr 55 (keep l [6, 44, 45, 46])) (pc :: cq :: rB q :: .cells 64 [.hsl 2 0 n n 1] :: X) = pc :: cq :: rB q :: .cells 64 [.hsl 2 0 n n 1] :: X := fun q => trim_same (by simp; omega)
  by_cases hc : i < rs.length
  · refine .inr ?_
    have hc' : ((i : Int) < rs.length) := by omega
    have hc0 : (0 : Int) ≤ i := by omega
    have hx := encInts_get hc
    have hw := wrap_succ hc hlen
    obtain ⟨x, hX⟩ : ∃ x, x = rs[i] := ⟨_, rfl⟩
    rw [← hX] at hx
    obtain ⟨x0, x1⟩ := hr x (by rw [hX]; exact List.getElem_mem hc)
    have hm : (mark as0 true (rs.take i)).length = n := by rw [mark_length]; exact ha0
    have hnx : mark as0 true (rs.take (i + 1)) = (mark as0 true (rs.take i)).set x.toNat true := by rw [List.take_succ_eq_append_getElem hc, mark_snoc, ← hX]
    have hxl : x.toNat < n := by omega
    have hel : (encB (mark as0 true (rs.take i))).length = n := by rw [encB_length, hm]
    simp only [loopR_succ, ht]
    simp only [h6, h44, h45, h46, hc', hc0, hx, hw, x0, x1, hel, hxl, encB_set, loopR_succ, loopOf, findLoop, firstRegion, Option.some_or, Option.none_or, Option.getD_some, Option.some.injEq, Try.f31, FT, Int.reduceEq, Int.reduceToNat, Int.reduceLE, Int.reduceLT, Int.reduceAdd, Int.reduceMul, Int.reduceSub, Int.reduceNeg, Nat.reduceAdd, Nat.reduceSub, Nat.reduceMul, Nat.reduceLT, Nat.reduceBEq, Nat.reduceEqDiff, Nat.reduceLeDiff]
    exact ⟨_, _, hc, rfl, (by rfl), (by rfl), (by rfl), (by rfl), by rw [hnx]⟩
  · refine .inl ?_
    have hc' : ¬ ((i : Int) < rs.length) := by omega
    have he : rs.take i = rs := List.take_of_length_le (by omega)
    obtain rfl : i = rs.length := by omega
    simp only [loopR_succ, ht]
    simp only [h6, h44, h45, h46, hc', he, loopR_succ, loopOf, findLoop, firstRegion, Option.some_or, Option.none_or, Option.getD_some, Option.some.injEq, Try.f31, FT, Int.reduceEq, Int.reduceToNat, Int.reduceLE, Int.reduceLT, Int.reduceAdd, Int.reduceMul, Int.reduceSub, Int.reduceNeg, Nat.reduceAdd, Nat.reduceSub, Nat.reduceMul, Nat.reduceLT, Nat.reduceBEq, Nat.reduceEqDiff, Nat.reduceLeDiff]
noncomputable abbrev hA (y0 y1 y2 y3 x0 x1 x2 x3 : IV) (n : Nat) (cs : IV) (l0 l1 : Ass) (aq : List Bool) : Heap :=
  [.cells 25 [.c y0, .c y1, .c y2, .c y3], .cells 25 [.c x0, .c x1, .c x2, .c x3], rB aq, .cells 64 [.hsl 2 0 n n 1], .cells 25 [.c x0, .c x1, .c x2, .c x3],
   rfObj #[37, 38] RA31_11 RB31_11 31 .ready none (fr 55 l0), .cells 163 [.yld 5], .cells 22 [.c cs], rfObj #[11, 12] RA110_3 RB110_3 110 .ready none (fr 18 l1)]
theorem loop_Asked_B (kf : Nat) (y0 y1 y2 y3 x0 x1 x2 x3 : IV) (n : Nat) (code : List Ins) (nl : Bool) (cap : Option Nat) (l0 l1 : Ass) (c0 : (l0.all fun e => AV.under 9 e.2) = true) (c1 : (l1.all fun e => AV.under 9 e.2) = true)
    (g6 : asc l0 6 = .ptr 3 0) (g2 : asc l1 2 = .ptr 6 0) (as0 : List Bool) (ha0 : as0.length = n) (hcode : ∀ i ∈ code, mayM i n = true) (hlen : code.length ≤ 1000000)
    (k : Nat) (l : Ass) (z : Option Out) (hz : loopR Try.prog tab (kf + 10) none LB128_1 128 19 [0, 1, 3] 9 k l (hA y0 y1 y2 y3 x0 x1 x2 x3 n (.slice (encCode code) code.length nl cap) l0 l1 as0) = z) (hk : code.length < k)
    (a0 : asc l 0 = .yld 8) (a1 : asc l 1 = .ptr 7 0) (a3 : asc l 3 = ii ((code.length : Int) - 1)) :
    ∃ l', z = some (.exit 0 (fr 19 l') (hA y0 y1 y2 y3 x0 x1 x2 x3 n (.slice (encCode code) code.length nl cap) l0 l1 (askL as0 code))) := by
  subst hz
  refine loop_nat code.length (fun k l H => loopR Try.prog tab (kf + 10) none LB128_1 128 19 [0, 1, 3] 9 k l H)
    (fun j l H => asc l 0 = .yld 8 ∧ asc l 1 = .ptr 7 0 ∧ asc l 3 = ii ((code.length : Int) - j - 1) ∧
      H.take 9 = hA y0 y1 y2 y3 x0 x1 x2 x3 n (.slice (encCode code) code.length nl cap) l0 l1 (askL as0 (code.drop (code.length - j))))
    (fun z => ∃ l', z = some (.exit 0 (fr 19 l') (hA y0 y1 y2 y3 x0 x1 x2 x3 n (.slice (encCode code) code.length nl cap) l0 l1 (askL as0 code)))) ?_ code.length 0 k l _ (by omega) hk
    ⟨a0, a1, by rw [a3]; simp, by simp [askL]⟩
  clear a0 a1 a3 hk
  rintro j k l H hj ⟨a0, a1, a3, hH⟩
  have ht : trim 9 (fr 19 (keep l [0, 1, 3])) H = hA y0 y1 y2 y3 x0 x1 x2 x3 n (.slice (encCode code) code.length nl cap) l0 l1 (askL as0 (code.drop (code.length - j))) := by
    rw [trim_fr (by simp only [a0, a1, a3, EVb, EVc, Int.reduceEq, Int.reduceToNat, Int.reduceLE, Int.reduceLT, Int.reduceAdd, Int.reduceMul, Int.reduceSub, Int.reduceNeg, Nat.reduceAdd, Nat.reduceSub, Nat.reduceMul, Nat.reduceLT, Nat.reduceBEq, Nat.reduceEqDiff, Nat.reduceLeDiff]) (by rw [hH]; simp only [c0, c1, EVb, EVc, Int.reduceEq, Int.reduceToNat, Int.reduceLE, Int.reduceLT, Int.reduceAdd, Int.reduceMul, Int.reduceSub, Int.reduceNeg, Nat.reduceAdd, Nat.reduceSub, Nat.reduceMul, Nat.reduceLT, Nat.reduceBEq, Nat.reduceEqDiff, Nat.reduceLeDiff]), hH]
  by_cases hc : j < code.length
  · refine .inr ?_
    obtain ⟨i, hi⟩ : ∃ i, i + 1 = code.length - j := ⟨code.length - j - 1, by omega⟩
    rw [← hi] at ht
    have hil : i < code.length := by omega
    obtain ⟨x, hX⟩ : ∃ x, x = code[i] := ⟨_, rfl⟩
    have hd : code.drop i = x :: code.drop (i + 1) := by rw [hX]; exact List.drop_eq_getElem_cons hil
    have hx := encCode_get hil
    rw [← hX] at hx
    have a3' : asc l 3 = ii (i : Int) := by rw [a3]; congr 2; omega
    have hi0 : (0 : Int) ≤ i := by omega
    have hi1 : (i : Int) < code.length := by omega
    have hi2 : i < code.length := by omega
    have hw : IntKind.wrap .i64 ((i : Int) - 1) = (code.length : Int) - (j + 1 : Nat) - 1 := by rw [wrap64 (by omega) (by omega)]; omega
    have hm := hcode x (by rw [hX]; exact List.getElem_mem hil)
    obtain ⟨aq, haq⟩ : ∃ aq, aq = askL as0 (code.drop (i + 1)) := ⟨_, rfl⟩
    have hdd : code.drop (code.length - j) = code.drop (i + 1) := by rw [hi]
    rw [hi, hdd, ← haq] at ht
    have haql : aq.length = n := by rw [haq, askL_length]; exact ha0
    have hel : (encB aq).length = n := by rw [encB_length, haql]
    have hm' := hm
    simp only [mayM, Bool.and_eq_true, decide_eq_true_eq] at hm'
    obtain ⟨⟨⟨⟨m1, m2, m3, m4, m5⟩, _⟩, m6⟩, m7⟩ := hm'
    have ht2 : x.to.toNat < n := by omega
    have hget := encB_get (l := aq) m3 (by rw [haql]; exact m4)
    have hnx : code.drop (code.length - (j + 1)) = x :: code.drop (i + 1) := by rw [← hd]; congr 1; omega
    have hii : code.length - (j + 1) = i := by omega
    have hran : ∀ r ∈ asks x, 0 ≤ r ∧ r < (n : Int) := by
      intro r hr
      unfold asks at hr
      split at hr
      · rename_i h34
        simp only [List.mem_cons, List.not_mem_nil, or_false] at hr
        rcases hr with rfl | rfl
        · exact m6
        · exact m7 h34
      · split at hr
        · simp only [List.mem_cons, List.not_mem_nil, or_false] at hr
          subst hr
          exact m6
        · cases hr
    have hnew : askL as0 (x :: code.drop (i + 1)) = mark (aq.set x.to.toNat false) true (asks x) := by rw [askL, ← haq]
    have hAs := asks_ev (kf + 7) x.op x.to x.a x.b x.c
    simp only [run, aI, ii, sI] at hAs
    have hal : (asks x).length ≤ 2 := by unfold asks; split <;> (try split) <;> simp
    simp only [loopR_succ, ht]
    simp only [a0, a1, a3', hi0, hi1, hi2, hx, hw, g6, g2, evalT_round, roundA_rf, hel, ht2, m3, m4, hget, hAs, encB_set, rfAs, rfBd, rfOf, findRF, firstRegion, Option.some_or, Option.none_or, Option.getD_some, Option.some.injEq, findLoop, loopOf, loopR_succ, loopOf, findLoop, firstRegion, Option.some_or, Option.none_or, Option.getD_some, Option.some.injEq, Try.f128, Try.f110, Try.f31, FT, Int.reduceEq, Int.reduceToNat, Int.reduceLE, Int.reduceLT, Int.reduceAdd, Int.reduceMul, Int.reduceSub, Int.reduceNeg, Nat.reduceAdd, Nat.reduceSub, Nat.reduceMul, Nat.reduceLT, Nat.reduceBEq, Nat.reduceEqDiff, Nat.reduceLeDiff]
    rw [evalCode_loopB LB31_14 lp31_14]; rotate_left; rfl; rfl; rfl
    generalize hz : loopR _ _ _ _ _ _ _ _ _ _ _ _ = z
    have h15 := loop_Asked_14 (kf + 8) (some 5) _ _ _ n (asks x) (nlE (asks x)) (cpE (asks x)) (by omega) hran (aq.set x.to.toNat false) (by simp [haql]) _ _ _ z hz (by rfl) (by omega) (by simp only [g6, EVb, EVc, Int.reduceEq, Int.reduceToNat, Int.reduceLE, Int.reduceLT, Int.reduceAdd, Int.reduceMul, Int.reduceSub, Int.reduceNeg, Nat.reduceAdd, Nat.reduceSub, Nat.reduceMul, Nat.reduceLT, Nat.reduceBEq, Nat.reduceEqDiff, Nat.reduceLeDiff]) (by simp only [EVb, EVc, Int.reduceEq, Int.reduceToNat, Int.reduceLE, Int.reduceLT, Int.reduceAdd, Int.reduceMul, Int.reduceSub, Int.reduceNeg, Nat.reduceAdd, Nat.reduceSub, Nat.reduceMul, Nat.reduceLT, Nat.reduceBEq, Nat.reduceEqDiff, Nat.reduceLeDiff]) (by simp only [EVb, EVc, Int.reduceEq, Int.reduceToNat, Int.reduceLE, Int.reduceLT, Int.reduceAdd, Int.reduceMul, Int.reduceSub, Int.reduceNeg, Nat.reduceAdd, Nat.reduceSub, Nat.reduceMul, Nat.reduceLT, Nat.reduceBEq, Nat.reduceEqDiff, Nat.reduceLeDiff]) (by simp only [EVb, EVc, Int.reduceEq, Int.reduceToNat, Int.reduceLE, Int.reduceLT, Int.reduceAdd, Int.reduceMul, Int.reduceSub, Int.reduceNeg, Nat.reduceAdd, Nat.reduceSub, Nat.reduceMul, Nat.reduceLT, Nat.reduceBEq, Nat.reduceEqDiff, Nat.reduceLeDiff])
    rw [h15]
    simp only [EVb, EVc, Int.reduceEq, Int.reduceToNat, Int.reduceLE, Int.reduceLT, Int.reduceAdd, Int.reduceMul, Int.reduceSub, Int.reduceNeg, Nat.reduceAdd, Nat.reduceSub, Nat.reduceMul, Nat.reduceLT, Nat.reduceBEq, Nat.reduceEqDiff, Nat.reduceLeDiff]
    refine ⟨_, _, hc, rfl, (by rfl), (by rfl), (by rw [← hw]; rfl), ?_⟩
    rw [hnx, hnew]
    rfl
  · refine .inl ?_
    obtain rfl : j = code.length := by omega
    have hc' : ¬ ((0 : Int) ≤ (code.length : Int) - code.length - 1) := by omega
    simp only [Nat.sub_self, List.drop_zero] at ht
    simp only [loopR_succ, ht]
    simp only [a0, a1, a3, hc', loopR_succ, loopOf, findLoop, firstRegion, Option.some_or, Option.none_or, Option.getD_some, Option.some.injEq, Try.f128, FT, Int.reduceEq, Int.reduceToNat, Int.reduceLE, Int.reduceLT, Int.reduceAdd, Int.reduceMul, Int.reduceSub, Int.reduceNeg, Nat.reduceAdd, Nat.reduceSub, Nat.reduceMul, Nat.reduceLT, Nat.reduceBEq, Nat.reduceEqDiff, Nat.reduceLeDiff]
    exact ⟨_, rfl⟩
end Go.Proofs.Sw
namespace Go.Proofs.Sw
open Go.Ab
variable [Globals]
theorem keepL_mem : ∀ (c : List Ins) (fl : List Bool) (x : Ins), x ∈ keepL c fl → x ∈ c
  | [], _, x, h => by simp [keepL] at h
  | i :: c, [], x, h => by simp [keepL] at h
  | i :: c, f :: fl, x, h => by
    simp only [keepL] at h
    split at h
    · rcases List.mem_cons.1 h with rfl | h
      · simp
      · exact List.mem_cons_of_mem _ (keepL_mem c fl x h)
    · exact List.mem_cons_of_mem _ (keepL_mem c fl x h)
theorem deadP_right {p : Pg} (hr : rightM p = true) : rightM (deadP p) = true := by
  simp only [rightM, Bool.and_eq_true] at hr ⊢
  obtain ⟨⟨h1, h2⟩, h3⟩ := hr
  refine ⟨⟨?_, h2⟩, ?_⟩
  · have := keepL_len p.code (neededM p)
    unfold headM at h1 ⊢
    rw [decide_eq_true_eq] at h1 ⊢
    show _ ∧ _ ∧ _ ∧ (keepL p.code (neededM p)).length ≤ 16384 ∧ _
    exact ⟨h1.1, h1.2.1, h1.2.2.1, by have := h1.2.2.2.1; omega, h1.2.2.2.2⟩
  · simp only [codeM, deadP, List.all_eq_true] at h3 ⊢
    exact fun x hx => h3 x (keepL_mem _ _ x hx)
theorem Asked_bad (k : Nat) (p : Pg) (nl : Bool) (cap : Option Nat) (nl2 : Bool) (cap2 : Option Nat) (hk : p.outs.length + p.code.length + 100 ≤ k) (hr : rightM p = false) :
    run (k+1) 31 [aP p nl cap nl2 cap2] = some (.tup [.c (.slice [] 0 true (some 0)), ii 80]) := by
  have hrt := deadPass_bad (k - 1) p nl cap nl2 cap2 (by omega) hr
  rw [show k - 1 + 1 = k by omega] at hrt
  simp only [run, aP, ii, sC, sI, bb] at hrt
  rw [run, ev31, ans_trim]
  simp only [Try.f31, aP, ii, bb, hrt, FT, Int.reduceEq, Int.reduceToNat, Int.reduceLE, Int.reduceLT, Int.reduceAdd, Int.reduceMul, Int.reduceSub, Int.reduceNeg, Nat.reduceAdd, Nat.reduceSub, Nat.reduceMul, Nat.reduceLT, Nat.reduceBEq, Nat.reduceEqDiff, Nat.reduceLeDiff]
theorem Asked_ev (k n : Nat) (ins : Int) (code0 : List Ins) (outs : List Int) (nl0 : Bool) (cap0 cap2 : Option Nat) (hk : outs.length + code0.length + 200 ≤ k) (hr0 : rightM ⟨ins, n, code0, outs⟩ = true) :
    run (k+1) 31 [aP ⟨ins, n, code0, outs⟩ nl0 cap0 false cap2] = some (.tup [sB (askedM (deadP ⟨ins, n, code0, outs⟩)) false none, ii 0]) := by
  obtain ⟨k, rfl⟩ : ∃ j, k = j + 60 := ⟨k - 60, by omega⟩
  have hps := deadPass_ev (k + 59) n ins code0 outs nl0 cap0 cap2 (by omega) hr0
  have hr := deadP_right hr0
  obtain ⟨code, hcd⟩ : ∃ code, code = keepL code0 (neededM ⟨ins, n, code0, outs⟩) := ⟨_, rfl⟩
  have hdp : deadP ⟨ins, n, code0, outs⟩ = ⟨ins, n, code, outs⟩ := by rw [hcd]; rfl
  rw [hdp] at hr hps ⊢
  have hcl : code.length ≤ code0.length := by rw [hcd]; exact keepL_len _ _
  have hr' := hr
  simp only [rightM, headM, Bool.and_eq_true, decide_eq_true_eq] at hr'
  obtain ⟨⟨hh, ho⟩, hc⟩ := hr'
  have q1 : (0 : Int) ≤ n := by omega
  have q2 : n ≤ roomBytes := Nat.le_trans (show n ≤ 128 by omega) (by decide)
  have hout : ∀ r ∈ outs, 0 ≤ r ∧ r < (n : Int) := fun r h => by have := List.all_eq_true.1 ho r h; simpa using this
  have hcode : ∀ i ∈ code, mayM i n = true := fun i h => List.all_eq_true.1 hc i h
  obtain ⟨nl, hnl⟩ : ∃ nl, nl = nlE code := ⟨_, rfl⟩
  obtain ⟨cap, hcap⟩ : ∃ cap, cap = cpE code := ⟨_, rfl⟩
  simp only [← hnl, ← hcap] at hps
  have hbk := Back_raw (k + 59) (ii ins) (ii n) (sC code nl cap) (sI outs false none) rfl
  have hba := Back_ans (k + 59) (ii ins) (ii n) (sC code nl cap) (sI outs false none) rfl
  have hrt := right_ev (k + 58) ⟨ins, n, code, outs⟩ nl cap false none (by simp only; omega)
  have hwr := Backward_raw (k + 58) (.slice (encCode code) code.length nl cap)
  have hwa := Backward_ans (k + 58) (.slice (encCode code) code.length nl cap)
  have hw : IntKind.wrap .i64 ((code.length : Int) - 1) = (code.length : Int) - 1 := by rw [wrap64 (by omega) (by omega)]
  simp only [run, aP, ii, sC, sI, bb, hr] at hbk hba hrt hps
  rw [run, ev31, ans_trim]
  simp only [Try.f31, aP, ii, bb, q1, q2, hps, encB_rep, FT, Int.reduceEq, Int.reduceToNat, Int.reduceLE, Int.reduceLT, Int.reduceAdd, Int.reduceMul, Int.reduceSub, Int.reduceNeg, Nat.reduceAdd, Nat.reduceSub, Nat.reduceMul, Nat.reduceLT, Nat.reduceBEq, Nat.reduceEqDiff, Nat.reduceLeDiff]
  rw [evalCode_loopB LB31_6 lp31_6]; rotate_left; rfl; rfl; rfl
  generalize hz : loopR _ _ _ _ _ _ _ _ _ _ _ _ = z
  obtain rfl := loop_Asked_6 (k + 60) _ _ n outs false none (by omega) hout (List.replicate n false) (by simp) _ _ _ z hz (by omega) (by rfl) (by rfl) (by rfl) (by rfl) (by rfl) (by rfl)
  clear hz
  simp only [hba, hbk, FT, Int.reduceEq, Int.reduceToNat, Int.reduceLE, Int.reduceLT, Int.reduceAdd, Int.reduceMul, Int.reduceSub, Int.reduceNeg, Nat.reduceAdd, Nat.reduceSub, Nat.reduceMul, Nat.reduceLT, Nat.reduceBEq, Nat.reduceEqDiff, Nat.reduceLeDiff]
  rw [evalCode_rf RA31_11 RB31_11]; rotate_left; rfl; rfl
  simp only [hba, hbk, ev110, Try.f110, hrt, hwa, hwr, FT, Int.reduceEq, Int.reduceToNat, Int.reduceLE, Int.reduceLT, Int.reduceAdd, Int.reduceMul, Int.reduceSub, Int.reduceNeg, Nat.reduceAdd, Nat.reduceSub, Nat.reduceMul, Nat.reduceLT, Nat.reduceBEq, Nat.reduceEqDiff, Nat.reduceLeDiff]
  rw [evalCode_rf RA110_3 RB110_3]; rotate_left; rfl; rfl
  simp only [ev128, Try.f128, hw, FT, Int.reduceEq, Int.reduceToNat, Int.reduceLE, Int.reduceLT, Int.reduceAdd, Int.reduceMul, Int.reduceSub, Int.reduceNeg, Nat.reduceAdd, Nat.reduceSub, Nat.reduceMul, Nat.reduceLT, Nat.reduceBEq, Nat.reduceEqDiff, Nat.reduceLeDiff]
  rw [evalCode_loopB LB128_1 lp128_1]; rotate_left; rfl; rfl; rfl
  generalize hz : loopR _ _ _ _ _ _ _ _ _ _ _ _ = z
  obtain ⟨l', rfl⟩ := loop_Asked_B (k + 48) (.int .i64 ins) (.int .i64 n) (.slice (encCode code0) code0.length nl0 cap0) (.slice (encInts outs) outs.length false cap2) (.int .i64 ins) (.int .i64 n) (.slice (encCode code) code.length nl cap) (.slice (encInts outs) outs.length false none) n code nl cap _ _ (by rfl) (by rfl) (by rfl) (by rfl)
    (asked0 n outs) (by simp [asked0, mark_length]) hcode (by omega) _ _ z hz (by omega) (by rfl) (by rfl) (by rfl)
  have hal : (askL (asked0 n outs) code).length = n := by rw [askL_length]; simp [asked0, mark_length]
  have hfl : (encB (askL (asked0 n outs) code)).length = n := by rw [encB_length, hal]
  have htk : (encB (askL (asked0 n outs) code)).take n = encB (askL (asked0 n outs) code) := List.take_of_length_le (by omega)
  have hnm : askedM ⟨ins, n, code, outs⟩ = askL (asked0 n outs) code := rfl
  simp only [FT, Int.reduceEq, Int.reduceToNat, Int.reduceLE, Int.reduceLT, Int.reduceAdd, Int.reduceMul, Int.reduceSub, Int.reduceNeg, Nat.reduceAdd, Nat.reduceSub, Nat.reduceMul, Nat.reduceLT, Nat.reduceBEq, Nat.reduceEqDiff, Nat.reduceLeDiff]
  rw [hnm]
  simp only [hfl, htk, encB_length, Nat.le_refl, sB, hal, FT, Int.reduceEq, Int.reduceToNat, Int.reduceLE, Int.reduceLT, Int.reduceAdd, Int.reduceMul, Int.reduceSub, Int.reduceNeg, Nat.reduceAdd, Nat.reduceSub, Nat.reduceMul, Nat.reduceLT, Nat.reduceBEq, Nat.reduceEqDiff, Nat.reduceLeDiff]
end Go.Proofs.Sw
namespace Go.Proofs.Sw
open Go.Ab
variable [Globals]
theorem long_ev (k : Nat) (p : Pg) (nl : Bool) (cap : Option Nat) (nl2 : Bool) (cap2 : Option Nat) : run (k+1) 34 [aP p nl cap nl2 cap2] = some (bb (decide (300 < p.code.length ∧ p.code.length ≤ 16384))) := by
  rw [run, ev34, ans_trim]
  simp only [Try.f34, aP, ii, bb, FT, Int.reduceEq, Int.reduceToNat, Int.reduceLE, Int.reduceLT, Int.reduceAdd, Int.reduceMul, Int.reduceSub, Int.reduceNeg, Nat.reduceAdd, Nat.reduceSub, Nat.reduceMul, Nat.reduceLT, Nat.reduceBEq, Nat.reduceEqDiff, Nat.reduceLeDiff]
  repeat' (first
    | (rw [condO_dec]; split <;> simp only [*, FT, Int.reduceEq, Int.reduceToNat, Int.reduceLE, Int.reduceLT, Int.reduceAdd, Int.reduceMul, Int.reduceSub, Int.reduceNeg, Nat.reduceAdd, Nat.reduceSub, Nat.reduceMul, Nat.reduceLT, Nat.reduceBEq, Nat.reduceEqDiff, Nat.reduceLeDiff])
    | (rw [condO_ite]; split <;> simp only [*, FT, Int.reduceEq, Int.reduceToNat, Int.reduceLE, Int.reduceLT, Int.reduceAdd, Int.reduceMul, Int.reduceSub, Int.reduceNeg, Nat.reduceAdd, Nat.reduceSub, Nat.reduceMul, Nat.reduceLT, Nat.reduceBEq, Nat.reduceEqDiff, Nat.reduceLeDiff])
    | (split <;> simp only [*, FT, Int.reduceEq, Int.reduceToNat, Int.reduceLE, Int.reduceLT, Int.reduceAdd, Int.reduceMul, Int.reduceSub, Int.reduceNeg, Nat.reduceAdd, Nat.reduceSub, Nat.reduceMul, Nat.reduceLT, Nat.reduceBEq, Nat.reduceEqDiff, Nat.reduceLeDiff]))
  all_goals (simp only [Option.some.injEq, AV.c.injEq, IV.bool.injEq]; rw [Bool.eq_iff_iff]; simp; omega)
end Go.Proofs.Sw
namespace Go.Proofs.Sw
open Go.Ab
variable [Globals]
theorem set_self {l : List Bool} {j : Nat} (h : l.getD j false = true) : l.set j true = l := by
  by_cases hj : j < l.length
  · apply List.ext_getElem?
    intro i
    rw [List.getElem?_set]
    split
    · rename_i e; subst e
      simp [hj] at h ⊢
      try rw [h]
    · rfl
  · rw [List.set_eq_of_length_le (by omega)]
theorem nothing_mark {l : List Bool} {i : Ins} (hn : nothing i = true) (h : l.getD i.to.toNat false = true) : mark (l.set i.to.toNat false) true (asks i) = l := by
  simp only [nothing, decide_eq_true_eq] at hn
  have ha : asks i = [i.a] := asks_one (by omega) (by omega)
  rw [ha]
  simp only [mark]
  rw [← hn.2, List.set_set]
  exact set_self h
theorem needL_keep (base : List Bool) : ∀ code : List Ins, needL base (keepL code (needL base code).2) = ((needL base code).1, List.replicate (keepL code (needL base code).2).length true)
  | [] => rfl
  | i :: rest => by
    have ih := needL_keep base rest
    by_cases hq : (needL base rest).1.getD i.to.toNat false = true
    · have e : needL base (i :: rest) = (mark ((needL base rest).1.set i.to.toNat false) true (asks i), true :: (needL base rest).2) := by simp only [needL]; rw [if_pos hq]
      rw [e]
      by_cases hn : nothing i = true
      · have hk : keepL (i :: rest) (true :: (needL base rest).2) = keepL rest (needL base rest).2 := by simp [keepL, hn]
        rw [hk, ih, nothing_mark hn hq]
      · have hk : keepL (i :: rest) (true :: (needL base rest).2) = i :: keepL rest (needL base rest).2 := by simp [keepL, hn]
        rw [hk, needL, ih]
        simp only [hq, if_true, List.length_cons, List.replicate_succ]
    · have e : needL base (i :: rest) = ((needL base rest).1, false :: (needL base rest).2) := by simp only [needL]; rw [if_neg hq]
      have hk : keepL (i :: rest) (false :: (needL base rest).2) = keepL rest (needL base rest).2 := by simp [keepL]
      rw [e, hk, ih]
end Go.Proofs.Sw
namespace Go.Proofs.Sw
open Go.Ab
variable [Globals]
theorem askL_of (base : List Bool) : ∀ code : List Ins, (needL base code).2 = List.replicate code.length true → askL base code = (needL base code).1
  | [], _ => rfl
  | i :: rest, h => by
    rw [needL] at h ⊢
    by_cases hq : (needL base rest).1.getD i.to.toNat false = true
    · simp only [hq, if_true, List.length_cons, List.replicate_succ, List.cons.injEq, true_and] at h ⊢
      rw [askL, askL_of base rest h]
    · simp only [hq, if_false, List.length_cons, List.replicate_succ, List.cons.injEq] at h
      simp at h
theorem asked_need (p : Pg) : askedM (deadP p) = (needL (asked0 p.regs.toNat p.outs) p.code).1 := by
  have h := needL_keep (asked0 p.regs.toNat p.outs) p.code
  have e : (deadP p).code = keepL p.code (needL (asked0 p.regs.toNat p.outs) p.code).2 := rfl
  show askL (asked0 p.regs.toNat p.outs) (deadP p).code = _
  rw [e, askL_of _ _ (by rw [h]), h]
theorem asked_same {α : Type} (M : Sem α) {ins : Int} {n : Nat} {code : List Ins} {outs : List Int} (hr : rightM ⟨ins, n, code, outs⟩ = true) {R S Q T : List α} (hR : R.length = n) (hS : S.length = n) (h1 : runE M code R = some Q) (h2 : runE M code S = some T)
    (h : agreeA M (askedM (deadP ⟨ins, n, code, outs⟩)) R S) : outs.map (fun r => Q.getD r.toNat M.d) = outs.map (fun r => T.getD r.toNat M.d) := by
  simp only [rightM, headM, codeM, outsM, Bool.and_eq_true, decide_eq_true_eq, List.all_eq_true] at hr
  obtain ⟨⟨_, ho⟩, hc⟩ := hr
  rw [asked_need] at h
  have hb : (asked0 (n : Int).toNat outs).length = n := by simp [asked0, mark_length]
  have hg := agree_run M hb code R S Q T hc hR hS h1 h2 h
  refine List.map_congr_left fun r hr => hg r.toNat ?_
  obtain ⟨r0, r1⟩ := ho r hr
  exact mark_new _ _ r hr (by simp; omega)
end Go.Proofs.Sw
namespace Go.Proofs.Sw
open Go.Ab
variable [Globals]
theorem l15works_ev (k : Nat) : run (k+60) 29 [] = some (bb true) := by kernel_rfl
theorem right_nat {p : Pg} (hr : rightM p = true) : ∃ n : Nat, p.regs = n := by
  simp only [rightM, headM, Bool.and_eq_true, decide_eq_true_eq] at hr
  exact ⟨p.regs.toNat, by omega⟩
end Go.Proofs.Sw
namespace Go.Proofs.Sw.W
open Go.Ab
section
variable [Globals]
abbrev rJ (l : List Int) : AObj := .row false 2 (encInts l)
def blindL (A : List Bool) (D : List Int) (o : Int) (i : Nat) : List Int := (List.range D.length).map fun r => if r < i ∧ A.getD r false = false then o else D.getD r 0
theorem blindL_length (A : List Bool) (D : List Int) (o : Int) (i : Nat) : (blindL A D o i).length = D.length := by simp [blindL]
theorem blindL_zero (A : List Bool) (D : List Int) (o : Int) : blindL A D o 0 = D := by
  apply List.ext_getElem?
  intro r
  simp only [blindL, Nat.not_lt_zero, false_and, if_false, List.getElem?_map]
  by_cases h : r < D.length
  · simp [List.getElem?_range h, h]
  · rw [List.getElem?_eq_none (by simpa using h), List.getElem?_eq_none (by omega)]; rfl
theorem blindL_getD (A : List Bool) (D : List Int) (o : Int) (i r : Nat) (h : r < D.length) : (blindL A D o i).getD r 0 = if r < i ∧ A.getD r false = false then o else D.getD r 0 := by
  rw [List.getD_eq_getElem?_getD, blindL, List.getElem?_map, List.getElem?_range h]
  rfl
theorem blindL_asked {A : List Bool} {D : List Int} {o : Int} {i : Nat} (h : A.getD i false = true) : blindL A D o (i + 1) = blindL A D o i := by
  unfold blindL
  refine List.map_congr_left fun r _ => ?_
  by_cases e : r = i
  · subst e; simp only [h, Bool.true_eq_false, and_false, if_false]
  · simp only [show (r < i + 1) = (r < i) by simp; omega]
theorem blindL_free {A : List Bool} {D : List Int} {o : Int} {i : Nat} (hi : i < D.length) (h : A.getD i false = false) : (blindL A D o i).set i o = blindL A D o (i + 1) := by
  apply List.ext_getElem?
  intro r
  rw [List.getElem?_set, blindL_length]
  by_cases e : i = r
  · subst e
    rw [if_pos rfl, if_pos hi, blindL, List.getElem?_map, List.getElem?_range hi]
    simp only [Option.map_some, show i < i + 1 by omega, h, and_self, if_true]
  · rw [if_neg e]
    unfold blindL
    simp only [List.getElem?_map]
    by_cases hr : r < D.length
    · rw [List.getElem?_range hr]
      simp only [Option.map_some, show (r < i + 1) = (r < i) by simp; omega]
    · rw [List.getElem?_eq_none (by simpa using hr)]; rfl
theorem loop_blind (kf : Nat) (pc : AObj) (hpc : pc.under 2 = true) (A : List Bool) (nl2 : Bool) (cap2 : Option Nat) (D : List Int) (nl : Bool) (cap : Option Nat) (o : Int) (hl : D.length ≤ 200) (hA : D.length ≤ A.length) (hA6 : A.length ≤ 1000) (k : Nat) (l : Ass) (z : Option Out) (hz : loopR Try.prog tab kf none LB12_12 12 89 [1, 2, 3, 7, 9, 48, 49] 2 k l ([pc, rJ (blindL A D o 0)]) = z) (hk : D.length < k) (a1 : asc l 1 = sI D nl cap) (a2 : asc l 2 = .c (.int .i64 o)) (a3 : asc l 3 = .ptr 0 0) (a7 : asc l 7 = sB A nl2 cap2) (a9 : asc l 9 = .hsl 1 0 D.length D.length 1) (a48 : asc l 48 = ii D.length) (a49 : asc l 49 = ii 0) :
    ∃ l', z = some (.exit 0 (fr 89 l') ([pc, rJ (blindL A D o D.length)])) ∧ asc l' 1 = sI D nl cap ∧ asc l' 2 = .c (.int .i64 o) ∧ asc l' 3 = .ptr 0 0 ∧ asc l' 7 = sB A nl2 cap2 ∧ asc l' 9 = .hsl 1 0 D.length D.length 1 ∧ asc l' 48 = ii D.length ∧ asc l' 49 = ii D.length := by
  subst hz
  refine loop_nat D.length (fun k l H => loopR Try.prog tab kf none LB12_12 12 89 [1, 2, 3, 7, 9, 48, 49] 2 k l H)
    (fun i l H => asc l 1 = sI D nl cap ∧ asc l 2 = .c (.int .i64 o) ∧ asc l 3 = .ptr 0 0 ∧ asc l 7 = sB A nl2 cap2 ∧ asc l 9 = .hsl 1 0 D.length D.length 1 ∧ asc l 48 = ii D.length ∧ asc l 49 = ii i ∧ ∃ G, H = ([pc, rJ (blindL A D o i)]) ++ G)
    (fun z => ∃ l', z = some (.exit 0 (fr 89 l') ([pc, rJ (blindL A D o D.length)])) ∧ asc l' 1 = sI D nl cap ∧ asc l' 2 = .c (.int .i64 o) ∧ asc l' 3 = .ptr 0 0 ∧ asc l' 7 = sB A nl2 cap2 ∧ asc l' 9 = .hsl 1 0 D.length D.length 1 ∧ asc l' 48 = ii D.length ∧ asc l' 49 = ii D.length) ?_ D.length 0 k l _ (by omega) hk ⟨a1, a2, a3, a7, a9, a48, a49, [], by rw [List.append_nil]⟩
  clear hk a1 a2 a3 a7 a9 a48 a49
  rintro i k l H hi ⟨a1, a2, a3, a7, a9, a48, a49, G, rfl⟩
  have ht : trim 2 (fr 89 (keep l [1, 2, 3, 7, 9, 48, 49])) (([pc, rJ (blindL A D o i)]) ++ G) = ([pc, rJ (blindL A D o i)]) := trim_app (by simp) (by simp only [a1, a2, a3, a7, a9, a48, a49, hpc, EVb, EVc, Int.reduceEq, Int.reduceToNat, Int.reduceLE, Int.reduceLT, Int.reduceAdd, Int.reduceMul, Int.reduceSub, Int.reduceNeg, Nat.reduceAdd, Nat.reduceSub, Nat.reduceMul, Nat.reduceLT, Nat.reduceBEq, Nat.reduceEqDiff, Nat.reduceLeDiff]) (by simp only [hpc, EVb, EVc, Int.reduceEq, Int.reduceToNat, Int.reduceLE, Int.reduceLT, Int.reduceAdd, Int.reduceMul, Int.reduceSub, Int.reduceNeg, Nat.reduceAdd, Nat.reduceSub, Nat.reduceMul, Nat.reduceLT, Nat.reduceBEq, Nat.reduceEqDiff, Nat.reduceLeDiff])
  by_cases hc : i < D.length
  · have hc' : (i : Int) < ((D.length : Nat) : Int) := by omega
    have hc0 : (0 : Int) ≤ i := by omega
    have hw : IntKind.wrap .i64 ((i : Int) + 1) = ((i + 1 : Nat) : Int) := by rw [wrap64 (by omega) (by omega)]; omega
    have hx := encB_get (l := A) (r := (i : Int)) (by omega) (by omega)
    rw [Int.toNat_natCast] at hx
    have hiA : (i : Int) < A.length := by omega
    have helA := encB_length A
    have hel := encInts_length (blindL A D o i)
    rw [blindL_length] at hel
    have hset : (encInts (blindL A D o i)).set i (.int .i64 o) = encInts ((blindL A D o i).set i o) := encInts_set
    cases hq : A.getD i false with
    | true =>
      rw [hq] at hx
      rw [blindL_asked hq]
      simp only [loopR_succ, ht]
      simp only [a1, a2, a3, a7, a9, a48, a49, hc', hc0, hw, hx, hiA, helA, hel, loopR_succ, loopOf, findLoop, firstRegion, Option.some_or, Option.none_or, Option.getD_some, Option.some.injEq, Try.f12, FT, Int.reduceEq, Int.reduceToNat, Int.reduceLE, Int.reduceLT, Int.reduceAdd, Int.reduceMul, Int.reduceSub, Int.reduceNeg, Nat.reduceAdd, Nat.reduceSub, Nat.reduceMul, Nat.reduceLT, Nat.reduceBEq, Nat.reduceEqDiff, Nat.reduceLeDiff]
      exact .inr ⟨_, _, hc, rfl, (by rfl), (by rfl), (by rfl), (by rfl), (by rfl), (by rfl), (by rfl), ⟨_, by rfl⟩⟩
    | false =>
      rw [hq] at hx
      rw [blindL_free hc hq] at hset
      simp only [loopR_succ, ht]
      simp only [a1, a2, a3, a7, a9, a48, a49, hc', hc0, hw, hc, hx, hiA, helA, hel, hset, loopR_succ, loopOf, findLoop, firstRegion, Option.some_or, Option.none_or, Option.getD_some, Option.some.injEq, Try.f12, FT, Int.reduceEq, Int.reduceToNat, Int.reduceLE, Int.reduceLT, Int.reduceAdd, Int.reduceMul, Int.reduceSub, Int.reduceNeg, Nat.reduceAdd, Nat.reduceSub, Nat.reduceMul, Nat.reduceLT, Nat.reduceBEq, Nat.reduceEqDiff, Nat.reduceLeDiff]
      exact .inr ⟨_, _, rfl, (by rfl), (by rfl), (by rfl), (by rfl), (by rfl), (by rfl), (by rfl), ⟨_, by rfl⟩⟩
  · refine .inl ?_
    obtain rfl : i = D.length := by omega
    have hc' : ¬ (((D.length : Nat) : Int) < ((D.length : Nat) : Int)) := by omega
    simp only [loopR_succ, ht]
    simp only [a1, a2, a3, a7, a9, a48, a49, hc', loopR_succ, loopOf, findLoop, firstRegion, Option.some_or, Option.none_or, Option.getD_some, Option.some.injEq, Try.f12, FT, Int.reduceEq, Int.reduceToNat, Int.reduceLE, Int.reduceLT, Int.reduceAdd, Int.reduceMul, Int.reduceSub, Int.reduceNeg, Nat.reduceAdd, Nat.reduceSub, Nat.reduceMul, Nat.reduceLT, Nat.reduceBEq, Nat.reduceEqDiff, Nat.reduceLeDiff]
    exact ⟨_, rfl, (by rfl), (by rfl), (by rfl), (by rfl), (by rfl), (by rfl), (by rfl)⟩
end
end Go.Proofs.Sw.W
namespace Go.Proofs.Sw.W
open Go.Ab
section
variable [Globals]
theorem clone64_raw (k : Nat) (outs : List Int) (cap : Option Nat) (hl : 0 < outs.length) (ho : outs.length ≤ 1000000) : evalT Try.prog (mkHints tab) (k+1) (.fn 59) [sI outs false cap] [] = some (.hsl 0 0 outs.length outs.length 1, [rJ outs]) := by
  have hl2 := encInts_length outs
  have hap : ∀ o : AObj, apO 2 1 8 none (.hsl 0 0 0 0 1) [.row false 2 []] (some (encInts outs, outs.length)) = some (.hsl 0 0 outs.length outs.length 1, [.row false 2 (encInts outs)]) := by
    intro _
    have := apO_row (sl := none) (e := 2) (sz := 1) (by_ := 8) (m := outs.length) (len := 0) (id := 0) (H := [.row false 2 []]) (cells := []) (cs := encInts outs) hl (Nat.le_trans (Nat.mul_le_mul_right 8 (show 0 + outs.length ≤ 1000000 by omega)) (by decide)) (by omega) rfl rfl
    simpa using this
  have htk : (encInts outs).take outs.length = encInts outs := by rw [← hl2, List.take_length]
  have hle : outs.length ≤ outs.length := by omega
  rw [ev59]
  simp only [Try.f59, sI, FT, Int.reduceEq, Int.reduceToNat, Int.reduceLE, Int.reduceLT, Int.reduceAdd, Int.reduceMul, Int.reduceSub, Int.reduceNeg, Nat.reduceAdd, Nat.reduceSub, Nat.reduceMul, Nat.reduceLT, Nat.reduceBEq, Nat.reduceEqDiff, Nat.reduceLeDiff]
  simp only [hap (.dead), hl2, htk, hle, FT, Int.reduceEq, Int.reduceToNat, Int.reduceLE, Int.reduceLT, Int.reduceAdd, Int.reduceMul, Int.reduceSub, Int.reduceNeg, Nat.reduceAdd, Nat.reduceSub, Nat.reduceMul, Nat.reduceLT, Nat.reduceBEq, Nat.reduceEqDiff, Nat.reduceLeDiff]
theorem list_call {k f r i : Nat} {N : Nat} {A : List Int} (hN : A.length = N) {o : AObj} {X : Heap} {v : AV} {b : Bool} (hv : run k 60 [sI A false none] = some v) (hkp : keepB tab.keeps f r i = false := by rfl) :
    ∃ b', doCallS (cxG Try.prog (mkHints tab) k f none) r i 60 [.hsl 1 0 N N 1] (o :: .row b 2 (encInts A) :: X) = some (v, o :: .row b' 2 (encInts A) :: X) := by
  have hz : frzTup (o :: .row b 2 (encInts A) :: X) [.hsl 1 0 N N 1] = some ([sI A false none], o :: .row true 2 (encInts A) :: X) := by
    have hr : rowOf (o :: .row b 2 (encInts A) :: X) 1 N = some (2, encInts A) := rowOf_eq (fz := b) rfl (by rw [encInts_length, hN])
    rw [frzTup, frzV_hsl, frz_hsl, hr]
    simp only [Option.bind_some, Nat.zero_add, Nat.mul_one, Nat.le_refl, if_true, List.drop_zero, Option.map_some, frzTup]
    rw [List.take_of_length_le (by rw [encInts_length, hN]; exact Nat.le_refl _), sI, hN]
    rfl
  rcases doCallS_or (P := Try.prog) (tab := tab) (kf := k) (f := f) (r := r) (i := i) (ar := none) (g := 60) (by rfl) hkp (by simp [AV.pure]) hz hv with e | e
  · exact ⟨b, e⟩
  · exact ⟨true, e⟩
theorem iniN_lo {Z : List RI} {n r : Nat} (h : r < Z.length) : ((iniN Z n).map RI.v).getD r 0 = (Z.map RI.v).getD r 0 := by
  rw [List.getD_eq_getElem?_getD, List.getD_eq_getElem?_getD, iniN, List.map_append, List.getElem?_append_left (by simpa using h)]
theorem DeadBlind_good (k : Nat) (ins : Int) (n : Nat) (code : List Ins) (outs : List Int) (nl : Bool) (cap : Option Nat) (nl2 : Bool) (cap2 : Option Nat) (D : List Int) (nl3 : Bool) (cap3 : Option Nat) (o : Int) (hk : 80000 ≤ k) (ho : in64 o) (hD : ∀ x ∈ D, in64 x) (hr : rightM ⟨ins, n, code, outs⟩ = true) (hnl2 : nl2 = true → outs = []) (hnl3 : nl3 = true → D = []) (hlg : ¬ (300 < code.length ∧ code.length ≤ 16384)) (hDl : D.length ≤ 200) (hln : (D.length : Int) = ins) :
    run (k+61) 12 [aP ⟨ins, n, code, outs⟩ nl cap nl2 cap2, sI D nl3 cap3, .c (.int .i64 o)] = some (bb true) := by
  subst hln
  have hwk := l15works_ev k
  have hlg' := long_ev (k + 59) ⟨(D.length : Int), n, code, outs⟩ nl cap nl2 cap2
  have hr' := hr
  simp only [rightM, headM, codeM, outsM, Bool.and_eq_true, decide_eq_true_eq, List.all_eq_true] at hr'
  obtain ⟨⟨⟨g1, g2, g3, g4, g5, g6⟩, go⟩, gc⟩ := hr'
  have hcl : code.length ≤ 300 := by omega
  obtain rfl : nl2 = false := by
    cases nl2 with
    | false => rfl
    | true => have := hnl2 rfl; subst this; simp at g5
  obtain rfl : nl3 = false := by
    cases nl3 with
    | false => rfl
    | true => have := hnl3 rfl; subst this; simp at g1
  obtain ⟨A, hA⟩ : ∃ A, A = askedM (deadP ⟨(D.length : Int), n, code, outs⟩) := ⟨_, rfl⟩
  have hAl : A.length = n := by rw [hA]; show (askL _ _).length = n; rw [askL_length]; simp [asked0, mark_length, deadP]
  have has := Asked_ev (k + 59) n (D.length : Int) code outs nl cap cap2 (by omega) hr
  rw [← hA] at has
  have hcl64 := clone64_raw (k + 59) D cap3 (by omega) (by omega)
  have hkp : ∀ H, keepO (some (AV.hsl 0 0 D.length D.length 1, [rJ D])) H = some (.hsl H.length 0 D.length D.length 1, H ++ [rJ D]) := fun H => keepO_row rfl
  obtain ⟨B, hB⟩ : ∃ B, B = blindL A D o D.length := ⟨_, rfl⟩
  have hBl : B.length = D.length := by rw [hB, blindL_length]
  have hBin : ∀ x ∈ B, in64 x := by
    intro x hx
    rw [hB] at hx
    obtain ⟨r, hr1, rfl⟩ := List.mem_map.1 hx
    have hr2 : r < D.length := by simpa using hr1
    show in64 (if _ then _ else _)
    split
    · exact ho
    · rw [List.getD_eq_getElem?_getD, List.getElem?_eq_getElem hr2]; exact hD _ (List.getElem_mem hr2)
  obtain ⟨Z, nlz, capz, hZ, hZs, hof⟩ := l15list_ev (k + 55) D false cap3 (by omega) hD (by omega)
  obtain ⟨Z2, nlz2, capz2, hZ2, hZs2, hof2⟩ := l15list_ev (k + 55) B false none (by omega) hBin (by omega)
  have hZl : Z.length = D.length := by rw [← hZ, List.length_map]
  have hZl2 : Z2.length = D.length := by rw [← hBl, ← hZ2, List.length_map]
  have hF1 := Run_ev (k + 49) (D.length : Int) n code outs nl cap false cap2 Z nlz capz hr (by omega) hZs (by omega) (by omega)
  have hF2 := Run_ev (k + 49) (D.length : Int) n code outs nl cap false cap2 Z2 nlz2 capz2 hr (by omega) hZs2 (by omega) (by omega)
  have hDA : (A.length : Int) = n := by omega
  have hag : agreeA numSem (askedM (deadP ⟨(D.length : Int), n, code, outs⟩)) ((iniN Z n).map RI.v) ((iniN Z2 n).map RI.v) := by
    rw [← hA]
    intro r hq
    show ((iniN Z n).map RI.v).getD r 0 = ((iniN Z2 n).map RI.v).getD r 0
    by_cases hrl : r < D.length
    · rw [iniN_lo (by omega), iniN_lo (by omega), hZ, hZ2, hB, blindL_getD _ _ _ _ _ hrl, hq]
      simp
    · rw [iniN_hi (by omega), iniN_hi (by omega)]
  obtain ⟨b2, hc2⟩ := list_call (f := 12) (r := 18) (i := 2) hBl (o := .cells 25 [ii (D.length : Int), ii n, sC code nl cap, sI outs false cap2]) (X := []) (b := false) hof2
  have hBe : blindL A D o D.length = B := hB.symm
  have hB0 : [(.cells 25 [ii (D.length : Int), ii n, sC code nl cap, sI outs false cap2] : AObj), rJ D] = [.cells 25 [ii (D.length : Int), ii n, sC code nl cap, sI outs false cap2], rJ (blindL A D o 0)] := by rw [blindL_zero]
  have hBe2 : (encInts B).length = D.length := by rw [encInts_length, hBl]
  have htkB : (encInts B).take D.length = encInts B := List.take_of_length_le (by rw [hBe2]; exact Nat.le_refl _)
  have hDl' : ¬ (200 : Int) < D.length := by omega
  rcases hF1 with ⟨he1, j1, hv1⟩ | ⟨R1, nl4, cap4, he1, hR1l, hR1s, hv1⟩
  · rcases hF2 with ⟨_, j2, hv2⟩ | ⟨R2, nl5, cap5, he2, hR2l, hR2s, hv2⟩
    · simp only [run, aP, ii, bb, sC, sI, sN, sB, hlg, hr] at hwk hlg' has hcl64 hof hof2 hv1 hv2 hc2
      rw [hBl] at hof2
      rw [run, ev12, ans_trim]
      simp only [Try.f12, aP, ii, bb, hwk, hlg', has, hDA, hDl', hcl64, hkp, doCall_cxK, freeO_cxK, FT, Int.reduceEq, Int.reduceToNat, Int.reduceLE, Int.reduceLT, Int.reduceAdd, Int.reduceMul, Int.reduceSub, Int.reduceNeg, Nat.reduceAdd, Nat.reduceSub, Nat.reduceMul, Nat.reduceLT, Nat.reduceBEq, Nat.reduceEqDiff, Nat.reduceLeDiff]
      rw [evalCode_loopB LB12_12 lp12_12]; rotate_left; rfl; rfl; rfl
      generalize hz : loopR _ _ _ _ _ _ _ _ _ _ _ _ = z
      obtain ⟨l', rfl, e1, e2, e3, e7, e9, e48, e49⟩ := loop_blind (k + 60) (.cells 25 [ii (D.length : Int), ii n, sC code nl cap, sI outs false cap2]) (by rfl) A false none D false cap3 o hDl (by omega) (by omega) _ _ z (by rw [← hB0]; exact hz) (by omega) (by rfl) (by rfl) (by rfl) (by rfl) (by rfl) (by rfl) (by rfl)
      clear hz
      rw [hBe]
      simp only [FT, Int.reduceEq, Int.reduceToNat, Int.reduceLE, Int.reduceLT, Int.reduceAdd, Int.reduceMul, Int.reduceSub, Int.reduceNeg, Nat.reduceAdd, Nat.reduceSub, Nat.reduceMul, Nat.reduceLT, Nat.reduceBEq, Nat.reduceEqDiff, Nat.reduceLeDiff]
      rw [evalCode_drawn Try.f12 17 dr12_17]; rotate_left; rfl
      simp (config := { maxSteps := 4000000 }) only [e1, e2, e3, e7, e9, hof, hv1, EVd, List.getElem?_nil, Nat.reducePow, Nat.reduceDiv, Nat.reduceMod, FT, Int.reduceEq, Int.reduceToNat, Int.reduceLE, Int.reduceLT, Int.reduceAdd, Int.reduceMul, Int.reduceSub, Int.reduceNeg, Nat.reduceAdd, Nat.reduceSub, Nat.reduceMul, Nat.reduceLT, Nat.reduceBEq, Nat.reduceEqDiff, Nat.reduceLeDiff]
      rw [evalCode_drawn Try.f12 18 dr12_18]; rotate_left; rfl
      simp (config := { maxSteps := 4000000 }) only [e1, e2, e3, e7, e9, hc2, hv2, hBe2, htkB, hof2, strict_slice, strict_c, strict_tup, strict1_c, strict_agg, Nat.le_refl, EVd, List.getElem?_nil, Nat.reducePow, Nat.reduceDiv, Nat.reduceMod, FT, Int.reduceEq, Int.reduceToNat, Int.reduceLE, Int.reduceLT, Int.reduceAdd, Int.reduceMul, Int.reduceSub, Int.reduceNeg, Nat.reduceAdd, Nat.reduceSub, Nat.reduceMul, Nat.reduceLT, Nat.reduceBEq, Nat.reduceEqDiff, Nat.reduceLeDiff]
    · simp only [run, aP, ii, bb, sC, sI, sN, sB, hlg, hr] at hwk hlg' has hcl64 hof hof2 hv1 hv2 hc2
      rw [hBl] at hof2
      rw [run, ev12, ans_trim]
      simp only [Try.f12, aP, ii, bb, hwk, hlg', has, hDA, hDl', hcl64, hkp, doCall_cxK, freeO_cxK, FT, Int.reduceEq, Int.reduceToNat, Int.reduceLE, Int.reduceLT, Int.reduceAdd, Int.reduceMul, Int.reduceSub, Int.reduceNeg, Nat.reduceAdd, Nat.reduceSub, Nat.reduceMul, Nat.reduceLT, Nat.reduceBEq, Nat.reduceEqDiff, Nat.reduceLeDiff]
      rw [evalCode_loopB LB12_12 lp12_12]; rotate_left; rfl; rfl; rfl
      generalize hz : loopR _ _ _ _ _ _ _ _ _ _ _ _ = z
      obtain ⟨l', rfl, e1, e2, e3, e7, e9, e48, e49⟩ := loop_blind (k + 60) (.cells 25 [ii (D.length : Int), ii n, sC code nl cap, sI outs false cap2]) (by rfl) A false none D false cap3 o hDl (by omega) (by omega) _ _ z (by rw [← hB0]; exact hz) (by omega) (by rfl) (by rfl) (by rfl) (by rfl) (by rfl) (by rfl) (by rfl)
      clear hz
      rw [hBe]
      simp only [FT, Int.reduceEq, Int.reduceToNat, Int.reduceLE, Int.reduceLT, Int.reduceAdd, Int.reduceMul, Int.reduceSub, Int.reduceNeg, Nat.reduceAdd, Nat.reduceSub, Nat.reduceMul, Nat.reduceLT, Nat.reduceBEq, Nat.reduceEqDiff, Nat.reduceLeDiff]
      rw [evalCode_drawn Try.f12 17 dr12_17]; rotate_left; rfl
      simp (config := { maxSteps := 4000000 }) only [e1, e2, e3, e7, e9, hof, hv1, EVd, List.getElem?_nil, Nat.reducePow, Nat.reduceDiv, Nat.reduceMod, FT, Int.reduceEq, Int.reduceToNat, Int.reduceLE, Int.reduceLT, Int.reduceAdd, Int.reduceMul, Int.reduceSub, Int.reduceNeg, Nat.reduceAdd, Nat.reduceSub, Nat.reduceMul, Nat.reduceLT, Nat.reduceBEq, Nat.reduceEqDiff, Nat.reduceLeDiff]
      rw [evalCode_drawn Try.f12 18 dr12_18]; rotate_left; rfl
      simp (config := { maxSteps := 4000000 }) only [e1, e2, e3, e7, e9, hc2, hv2, hBe2, htkB, hof2, strict_slice, strict_c, strict_tup, strict1_c, strict_agg, Nat.le_refl, EVd, List.getElem?_nil, Nat.reducePow, Nat.reduceDiv, Nat.reduceMod, FT, Int.reduceEq, Int.reduceToNat, Int.reduceLE, Int.reduceLT, Int.reduceAdd, Int.reduceMul, Int.reduceSub, Int.reduceNeg, Nat.reduceAdd, Nat.reduceSub, Nat.reduceMul, Nat.reduceLT, Nat.reduceBEq, Nat.reduceEqDiff, Nat.reduceLeDiff]
  · rcases hF2 with ⟨_, j2, hv2⟩ | ⟨R2, nl5, cap5, he2, hR2l, hR2s, hv2⟩
    · simp only [run, aP, ii, bb, sC, sI, sN, sB, hlg, hr] at hwk hlg' has hcl64 hof hof2 hv1 hv2 hc2
      rw [hBl] at hof2
      rw [run, ev12, ans_trim]
      simp only [Try.f12, aP, ii, bb, hwk, hlg', has, hDA, hDl', hcl64, hkp, doCall_cxK, freeO_cxK, FT, Int.reduceEq, Int.reduceToNat, Int.reduceLE, Int.reduceLT, Int.reduceAdd, Int.reduceMul, Int.reduceSub, Int.reduceNeg, Nat.reduceAdd, Nat.reduceSub, Nat.reduceMul, Nat.reduceLT, Nat.reduceBEq, Nat.reduceEqDiff, Nat.reduceLeDiff]
      rw [evalCode_loopB LB12_12 lp12_12]; rotate_left; rfl; rfl; rfl
      generalize hz : loopR _ _ _ _ _ _ _ _ _ _ _ _ = z
      obtain ⟨l', rfl, e1, e2, e3, e7, e9, e48, e49⟩ := loop_blind (k + 60) (.cells 25 [ii (D.length : Int), ii n, sC code nl cap, sI outs false cap2]) (by rfl) A false none D false cap3 o hDl (by omega) (by omega) _ _ z (by rw [← hB0]; exact hz) (by omega) (by rfl) (by rfl) (by rfl) (by rfl) (by rfl) (by rfl) (by rfl)
      clear hz
      rw [hBe]
      simp only [FT, Int.reduceEq, Int.reduceToNat, Int.reduceLE, Int.reduceLT, Int.reduceAdd, Int.reduceMul, Int.reduceSub, Int.reduceNeg, Nat.reduceAdd, Nat.reduceSub, Nat.reduceMul, Nat.reduceLT, Nat.reduceBEq, Nat.reduceEqDiff, Nat.reduceLeDiff]
      rw [evalCode_drawn Try.f12 17 dr12_17]; rotate_left; rfl
      simp (config := { maxSteps := 4000000 }) only [e1, e2, e3, e7, e9, hof, hv1, EVd, List.getElem?_nil, Nat.reducePow, Nat.reduceDiv, Nat.reduceMod, FT, Int.reduceEq, Int.reduceToNat, Int.reduceLE, Int.reduceLT, Int.reduceAdd, Int.reduceMul, Int.reduceSub, Int.reduceNeg, Nat.reduceAdd, Nat.reduceSub, Nat.reduceMul, Nat.reduceLT, Nat.reduceBEq, Nat.reduceEqDiff, Nat.reduceLeDiff]
      rw [evalCode_drawn Try.f12 18 dr12_18]; rotate_left; rfl
      simp (config := { maxSteps := 4000000 }) only [e1, e2, e3, e7, e9, hc2, hv2, hBe2, htkB, hof2, strict_slice, strict_c, strict_tup, strict1_c, strict_agg, Nat.le_refl, EVd, List.getElem?_nil, Nat.reducePow, Nat.reduceDiv, Nat.reduceMod, FT, Int.reduceEq, Int.reduceToNat, Int.reduceLE, Int.reduceLT, Int.reduceAdd, Int.reduceMul, Int.reduceSub, Int.reduceNeg, Nat.reduceAdd, Nat.reduceSub, Nat.reduceMul, Nat.reduceLT, Nat.reduceBEq, Nat.reduceEqDiff, Nat.reduceLeDiff]
    · have go1 : ∀ r ∈ outs, 0 ≤ r ∧ r < (R1.length : Int) := fun r hr => by rw [hR1l]; exact go r hr
      have go2 : ∀ r ∈ outs, 0 ≤ r ∧ r < (R2.length : Int) := fun r hr => by rw [hR2l]; exact go r hr
      have hsame := asked_same numSem hr (by rw [List.length_map, iniN_length (by omega)]) (by rw [List.length_map, iniN_length (by omega)]) he1 he2 hag
      obtain ⟨Xo, hXo⟩ : ∃ Xo, Xo = outs.map (fun r => R1.getD r.toNat zN) := ⟨_, rfl⟩
      obtain ⟨Yo, hYo⟩ : ∃ Yo, Yo = outs.map (fun r => R2.getD r.toNat zN) := ⟨_, rfl⟩
      have hXY : Xo.map RI.v = Yo.map RI.v := by
        rw [hXo, hYo, out_valsN go1, out_valsN go2]
        exact hsame
      have hXl : Xo.length = outs.length := by rw [hXo, List.length_map]
      have hXs : ∀ r ∈ Xo, (nD r.v).length ≤ 20000 := by
        intro r hr
        rw [hXo] at hr
        obtain ⟨x, _, rfl⟩ := List.mem_map.1 hr
        exact Nat.le_trans (getD_small hR1s) (by decide)
      have hYs : ∀ r ∈ Yo, (nD r.v).length ≤ 20000 := by
        intro r hr
        rw [hYo] at hr
        obtain ⟨x, _, rfl⟩ := List.mem_map.1 hr
        exact Nat.le_trans (getD_small hR2s) (by decide)
      rw [← hXo] at hv1
      rw [← hYo] at hv2
      have hsm := alike_ev (k + 54) Xo Yo nl4 nl5 cap4 cap5 (by omega) hXs hYs hXY (by omega)
      simp only [run, bb, sN] at hsm
      simp only [run, aP, ii, bb, sC, sI, sN, sB, hlg, hr] at hwk hlg' has hcl64 hof hof2 hv1 hv2 hc2
      rw [hBl] at hof2
      rw [run, ev12, ans_trim]
      simp only [Try.f12, aP, ii, bb, hwk, hlg', has, hDA, hDl', hcl64, hkp, doCall_cxK, freeO_cxK, FT, Int.reduceEq, Int.reduceToNat, Int.reduceLE, Int.reduceLT, Int.reduceAdd, Int.reduceMul, Int.reduceSub, Int.reduceNeg, Nat.reduceAdd, Nat.reduceSub, Nat.reduceMul, Nat.reduceLT, Nat.reduceBEq, Nat.reduceEqDiff, Nat.reduceLeDiff]
      rw [evalCode_loopB LB12_12 lp12_12]; rotate_left; rfl; rfl; rfl
      generalize hz : loopR _ _ _ _ _ _ _ _ _ _ _ _ = z
      obtain ⟨l', rfl, e1, e2, e3, e7, e9, e48, e49⟩ := loop_blind (k + 60) (.cells 25 [ii (D.length : Int), ii n, sC code nl cap, sI outs false cap2]) (by rfl) A false none D false cap3 o hDl (by omega) (by omega) _ _ z (by rw [← hB0]; exact hz) (by omega) (by rfl) (by rfl) (by rfl) (by rfl) (by rfl) (by rfl) (by rfl)
      clear hz
      rw [hBe]
      simp only [FT, Int.reduceEq, Int.reduceToNat, Int.reduceLE, Int.reduceLT, Int.reduceAdd, Int.reduceMul, Int.reduceSub, Int.reduceNeg, Nat.reduceAdd, Nat.reduceSub, Nat.reduceMul, Nat.reduceLT, Nat.reduceBEq, Nat.reduceEqDiff, Nat.reduceLeDiff]
      rw [evalCode_drawn Try.f12 17 dr12_17]; rotate_left; rfl
      simp (config := { maxSteps := 4000000 }) only [e1, e2, e3, e7, e9, hof, hv1, EVd, List.getElem?_nil, Nat.reducePow, Nat.reduceDiv, Nat.reduceMod, FT, Int.reduceEq, Int.reduceToNat, Int.reduceLE, Int.reduceLT, Int.reduceAdd, Int.reduceMul, Int.reduceSub, Int.reduceNeg, Nat.reduceAdd, Nat.reduceSub, Nat.reduceMul, Nat.reduceLT, Nat.reduceBEq, Nat.reduceEqDiff, Nat.reduceLeDiff]
      rw [evalCode_drawn Try.f12 18 dr12_18]; rotate_left; rfl
      simp (config := { maxSteps := 4000000 }) only [e1, e2, e3, e7, e9, hc2, hv2, hBe2, htkB, hof2, strict_slice, strict_c, strict_tup, strict1_c, strict_agg, Nat.le_refl, EVd, List.getElem?_nil, Nat.reducePow, Nat.reduceDiv, Nat.reduceMod, FT, Int.reduceEq, Int.reduceToNat, Int.reduceLE, Int.reduceLT, Int.reduceAdd, Int.reduceMul, Int.reduceSub, Int.reduceNeg, Nat.reduceAdd, Nat.reduceSub, Nat.reduceMul, Nat.reduceLT, Nat.reduceBEq, Nat.reduceEqDiff, Nat.reduceLeDiff]
      simp only [hsm, FT, Int.reduceEq, Int.reduceToNat, Int.reduceLE, Int.reduceLT, Int.reduceAdd, Int.reduceMul, Int.reduceSub, Int.reduceNeg, Nat.reduceAdd, Nat.reduceSub, Nat.reduceMul, Nat.reduceLT, Nat.reduceBEq, Nat.reduceEqDiff, Nat.reduceLeDiff]
theorem DeadBlind_ev (k : Nat) (p : Pg) (nl : Bool) (cap : Option Nat) (nl2 : Bool) (cap2 : Option Nat) (D : List Int) (nl3 : Bool) (cap3 : Option Nat) (o : Int) (hk : p.outs.length + p.code.length + 80100 ≤ k) (_ : nl = true → p.code = []) (hn2 : nl2 = true → p.outs = []) (hs : p.code.length * 40 ≤ roomBytes) (_ : p.outs.length * 8 ≤ roomBytes) (hD : ∀ x ∈ D, in64 x) (hn3 : nl3 = true → D = []) (ho : in64 o) :
    run (k+1) 12 [aP p nl cap nl2 cap2, sI D nl3 cap3, .c (.int .i64 o)] = some (bb true) := by
  obtain ⟨k, rfl⟩ : ∃ j, k = j + 60 := ⟨k - 60, by omega⟩
  have hwk := l15works_ev k
  have hlg' := long_ev (k + 59) p nl cap nl2 cap2
  by_cases hl : 300 < p.code.length ∧ p.code.length ≤ 16384
  · simp only [run, aP, ii, sC, sI, bb, hl] at hwk hlg'
    rw [run, ev12, ans_trim]
    simp only [Try.f12, aP, ii, bb, hwk, hlg', FT, Int.reduceEq, Int.reduceToNat, Int.reduceLE, Int.reduceLT, Int.reduceAdd, Int.reduceMul, Int.reduceSub, Int.reduceNeg, Nat.reduceAdd, Nat.reduceSub, Nat.reduceMul, Nat.reduceLT, Nat.reduceBEq, Nat.reduceEqDiff, Nat.reduceLeDiff]
  · by_cases hd : (200 : Int) < D.length
    · simp only [run, aP, ii, sC, sI, bb, hl] at hwk hlg'
      rw [run, ev12, ans_trim]
      simp only [Try.f12, aP, ii, bb, hwk, hlg', hd, FT, Int.reduceEq, Int.reduceToNat, Int.reduceLE, Int.reduceLT, Int.reduceAdd, Int.reduceMul, Int.reduceSub, Int.reduceNeg, Nat.reduceAdd, Nat.reduceSub, Nat.reduceMul, Nat.reduceLT, Nat.reduceBEq, Nat.reduceEqDiff, Nat.reduceLeDiff]
    · cases hr : rightM p with
      | false =>
        have has := Asked_bad (k + 59) p nl cap nl2 cap2 (by omega) hr
        simp only [run, aP, ii, sC, sI, bb, hl] at hwk hlg' has
        rw [run, ev12, ans_trim]
        simp only [Try.f12, aP, ii, bb, hwk, hlg', hd, has, FT, Int.reduceEq, Int.reduceToNat, Int.reduceLE, Int.reduceLT, Int.reduceAdd, Int.reduceMul, Int.reduceSub, Int.reduceNeg, Nat.reduceAdd, Nat.reduceSub, Nat.reduceMul, Nat.reduceLT, Nat.reduceBEq, Nat.reduceEqDiff, Nat.reduceLeDiff]
      | true =>
        obtain ⟨n, hn⟩ := right_nat hr
        obtain ⟨ins, regs, code, outs⟩ := p
        simp only at hn hn2 hl hk
        subst hn
        by_cases hln : (D.length : Int) = ins
        · exact DeadBlind_good k ins n code outs nl cap nl2 cap2 D nl3 cap3 o (by omega) ho hD hr hn2 hn3 hl (by omega) hln
        · obtain rfl : nl2 = false := by
            cases nl2 with
            | false => rfl
            | true => have := hn2 rfl; subst this; simp [rightM, headM] at hr
          have has := Asked_ev (k + 59) n ins code outs nl cap cap2 (by omega) hr
          simp only [run, aP, ii, sC, sI, sB, bb, hl] at hwk hlg' has
          rw [run, ev12, ans_trim]
          simp only [Try.f12, aP, ii, bb, hwk, hlg', hd, has, hln, FT, Int.reduceEq, Int.reduceToNat, Int.reduceLE, Int.reduceLT, Int.reduceAdd, Int.reduceMul, Int.reduceSub, Int.reduceNeg, Nat.reduceAdd, Nat.reduceSub, Nat.reduceMul, Nat.reduceLT, Nat.reduceBEq, Nat.reduceEqDiff, Nat.reduceLeDiff]
end
end Go.Proofs.Sw.W
namespace Go.Proofs.Sw
open Go.Ab
section
variable [Globals]
variable {H : Type} {enc : TypeId × Value → H} {W : World} {spare : Nat → Bool} {held : Bool} {fuel : Nat} {cs : List Value} {x : DataW H × List MemPlace}
theorem cells34 : Try.prog.cellsOf 34 = 5 := by kernel_rfl
theorem cells3 : Try.prog.cellsOf 3 = 1 := by kernel_rfl
set_option maxRecDepth 10000 in
theorem open_ins (h : DataW.trod enc Try.prog W 0 spare held fuel 34 cs = some x) : ∃ o t a b c : Int, cs = [.int .i64 o, .int .i64 t, .int .i64 a, .int .i64 b, .int .i64 c] := by
  obtain ⟨xs, n, rfl, _, hl, hx, hf⟩ := DataW.trod_struct Try.underlying34 h
  rw [cells34] at hl
  have hx' : xs.length = 5 := hx.trans (by kernel_rfl)
  match cs, hl with
  | [c0, c1, c2, c3, c4], _ =>
    have g0 : DataW.trod enc Try.prog W 0 spare held n 3 (([c0, c1, c2, c3, c4].drop 0).take (Try.prog.cellsOf 3)) = xs[0]? := hf 0 _ rfl
    have g1 : DataW.trod enc Try.prog W 0 spare held n 3 (([c0, c1, c2, c3, c4].drop 1).take (Try.prog.cellsOf 3)) = xs[1]? := hf 1 _ rfl
    have g2 : DataW.trod enc Try.prog W 0 spare held n 3 (([c0, c1, c2, c3, c4].drop 2).take (Try.prog.cellsOf 3)) = xs[2]? := hf 2 _ rfl
    have g3 : DataW.trod enc Try.prog W 0 spare held n 3 (([c0, c1, c2, c3, c4].drop 3).take (Try.prog.cellsOf 3)) = xs[3]? := hf 3 _ rfl
    have g4 : DataW.trod enc Try.prog W 0 spare held n 3 (([c0, c1, c2, c3, c4].drop 4).take (Try.prog.cellsOf 3)) = xs[4]? := hf 4 _ rfl
    rw [cells3, List.getElem?_eq_getElem (by omega)] at g0 g1 g2 g3 g4
    obtain ⟨n0, e0, _⟩ := open_num Try.underlying3 g0
    obtain ⟨n1, e1, _⟩ := open_num Try.underlying3 g1
    obtain ⟨n2, e2, _⟩ := open_num Try.underlying3 g2
    obtain ⟨n3, e3, _⟩ := open_num Try.underlying3 g3
    obtain ⟨n4, e4, _⟩ := open_num Try.underlying3 g4
    simp at e0 e1 e2 e3 e4
    exact ⟨n0, n1, n2, n3, n4, by rw [e0, e1, e2, e3, e4]⟩
theorem agg_of {v : Value} {l : List Value} (h : v.cells.toList = l) (hl : 1 < l.length) : v = .agg l.toArray := by
  cases v with
  | agg cs =>
    have : cs.toList = l := h
    rw [← this]
  | _ =>
    have h1 := congrArg List.length h
    have h2 : l.length = 1 := by rw [← h1]; rfl
    omega
theorem cells25 : Try.prog.cellsOf 25 = 4 := by kernel_rfl
theorem cells22 : Try.prog.cellsOf 22 = 1 := by kernel_rfl
theorem cells23 : Try.prog.cellsOf 23 = 1 := by kernel_rfl
theorem elem_ins (n : Nat) (cs' : List Value) (y : DataW H × List MemPlace) (h : DataW.trod enc Try.prog W 0 spare held n 34 cs' = some y) : ∃ ivs, (∃ i : Ins, ivs = enc1 i) ∧ ivs.length = 5 ∧ Rel W ivs cs' := by
  obtain ⟨o, t, a, b, c, rfl⟩ := open_ins h
  exact ⟨_, ⟨⟨o, t, a, b, c⟩, rfl⟩, rfl, Rel.cons (.int _ _) (Rel.cons (.int _ _) (Rel.cons (.int _ _) (Rel.cons (.int _ _) (Rel.cons (.int _ _) Rel.nil))))⟩
theorem elem_int (n : Nat) (cs' : List Value) (y : DataW H × List MemPlace) (h : DataW.trod enc Try.prog W 0 spare held n 3 cs' = some y) : ∃ ivs, (∃ z : Int, ivs = [.int .i64 z]) ∧ ivs.length = 1 ∧ Rel W ivs cs' := by
  obtain ⟨z, rfl, _⟩ := open_num Try.underlying3 h
  exact ⟨_, ⟨z, rfl⟩, rfl, Rel.cons (.int _ _) Rel.nil⟩
theorem code_of : ∀ (chunks : List (List IV)), (∀ c ∈ chunks, (∃ i : Ins, c = enc1 i) ∧ c.length = 5) → ∃ code : List Ins, chunks.flatten = encCode code ∧ chunks.length = code.length
  | [], _ => ⟨[], rfl, rfl⟩
  | c :: cs, h => by
    obtain ⟨code, h1, h2⟩ := code_of cs fun c hc => h c (by simp [hc])
    obtain ⟨⟨i, rfl⟩, _⟩ := h c (by simp)
    exact ⟨i :: code, by rw [List.flatten_cons, h1, encCode], by simp [h2]⟩
theorem ints_of : ∀ (chunks : List (List IV)), (∀ c ∈ chunks, (∃ z : Int, c = [.int .i64 z]) ∧ c.length = 1) → ∃ l : List Int, chunks.flatten = encInts l ∧ chunks.length = l.length
  | [], _ => ⟨[], rfl, rfl⟩
  | c :: cs, h => by
    obtain ⟨l, h1, h2⟩ := ints_of cs fun c hc => h c (by simp [hc])
    obtain ⟨⟨z, rfl⟩, _⟩ := h c (by simp)
    exact ⟨z :: l, by rw [List.flatten_cons, h1]; rfl, by simp [h2]⟩
set_option maxRecDepth 10000 in
theorem open_pgV {v : Value} {d : DataW H} {p : List MemPlace} (h : DataW.Trod enc Try.prog W 0 spare held 25 v d p) :
    ∃ (q : Pg) (nl nl2 : Bool), VRel (Old W) [] [] W (aP q nl none nl2 none) v ∧ (nl = true → q.code = []) ∧ (nl2 = true → q.outs = []) ∧ q.code.length ≤ maxLen ∧ q.outs.length ≤ maxLen := by
  obtain ⟨m, hm⟩ := h
  generalize hcs : v.cells.toList = cs at hm
  obtain ⟨xs, n, rfl, _, hl, hx, hf⟩ := DataW.trod_struct Try.underlying25 hm
  rw [cells25] at hl
  have hx' : xs.length = 4 := hx.trans (by kernel_rfl)
  match cs, hl with
  | [c0, c1, c2, c3], _ =>
    have g0 : DataW.trod enc Try.prog W 0 spare held n 3 (([c0, c1, c2, c3].drop 0).take (Try.prog.cellsOf 3)) = xs[0]? := hf 0 _ rfl
    have g1 : DataW.trod enc Try.prog W 0 spare held n 3 (([c0, c1, c2, c3].drop 1).take (Try.prog.cellsOf 3)) = xs[1]? := hf 1 _ rfl
    have g2 : DataW.trod enc Try.prog W 0 spare held n 22 (([c0, c1, c2, c3].drop 2).take (Try.prog.cellsOf 22)) = xs[2]? := hf 2 _ rfl
    have g3 : DataW.trod enc Try.prog W 0 spare held n 23 (([c0, c1, c2, c3].drop 3).take (Try.prog.cellsOf 23)) = xs[3]? := hf 3 _ rfl
    rw [cells3, List.getElem?_eq_getElem (by omega)] at g0 g1
    rw [cells22, List.getElem?_eq_getElem (by omega)] at g2
    rw [cells23, List.getElem?_eq_getElem (by omega)] at g3
    obtain ⟨n0, e0, _⟩ := open_num Try.underlying3 g0
    obtain ⟨n1, e1, _⟩ := open_num Try.underlying3 g1
    obtain ⟨v2, ch2, nl, e2, o2, hg2, hl2, hn2, r2⟩ := open_slice (fun ivs => ∃ i : Ins, ivs = enc1 i) Try.underlying22 cells34 (by omega) elem_ins g2
    obtain ⟨v3, ch3, nl2, e3, o3, hg3, hl3, hn3, r3⟩ := open_slice (fun ivs => ∃ z : Int, ivs = [.int .i64 z]) Try.underlying23 cells3 (by omega) elem_int g3
    simp at e0 e1 e2 e3
    subst e0; subst e1; subst e2; subst e3
    obtain ⟨code, k1, k2⟩ := code_of ch2 hg2
    obtain ⟨outs, k3, k4⟩ := ints_of ch3 hg3
    rw [k1, k2] at r2
    rw [k3, k4] at r3
    refine ⟨⟨n0, n1, code, outs⟩, nl, nl2, ?_, fun h => ?_, fun h => ?_, by rw [← k2]; exact hl2, by rw [← k4]; exact hl3⟩
    · rw [agg_of hcs (by simp)]
      exact VRel.of_rel (xs := [.int .i64 n0, .int .i64 n1, .slice (encCode code) code.length nl none, .slice (encInts outs) outs.length nl2 none]) (Rel.cons (.int _ _) (Rel.cons (.int _ _) (Rel.cons r2 (Rel.cons r3 Rel.nil))))
    · have := hn2 h
      subst this
      exact List.eq_nil_of_length_eq_zero k2.symm
    · have := hn3 h
      subst this
      exact List.eq_nil_of_length_eq_zero k4.symm
end
end Go.Proofs.Sw
