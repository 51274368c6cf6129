/- A part of the proof: what functions of the program answer, of whatever arguments, reckoned with letters by the interpreter's equations. Its conditions stand in each theorem. -/
import Derived.Test.YtefdgfdahmaciaaS14Q
namespace Go.Proofs.Sw
set_option linter.unusedVariables false
set_option linter.unusedSimpArgs false
set_option linter.unusedSectionVars false
open Go.Ab
variable [Globals]
theorem loop_r14Pass2 (kf : Nat) (x0 x1 x2 x3 y0 y1 : IV) (zz : List AV) (hz0 : (zz.all fun e => AV.under 8 e) = true) (cl : Nat) (cc : List IV) (S : St) (outs : List Int) (nl : Bool) (cap : Option Nat) (hx3 : x3 = .slice (encInts outs) outs.length nl cap) (hr : ∀ r ∈ outs, 0 ≤ r ∧ r < S.held.length) (hlen : outs.length ≤ 20000) (hreg : S.held.length ≤ 128) (hkf : 200 ≤ kf) (k : Nat) (l : Ass) (z : Option Out) (hz : loopR Try.prog tab (kf + 8) none LB19_19 19 139 [1, 2, 3, 4, 12] 8 k l ([lo 34 cl cc, lo 3 0 (encInts (outsL S.held (outs.take 0))), keO S.keys, .cells 25 [.c x0, .c x1, .c x2, .c x3], .cells 25 zz, .cells 61 [hI 6 S.held.length, lv 2 6 S.keys.length, ii S.next], rI S.held, .cells 25 [.c y0, .c y1, lv 0 5 cl, lv 1 1 0]]) = z) (hk : outs.length < k) (a1 : asc l 1 = .ptr 3 0) (a2 : asc l 2 = .ptr 4 0) (a3 : asc l 3 = .ptr 5 0) (a4 : asc l 4 = .ptr 7 0) (a12 : asc l 12 = ii 0) :
    ∃ l', z = some (.exit 2 (fr 139 l') ([lo 34 cl cc, lo 3 outs.length (encInts (outsL S.held (outs.take outs.length))), keO S.keys, .cells 25 [.c x0, .c x1, .c x2, .c x3], .cells 25 zz, .cells 61 [hI 6 S.held.length, lv 2 6 S.keys.length, ii S.next], rI S.held, .cells 25 [.c y0, .c y1, lv 0 5 cl, lv 1 1 outs.length]])) ∧ asc l' 1 = .ptr 3 0 ∧ asc l' 2 = .ptr 4 0 ∧ asc l' 3 = .ptr 5 0 ∧ asc l' 4 = .ptr 7 0 ∧ asc l' 12 = ii outs.length := by
  subst hz
  refine loop_nat outs.length (fun k l H => loopR Try.prog tab (kf + 8) none LB19_19 19 139 [1, 2, 3, 4, 12] 8 k l H)
    (fun i l H => asc l 1 = .ptr 3 0 ∧ asc l 2 = .ptr 4 0 ∧ asc l 3 = .ptr 5 0 ∧ asc l 4 = .ptr 7 0 ∧ asc l 12 = ii i ∧ ∃ G, H = ([lo 34 cl cc, lo 3 i (encInts (outsL S.held (outs.take i))), keO S.keys, .cells 25 [.c x0, .c x1, .c x2, .c x3], .cells 25 zz, .cells 61 [hI 6 S.held.length, lv 2 6 S.keys.length, ii S.next], rI S.held, .cells 25 [.c y0, .c y1, lv 0 5 cl, lv 1 1 i]]) ++ G)
    (fun z => ∃ l', z = some (.exit 2 (fr 139 l') ([lo 34 cl cc, lo 3 outs.length (encInts (outsL S.held (outs.take outs.length))), keO S.keys, .cells 25 [.c x0, .c x1, .c x2, .c x3], .cells 25 zz, .cells 61 [hI 6 S.held.length, lv 2 6 S.keys.length, ii S.next], rI S.held, .cells 25 [.c y0, .c y1, lv 0 5 cl, lv 1 1 outs.length]])) ∧ asc l' 1 = .ptr 3 0 ∧ asc l' 2 = .ptr 4 0 ∧ asc l' 3 = .ptr 5 0 ∧ asc l' 4 = .ptr 7 0 ∧ asc l' 12 = ii outs.length) ?_ outs.length 0 k l _ (by omega) hk ⟨a1, a2, a3, a4, a12, [], by rw [List.append_nil]⟩
  clear hk a1 a2 a3 a4 a12
  rintro i k l H hi ⟨a1, a2, a3, a4, a12, G, rfl⟩
  have ht : trim 8 (fr 139 (keep l [1, 2, 3, 4, 12])) (([lo 34 cl cc, lo 3 i (encInts (outsL S.held (outs.take i))), keO S.keys, .cells 25 [.c x0, .c x1, .c x2, .c x3], .cells 25 zz, .cells 61 [hI 6 S.held.length, lv 2 6 S.keys.length, ii S.next], rI S.held, .cells 25 [.c y0, .c y1, lv 0 5 cl, lv 1 1 i]]) ++ G) = ([lo 34 cl cc, lo 3 i (encInts (outsL S.held (outs.take i))), keO S.keys, .cells 25 [.c x0, .c x1, .c x2, .c x3], .cells 25 zz, .cells 61 [hI 6 S.held.length, lv 2 6 S.keys.length, ii S.next], rI S.held, .cells 25 [.c y0, .c y1, lv 0 5 cl, lv 1 1 i]]) := trim_app (by simp) (by simp only [a1, a2, a3, a4, a12, hz0, EVb, EVc, Int.reduceEq, Int.reduceToNat, Int.reduceLE, Int.reduceLT, Int.reduceAdd, Int.reduceMul, Int.reduceSub, Int.reduceNeg, Nat.reduceAdd, Nat.reduceSub, Nat.reduceMul, Nat.reduceLT, Nat.reduceBEq, Nat.reduceEqDiff, Nat.reduceLeDiff]) (by simp only [hz0, EVb, EVc, Int.reduceEq, Int.reduceToNat, Int.reduceLE, Int.reduceLT, Int.reduceAdd, Int.reduceMul, Int.reduceSub, Int.reduceNeg, Nat.reduceAdd, Nat.reduceSub, Nat.reduceMul, Nat.reduceLT, Nat.reduceBEq, Nat.reduceEqDiff, Nat.reduceLeDiff])
  by_cases hc : i < outs.length
  · have hc' : (i : Int) < ((outs.length : Nat) : Int) := by omega
    have hc0 : (0 : Int) ≤ i := by omega
    have hw : IntKind.wrap .i64 ((i : Int) + 1) = ((i + 1 : Nat) : Int) := by rw [wrap64 (by omega) (by omega)]; omega
    have hx := encInts_get hc
    have hlen2 : (outsL S.held (outs.take i)).length = i := by rw [outsL_length, List.length_take]; omega
    have hap := fun x0 X cs => apO_lv (e := 3) (s := 1) (n := i) (m := 1) (sz := 1) (by_ := 8) (cells := encInts (outsL S.held (outs.take i))) (cs := cs) (H := x0 :: lo 3 i (encInts (outsL S.held (outs.take i))) :: X) (by decide) (Nat.le_trans (Nat.mul_le_mul_right 8 (show i + 1 ≤ 20001 by omega)) (by decide)) (by decide) rfl (by rw [encInts_length, hlen2, Nat.mul_one])
    obtain ⟨r, hR⟩ : ∃ r, r = outs[i] := ⟨_, rfl⟩
    obtain ⟨r0, r1⟩ := hr r (by rw [hR]; exact List.getElem_mem hc)
    have hnx := outsL_take (held := S.held) hc
    rw [← hR] at hx hnx
    have hel := encInts_length S.held
    have hxr := encInts_getD r0 r1
    rw [hnx, encInts_append]
    by_cases hK : S.keys = []
    · have hH := rHolderA_ev (kf + 7) S hK (S.held.getD r.toNat 0) (by omega) (by omega)
      have e1 : lv 2 6 S.keys.length = .c (.slice [] 0 true (some 0)) := by rw [hK]; rfl
      have e2 : lo 110 S.keys.length (encKeys S.keys) = .slot := by rw [hK]; rfl
      simp only [ii, staO, keO, e1, e2] at hH
      simp only [loopR_succ, ht]
      simp only [a1, a2, a3, a4, a12, hc', hc0, hw, hx, e1, e2, hx3, loopR_succ, loopOf, findLoop, firstRegion, Option.some_or, Option.none_or, Option.getD_some, Option.some.injEq, Try.f19, EVb, EVc, Int.reduceEq, Int.reduceToNat, Int.reduceLE, Int.reduceLT, Int.reduceAdd, Int.reduceMul, Int.reduceSub, Int.reduceNeg, Nat.reduceAdd, Nat.reduceSub, Nat.reduceMul, Nat.reduceLT, Nat.reduceBEq, Nat.reduceEqDiff, Nat.reduceLeDiff, FACTS, TYPES]
      rw [evalCode_drawn Try.f19 21 dr19_21]; rotate_left; rfl
      simp only [a1, a2, a3, a4, a12, hc', hc0, hw, hx, hxr, hel, r0, r1, hH, ents_ids, hap, e1, e2, hx3, EVd, Nat.reducePow, Nat.reduceDiv, Nat.reduceMod, EVb, EVc, Int.reduceEq, Int.reduceToNat, Int.reduceLE, Int.reduceLT, Int.reduceAdd, Int.reduceMul, Int.reduceSub, Int.reduceNeg, Nat.reduceAdd, Nat.reduceSub, Nat.reduceMul, Nat.reduceLT, Nat.reduceBEq, Nat.reduceEqDiff, Nat.reduceLeDiff, FACTS, TYPES]
      refine .inr ⟨_, _, hc, rfl, (by rfl), (by rfl), (by rfl), (by rfl), (by rfl), ?_⟩
      try simp only [e1, e2]
      exact ⟨_, by rfl⟩
    · have hKp : 0 < S.keys.length := List.length_pos_iff.2 hK
      have hH := rHolderB_ev (kf + 7) S hK (S.held.getD r.toNat 0) (by omega) (by omega)
      have e1 := lv_pos (s := 2) (sz := 6) hKp
      have e2 := lo_pos (e := 110) (cells := encKeys S.keys) hKp
      simp only [ii, staO, keO, e1, e2] at hH
      simp only [loopR_succ, ht]
      simp only [a1, a2, a3, a4, a12, hc', hc0, hw, hx, e1, e2, hx3, loopR_succ, loopOf, findLoop, firstRegion, Option.some_or, Option.none_or, Option.getD_some, Option.some.injEq, Try.f19, EVb, EVc, Int.reduceEq, Int.reduceToNat, Int.reduceLE, Int.reduceLT, Int.reduceAdd, Int.reduceMul, Int.reduceSub, Int.reduceNeg, Nat.reduceAdd, Nat.reduceSub, Nat.reduceMul, Nat.reduceLT, Nat.reduceBEq, Nat.reduceEqDiff, Nat.reduceLeDiff, FACTS, TYPES]
      rw [evalCode_drawn Try.f19 21 dr19_21]; rotate_left; rfl
      simp only [a1, a2, a3, a4, a12, hc', hc0, hw, hx, hxr, hel, r0, r1, hH, ents_ids, hap, e1, e2, hx3, EVd, Nat.reducePow, Nat.reduceDiv, Nat.reduceMod, EVb, EVc, Int.reduceEq, Int.reduceToNat, Int.reduceLE, Int.reduceLT, Int.reduceAdd, Int.reduceMul, Int.reduceSub, Int.reduceNeg, Nat.reduceAdd, Nat.reduceSub, Nat.reduceMul, Nat.reduceLT, Nat.reduceBEq, Nat.reduceEqDiff, Nat.reduceLeDiff, FACTS, TYPES]
      refine .inr ⟨_, _, hc, rfl, (by rfl), (by rfl), (by rfl), (by rfl), (by rfl), ?_⟩
      try simp only [e1, e2]
      exact ⟨_, by rfl⟩
  · refine .inl ?_
    obtain rfl : i = outs.length := by omega
    have hc' : ¬ (((outs.length : Nat) : Int) < ((outs.length : Nat) : Int)) := by omega
    simp only [loopR_succ, ht]
    simp only [a1, a2, a3, a4, a12, hc', hx3, loopR_succ, loopOf, findLoop, firstRegion, Option.some_or, Option.none_or, Option.getD_some, Option.some.injEq, Try.f19, EVb, EVc, Int.reduceEq, Int.reduceToNat, Int.reduceLE, Int.reduceLT, Int.reduceAdd, Int.reduceMul, Int.reduceSub, Int.reduceNeg, Nat.reduceAdd, Nat.reduceSub, Nat.reduceMul, Nat.reduceLT, Nat.reduceBEq, Nat.reduceEqDiff, Nat.reduceLeDiff, FACTS, TYPES]
    exact ⟨_, rfl, (by rfl), (by rfl), (by rfl), (by rfl), (by rfl)⟩

theorem r14Pass_ev (k : Nat) (ins : Int) (n : Nat) (code : List Ins) (outs : List Int) (nl : Bool) (cap : Option Nat) (nl2 : Bool) (cap2 : Option Nat) (hk : outs.length + code.length + 4000 ≤ k) (hl : code.length ≤ 1000) (hr : rightM ⟨ins, n, code, outs⟩ = true) :
    run (k+9) 19 [aP ⟨ins, n, code, outs⟩ nl cap nl2 cap2] = some (aP (sharePg ins n code outs) (nlE (sharePg ins n code outs).code) (cpE (sharePg ins n code outs).code) (nlE (sharePg ins n code outs).outs) (cpE (sharePg ins n code outs).outs)) := by
  simp only [rightM, headM, Bool.and_eq_true, decide_eq_true_eq] at hr
  obtain ⟨⟨⟨h1, h2, h3, h4, h5, h6⟩, hos⟩, hcd⟩ := hr
  have hB := Begin_ev (k + 7) ins n (.slice (encCode code) code.length nl cap) (.slice (encInts outs) outs.length nl2 cap2) (by omega) (by omega) (by omega) (by omega) (by omega)
  have hsl := startM_length ins n
  simp only [ii] at hB
  rw [run, ev19, ans_trim]
  simp only [Try.f19, aP, ii, hB, EVb, EVc, Int.reduceEq, Int.reduceToNat, Int.reduceLE, Int.reduceLT, Int.reduceAdd, Int.reduceMul, Int.reduceSub, Int.reduceNeg, Nat.reduceAdd, Nat.reduceSub, Nat.reduceMul, Nat.reduceLT, Nat.reduceBEq, Nat.reduceEqDiff, Nat.reduceLeDiff, FACTS, TYPES]
  rw [evalCode_loopB LB19_4 lp19_4]; rotate_left; rfl; rfl; rfl
  generalize hz : loopR _ _ _ _ _ _ _ _ _ _ _ _ = z
  obtain ⟨l', rfl, e1, e2, e3, e4, e5⟩ := loop_r14Pass k (.int .i64 ins) (.int .i64 n) (.slice (encCode code) code.length nl cap) (.slice (encInts outs) outs.length nl2 cap2) (.int .i64 ins) (.int .i64 n) _ (by rfl) (startS ins n) code nl cap rfl
    (by rw [show (startS ins n).held.length = n from hsl]; exact fun i hi => List.all_eq_true.1 hcd i hi) (by omega) (by rw [show (startS ins n).held.length = n from hsl]; omega) (by omega) rfl (by simp only [startS]; omega) _ _ z hz (by omega) (by rfl) (by rfl) (by rfl) (by rfl) (by rfl)
  clear hz
  have hpl : (passS ins n code).held.length = n := by rw [(passAt_facts _ _ _).1]; exact hsl
  simp only [e1, e2, e3, e4, e5, EVb, EVc, Int.reduceEq, Int.reduceToNat, Int.reduceLE, Int.reduceLT, Int.reduceAdd, Int.reduceMul, Int.reduceSub, Int.reduceNeg, Nat.reduceAdd, Nat.reduceSub, Nat.reduceMul, Nat.reduceLT, Nat.reduceBEq, Nat.reduceEqDiff, Nat.reduceLeDiff, FACTS, TYPES]
  rw [evalCode_loopB LB19_19 lp19_19]; rotate_left; rfl; rfl; rfl
  generalize hz : loopR _ _ _ _ _ _ _ _ _ _ _ _ = z
  obtain ⟨l2, rfl, f1, f2, f3, f4, f12⟩ := loop_r14Pass2 k (.int .i64 ins) (.int .i64 n) (.slice (encCode code) code.length nl cap) (.slice (encInts outs) outs.length nl2 cap2) (.int .i64 ins) (.int .i64 n) _ (by rfl) (passC ins n code).length (encCode (passC ins n code)) (passS ins n code) outs nl2 cap2 rfl
    (by rw [hpl]; exact fun r hr => by simpa using List.all_eq_true.1 hos r hr) (by omega) (by rw [hpl]; omega) (by omega) _ _ z hz (by omega) (by exact e1) (by exact e2) (by exact e3) (by exact e4) (by rfl)
  clear hz
  rw [List.take_length]
  have g3 := lv_pos (s := 1) (sz := 1) (show 0 < outs.length by omega)
  have g4 := lo_pos (e := 3) (cells := encInts (outsL (passS ins n code).held outs)) (show 0 < outs.length by omega)
  have q1 : ¬ outs.length = 0 := by omega
  have q2 : (encInts (outsL (passS ins n code).held outs)).take outs.length = encInts (outsL (passS ins n code).held outs) := List.take_of_length_le (by rw [encInts_length, outsL_length]; exact Nat.le_refl _)
  rcases Nat.eq_zero_or_pos (passC ins n code).length with hN | hN
  · have g0 : passC ins n code = [] := List.eq_nil_of_length_eq_zero hN
    have g1 : lv 0 5 (passC ins n code).length = .c (.slice [] 0 true (some 0)) := by rw [hN]; rfl
    have g2 : lo 34 (passC ins n code).length (encCode (passC ins n code)) = .slot := by rw [hN]; rfl
    simp only [f2, f4, g1, g2, g3, g4, encInts_length, outsL_length, Nat.mul_one, q2, EVb, EVc, Int.reduceEq, Int.reduceToNat, Int.reduceLE, Int.reduceLT, Int.reduceAdd, Int.reduceMul, Int.reduceSub, Int.reduceNeg, Nat.reduceAdd, Nat.reduceSub, Nat.reduceMul, Nat.reduceLT, Nat.reduceBEq, Nat.reduceEqDiff, Nat.reduceLeDiff, FACTS, TYPES]
    simp only [sharePg, g0, sC, sI, aP, nlE, cpE, outsL_length, q1, encCode, Nat.le_refl, if_true, EVb, EVc, Int.reduceEq, Int.reduceToNat, Int.reduceLE, Int.reduceLT, Int.reduceAdd, Int.reduceMul, Int.reduceSub, Int.reduceNeg, Nat.reduceAdd, Nat.reduceSub, Nat.reduceMul, Nat.reduceLT, Nat.reduceBEq, Nat.reduceEqDiff, Nat.reduceLeDiff, FACTS, TYPES]
  · have g1 := lv_pos (s := 0) (sz := 5) hN
    have g2 := lo_pos (e := 34) (cells := encCode (passC ins n code)) hN
    have g5 : (encCode (passC ins n code)).take ((passC ins n code).length * 5) = encCode (passC ins n code) := List.take_of_length_le (by rw [encCode_length]; exact Nat.le_refl _)
    have g6 : ¬ (passC ins n code).length = 0 := by omega
    simp only [f2, f4, g1, g2, g3, g4, encCode_length, encInts_length, outsL_length, Nat.mul_one, q2, g5, Nat.le_refl, EVb, EVc, Int.reduceEq, Int.reduceToNat, Int.reduceLE, Int.reduceLT, Int.reduceAdd, Int.reduceMul, Int.reduceSub, Int.reduceNeg, Nat.reduceAdd, Nat.reduceSub, Nat.reduceMul, Nat.reduceLT, Nat.reduceBEq, Nat.reduceEqDiff, Nat.reduceLeDiff, FACTS, TYPES]
    simp only [sharePg, sC, sI, aP, nlE, cpE, outsL_length, q1, g6, Nat.le_refl, if_true, EVb, EVc, Int.reduceEq, Int.reduceToNat, Int.reduceLE, Int.reduceLT, Int.reduceAdd, Int.reduceMul, Int.reduceSub, Int.reduceNeg, Nat.reduceAdd, Nat.reduceSub, Nat.reduceMul, Nat.reduceLT, Nat.reduceBEq, Nat.reduceEqDiff, Nat.reduceLeDiff, FACTS, TYPES]
theorem l14empty_ev (k : Nat) (a b : Int) (c d : List IV) (n m : Nat) (nl nl2 : Bool) (cap cap2 : Option Nat) :
    run (k+1) 18 [.agg [ii a, ii b, .c (.slice c n nl cap), .c (.slice d m nl2 cap2)]] = some (bb (decide (a = 0) && (decide (b = 0) && (decide (n = 0) && decide (m = 0))))) := by
  rw [run, ev18, ans_trim]
  by_cases h1 : a = 0
  · by_cases h2 : b = 0
    · by_cases h3 : (n : Int) = 0
      · have : n = 0 := by omega
        by_cases h4 : (m : Int) = 0
        · have : m = 0 := by omega
          simp only [Try.f18, ii, h1, h2, h3, h4, EVb, EVc, Int.reduceEq, Int.reduceToNat, Int.reduceLE, Int.reduceLT, Int.reduceAdd, Int.reduceMul, Int.reduceSub, Int.reduceNeg, Nat.reduceAdd, Nat.reduceSub, Nat.reduceMul, Nat.reduceLT, Nat.reduceBEq, Nat.reduceEqDiff, Nat.reduceLeDiff, FACTS, TYPES]
          simp [*]
        · have : ¬ m = 0 := by omega
          simp only [Try.f18, ii, h1, h2, h3, h4, EVb, EVc, Int.reduceEq, Int.reduceToNat, Int.reduceLE, Int.reduceLT, Int.reduceAdd, Int.reduceMul, Int.reduceSub, Int.reduceNeg, Nat.reduceAdd, Nat.reduceSub, Nat.reduceMul, Nat.reduceLT, Nat.reduceBEq, Nat.reduceEqDiff, Nat.reduceLeDiff, FACTS, TYPES]
          simp [*]
      · have : ¬ n = 0 := by omega
        simp only [Try.f18, ii, h1, h2, h3, EVb, EVc, Int.reduceEq, Int.reduceToNat, Int.reduceLE, Int.reduceLT, Int.reduceAdd, Int.reduceMul, Int.reduceSub, Int.reduceNeg, Nat.reduceAdd, Nat.reduceSub, Nat.reduceMul, Nat.reduceLT, Nat.reduceBEq, Nat.reduceEqDiff, Nat.reduceLeDiff, FACTS, TYPES]
        simp [this]
    · simp only [Try.f18, ii, h1, h2, EVb, EVc, Int.reduceEq, Int.reduceToNat, Int.reduceLE, Int.reduceLT, Int.reduceAdd, Int.reduceMul, Int.reduceSub, Int.reduceNeg, Nat.reduceAdd, Nat.reduceSub, Nat.reduceMul, Nat.reduceLT, Nat.reduceBEq, Nat.reduceEqDiff, Nat.reduceLeDiff, FACTS, TYPES]
      try simp
  · simp only [Try.f18, ii, h1, EVb, EVc, Int.reduceEq, Int.reduceToNat, Int.reduceLE, Int.reduceLT, Int.reduceAdd, Int.reduceMul, Int.reduceSub, Int.reduceNeg, Nat.reduceAdd, Nat.reduceSub, Nat.reduceMul, Nat.reduceLT, Nat.reduceBEq, Nat.reduceEqDiff, Nat.reduceLeDiff, FACTS, TYPES]
    try simp
end Go.Proofs.Sw
