/- A part of the proof: what functions of the program answer, of whatever arguments, reckoned with letters by the interpreter's equations. Its conditions stand in each theorem. -/
import Derived.Test.YtefdgfdahmaciaaS14J
namespace Go.Proofs.Sw
set_option linter.unusedVariables false
set_option linter.unusedSimpArgs false
set_option linter.unusedSectionVars false
open Go.Ab
variable [Globals]
theorem twL_pre (S0 : St) (code : List Ins) (i : Nat) : ∀ d, ∃ X, twL S0 code (i + d) = twL S0 code i ++ X
  | 0 => ⟨[], by simp⟩
  | d + 1 => by
    obtain ⟨X, hX⟩ := twL_pre S0 code i d
    rw [show i + (d + 1) = (i + d) + 1 by omega, twL]
    split
    · exact ⟨X ++ [_], by rw [hX, List.append_assoc]⟩
    · exact ⟨X, hX⟩
theorem twL_at {S0 : St} {code : List Ins} {i N : Nat} (h : i < N) (hc : 0 ≤ firstAt S0 code i ∧ firstAt S0 code i < i) :
    ∃ hl : (twL S0 code i).length < (twL S0 code N).length, (twL S0 code N)[(twL S0 code i).length] = ((i : Int), firstAt S0 code i) := by
  obtain ⟨X, hX⟩ := twL_pre S0 code (i + 1) (N - (i + 1))
  rw [show i + 1 + (N - (i + 1)) = N by omega, twL, if_pos hc] at hX
  have hl : (twL S0 code i).length < (twL S0 code N).length := by rw [hX]; simp
  refine ⟨hl, ?_⟩
  have h2 : (twL S0 code N)[(twL S0 code i).length]? = some ((i : Int), firstAt S0 code i) := by rw [hX]; simp
  rw [List.getElem?_eq_getElem hl] at h2
  injection h2
abbrev jO (S0 : St) (code : List Ins) (i : Nat) : AObj := .cells 3 [ii (twL S0 code i).length]
theorem loop_Twice0 (kf : Nat) (X1 X2 X5 X6 X7  : AObj) (hX1 : X1.under 16 = true) (hX2 : X2.under 16 = true) (hX5 : X5.under 16 = true) (hX6 : X6.under 16 = true) (hX7 : X7.under 16 = true)  (stop : Int) (S0 : St) (code : List Ins) (nl : Bool) (cap : Option Nat) (hcode : ∀ i ∈ code, mayM i S0.held.length = true) (hlen : code.length ≤ 1000) (hnx : 0 ≤ S0.next ∧ S0.next ≤ 100000) (l0 : Ass) (c0 : (l0.all fun e => AV.under 16 e.2) = true) (q3 : asc l0 3 = .ptr 3 0) (q4 : asc l0 4 = .ptr 4 0) (q10 : asc l0 10 = .ptr 8 0) (q14 : asc l0 14 = .ptr 9 0) (q15 : asc l0 15 = .ptr 10 0) (k : Nat) (l : Ass) (z : Option Out) (hz : loopR Try.prog tab (kf + 10) none LB73_4 73 57 [0, 5, 20, 21, 22] 16 k l ([twO (twL S0 code code.length), X1, X2, .cells 3 [ii stop], .cells 4 [bb false], X5, X6, X7, .cells 56 [lv 0 2 (twL S0 code code.length).length],  .cells 3 [ii 0], jO S0 code 0, rfObj #[115, 116] RA5_32 RB5_32 5 .ready none (fr 163 l0), .cells 97 [hI 13 (stAt S0 code 0).held.length, .hmap 14, .hmap 15, ii (stAt S0 code 0).next], rI (stAt S0 code 0).held, knO (stAt S0 code 0).keys, fsO (stAt S0 code 0).keys]) = z) (hk : code.length < k) (a0 : asc l 0 = .yld 11) (a5 : asc l 5 = .ptr 12 0) (a20 : asc l 20 = sC code nl cap) (a21 : asc l 21 = ii code.length) (a22 : asc l 22 = ii 0) :
    ∃ l', z = some (.exit 0 (fr 57 l') [twO (twL S0 code code.length), X1, X2, .cells 3 [ii stop], .cells 4 [bb false], X5, X6, X7, .cells 56 [lv 0 2 (twL S0 code code.length).length],  .cells 3 [ii 0], jO S0 code code.length, rfObj #[115, 116] RA5_32 RB5_32 5 .ready none (fr 163 l0), .cells 97 [hI 13 (stAt S0 code code.length).held.length, .hmap 14, .hmap 15, ii (stAt S0 code code.length).next], rI (stAt S0 code code.length).held, knO (stAt S0 code code.length).keys, fsO (stAt S0 code code.length).keys]) ∨ ∃ (S9 : St) (G : Heap), z = some (.ret (fr 57 l') ([twO (twL S0 code code.length), X1, X2, .cells 3 [ii stop], .cells 4 [bb false], X5, X6, X7, .cells 56 [lv 0 2 (twL S0 code code.length).length], .cells 3 [ii 0], .cells 3 [ii stop], rfObj #[115, 116] RA5_32 RB5_32 5 .done (some (.exit 6)) (fr 163 l0), .cells 97 [hI 13 S9.held.length, .hmap 14, .hmap 15, ii S9.next], rI S9.held, knO S9.keys, fsO S9.keys] ++ G)) := by
  subst hz
  refine loop_nat code.length (fun k l H => loopR Try.prog tab (kf + 10) none LB73_4 73 57 [0, 5, 20, 21, 22] 16 k l H)
    (fun i l H => asc l 0 = .yld 11 ∧ asc l 5 = .ptr 12 0 ∧ asc l 20 = sC code nl cap ∧ asc l 21 = ii code.length ∧ asc l 22 = ii i ∧ ∃ G, H = ([twO (twL S0 code code.length), X1, X2, .cells 3 [ii stop], .cells 4 [bb false], X5, X6, X7, .cells 56 [lv 0 2 (twL S0 code code.length).length],  .cells 3 [ii 0], jO S0 code i, rfObj #[115, 116] RA5_32 RB5_32 5 .ready none (fr 163 l0), .cells 97 [hI 13 (stAt S0 code i).held.length, .hmap 14, .hmap 15, ii (stAt S0 code i).next], rI (stAt S0 code i).held, knO (stAt S0 code i).keys, fsO (stAt S0 code i).keys]) ++ G)
    (fun z => ∃ l', z = some (.exit 0 (fr 57 l') [twO (twL S0 code code.length), X1, X2, .cells 3 [ii stop], .cells 4 [bb false], X5, X6, X7, .cells 56 [lv 0 2 (twL S0 code code.length).length],  .cells 3 [ii 0], jO S0 code code.length, rfObj #[115, 116] RA5_32 RB5_32 5 .ready none (fr 163 l0), .cells 97 [hI 13 (stAt S0 code code.length).held.length, .hmap 14, .hmap 15, ii (stAt S0 code code.length).next], rI (stAt S0 code code.length).held, knO (stAt S0 code code.length).keys, fsO (stAt S0 code code.length).keys]) ∨ ∃ (S9 : St) (G : Heap), z = some (.ret (fr 57 l') ([twO (twL S0 code code.length), X1, X2, .cells 3 [ii stop], .cells 4 [bb false], X5, X6, X7, .cells 56 [lv 0 2 (twL S0 code code.length).length], .cells 3 [ii 0], .cells 3 [ii stop], rfObj #[115, 116] RA5_32 RB5_32 5 .done (some (.exit 6)) (fr 163 l0), .cells 97 [hI 13 S9.held.length, .hmap 14, .hmap 15, ii S9.next], rI S9.held, knO S9.keys, fsO S9.keys] ++ G))) ?_ code.length 0 k l _ (by omega) hk ⟨a0, a5, a20, a21, a22, [], by rw [List.append_nil]⟩
  clear hk a0 a5 a20 a21 a22
  rintro i k l H hi ⟨a0, a5, a20, a21, a22, G, rfl⟩
  have ht : trim 16 (fr 57 (keep l [0, 5, 20, 21, 22])) (([twO (twL S0 code code.length), X1, X2, .cells 3 [ii stop], .cells 4 [bb false], X5, X6, X7, .cells 56 [lv 0 2 (twL S0 code code.length).length],  .cells 3 [ii 0], jO S0 code i, rfObj #[115, 116] RA5_32 RB5_32 5 .ready none (fr 163 l0), .cells 97 [hI 13 (stAt S0 code i).held.length, .hmap 14, .hmap 15, ii (stAt S0 code i).next], rI (stAt S0 code i).held, knO (stAt S0 code i).keys, fsO (stAt S0 code i).keys]) ++ G) = ([twO (twL S0 code code.length), X1, X2, .cells 3 [ii stop], .cells 4 [bb false], X5, X6, X7, .cells 56 [lv 0 2 (twL S0 code code.length).length],  .cells 3 [ii 0], jO S0 code i, rfObj #[115, 116] RA5_32 RB5_32 5 .ready none (fr 163 l0), .cells 97 [hI 13 (stAt S0 code i).held.length, .hmap 14, .hmap 15, ii (stAt S0 code i).next], rI (stAt S0 code i).held, knO (stAt S0 code i).keys, fsO (stAt S0 code i).keys]) := trim_app (by simp) (by simp only [a0, a5, a20, a21, a22, ents_under, hX1, hX2, hX5, hX6, hX7,  c0, EVb, EVc, Int.reduceEq, Int.reduceToNat, Int.reduceLE, Int.reduceLT, Int.reduceAdd, Int.reduceMul, Int.reduceSub, Int.reduceNeg, Nat.reduceAdd, Nat.reduceSub, Nat.reduceMul, Nat.reduceLT, Nat.reduceBEq, Nat.reduceEqDiff, Nat.reduceLeDiff]) (by simp only [ents_under, hX1, hX2, hX5, hX6, hX7,  c0, EVb, EVc, Int.reduceEq, Int.reduceToNat, Int.reduceLE, Int.reduceLT, Int.reduceAdd, Int.reduceMul, Int.reduceSub, Int.reduceNeg, Nat.reduceAdd, Nat.reduceSub, Nat.reduceMul, Nat.reduceLT, Nat.reduceBEq, Nat.reduceEqDiff, Nat.reduceLeDiff])
  by_cases hc : i < code.length
  · have hc' : (i : Int) < ((code.length : Nat) : Int) := by omega
    have hc0 : (0 : Int) ≤ i := by omega
    have hw : IntKind.wrap .i64 ((i : Int) + 1) = ((i + 1 : Nat) : Int) := by rw [wrap64 (by omega) (by omega)]; omega
    have hx := encCode_get hc
    have htl := twL_length S0 code i
    obtain ⟨x, hX⟩ : ∃ x, x = code[i] := ⟨_, rfl⟩
    rw [← hX] at hx
    obtain ⟨f1, f2, f3, f4⟩ := stAt_facts S0 code i
    have hm := mayM_facts (hcode x (by rw [hX]; exact List.getElem_mem hc))
    have hst : stAt S0 code (i + 1) = stepS (stAt S0 code i) i x := by rw [stAt_succ hc, hX]
    have hfa : firstAt S0 code i = (reckonM (stAt S0 code i) i x).2.1 := by unfold firstAt; rw [List.getD_eq_getElem?_getD, List.getElem?_eq_getElem hc, ← hX]; rfl
    have htw : twL S0 code (i + 1) = if 0 ≤ firstAt S0 code i ∧ firstAt S0 code i < i then twL S0 code i ++ [((i : Int), firstAt S0 code i)] else twL S0 code i := rfl
    have hat := twL_at (S0 := S0) (code := code) hc
    rw [hfa] at htw hat
    simp only [jO, hst, htw]
    simp only [jO] at ht
    obtain ⟨S, hS⟩ : ∃ S, S = stAt S0 code i := ⟨_, rfl⟩
    obtain ⟨tw, htwe⟩ : ∃ tw, tw = twL S0 code i := ⟨_, rfl⟩
    obtain ⟨tN, htN⟩ : ∃ tN, tN = twL S0 code code.length := ⟨_, rfl⟩
    obtain ⟨SN, hSN⟩ : ∃ SN, SN = stAt S0 code code.length := ⟨_, rfl⟩
    rw [← htN, ← hSN]
    rw [← hS] at f1 f2 f3 f4 ht hat ⊢
    rw [← htwe] at ht htl hat ⊢
    rw [← htN] at ht hat
    rw [← f1] at hm
    obtain ⟨⟨m1, m2⟩, ⟨m3, m4⟩, ⟨m5, m6⟩, m7⟩ := hm
    have hel := encInts_length S.held
    have ht2 : x.to.toNat < S.held.length := by omega
    have hh := reckonM_held S i x
    have hR := tReckon_ev (kf + 7) S i x.op x.to x.a x.b x.c ⟨m5, m6⟩ m7 (by omega)
    simp only [aI, ii, hh] at hR
    rw [show (reckonM S i ⟨x.op, x.to, x.a, x.b, x.c⟩) = reckonM S i x from rfl] at hR
    obtain ⟨f, hf⟩ : ∃ f, f = (reckonM S i x).2.1 := ⟨_, rfl⟩
    rw [← hf] at hR hat ⊢
    clear hst htw hfa hcode hX
    by_cases hf0 : 0 ≤ f
    · by_cases hf1 : f < i
      · rw [if_pos ⟨hf0, hf1⟩]
        obtain ⟨hl, hge⟩ := hat ⟨hf0, hf1⟩
        have t1 := lv_pos (s := 0) (sz := 2) (show 0 < tN.length by omega)
        have t2 := lo_pos (e := 62) (cells := encPairs tN) (show 0 < tN.length by omega)
        have t3 := encPairs_length tN
        have hj0 : (0 : Int) ≤ tw.length := by omega
        have hj1 : (tw.length : Int) < tN.length := by omega
        have hj2 : ¬ ((tN.length : Int) ≤ tw.length) := by omega
        have hj3 : (tw.length : Int).toNat = tw.length := by omega
        obtain ⟨hg1, hg2⟩ := encPairs_get hl
        rw [hge] at hg1 hg2
        have hwj : IntKind.wrap .i64 ((tw.length : Int) + 1) = ((tw.length + 1 : Nat) : Int) := by rw [wrap64 (by omega) (by omega)]; omega
        by_cases hs : ((tw.length + 1 : Nat) : Int) = stop
        · refine .inl ?_
          simp only [loopR_succ, ht]
          simp only [a0, a5, a20, a21, a22, hc', hc0, hw, hx, hR, ents_ids, ents_ren, loopR_succ, loopOf, findLoop, firstRegion, Option.some_or, Option.none_or, Option.getD_some, Option.some.injEq, Try.f73, EVb, EVc, Int.reduceEq, Int.reduceToNat, Int.reduceLE, Int.reduceLT, Int.reduceAdd, Int.reduceMul, Int.reduceSub, Int.reduceNeg, Nat.reduceAdd, Nat.reduceSub, Nat.reduceMul, Nat.reduceLT, Nat.reduceBEq, Nat.reduceEqDiff, Nat.reduceLeDiff, FACTS, TYPES]
          rw [evalCode_drawn Try.f73 7 dr73_7]; rotate_left; rfl
          simp only [a0, a5, a20, a21, a22, hc', hc0, hw, hel, hh, m3, m4, ht2, encInts_set, EVd, Nat.reducePow, Nat.reduceDiv, Nat.reduceMod, EVb, EVc, Int.reduceEq, Int.reduceToNat, Int.reduceLE, Int.reduceLT, Int.reduceAdd, Int.reduceMul, Int.reduceSub, Int.reduceNeg, Nat.reduceAdd, Nat.reduceSub, Nat.reduceMul, Nat.reduceLT, Nat.reduceBEq, Nat.reduceEqDiff, Nat.reduceLeDiff, FACTS, TYPES]
          simp only [a0, a5, a20, a21, a22, hc', hc0, hw, hf0, hf1, q3, q4, q10, q14, q15, c0, evalT_round, roundA_rf, t1, t2, t3, hj0, hj1, hj2, hj3, hg1, hg2, hwj, hs, rfAs, rfBd, rfOf, findRF, firstRegion, Option.some_or, Option.none_or, Option.getD_some, Option.some.injEq, findLoop, loopOf, loopR_succ, loopOf, findLoop, firstRegion, Option.some_or, Option.none_or, Option.getD_some, Option.some.injEq, Try.f73, Try.f5, EVb, EVc, Int.reduceEq, Int.reduceToNat, Int.reduceLE, Int.reduceLT, Int.reduceAdd, Int.reduceMul, Int.reduceSub, Int.reduceNeg, Nat.reduceAdd, Nat.reduceSub, Nat.reduceMul, Nat.reduceLT, Nat.reduceBEq, Nat.reduceEqDiff, Nat.reduceLeDiff, FACTS, TYPES]
          exact ⟨_, .inr ⟨stepS S i x, _, by simp only [stepS, hh, List.length_set]; rfl⟩⟩
        · simp only [loopR_succ, ht]
          simp only [a0, a5, a20, a21, a22, hc', hc0, hw, hx, hR, ents_ids, ents_ren, loopR_succ, loopOf, findLoop, firstRegion, Option.some_or, Option.none_or, Option.getD_some, Option.some.injEq, Try.f73, EVb, EVc, Int.reduceEq, Int.reduceToNat, Int.reduceLE, Int.reduceLT, Int.reduceAdd, Int.reduceMul, Int.reduceSub, Int.reduceNeg, Nat.reduceAdd, Nat.reduceSub, Nat.reduceMul, Nat.reduceLT, Nat.reduceBEq, Nat.reduceEqDiff, Nat.reduceLeDiff, FACTS, TYPES]
          rw [evalCode_drawn Try.f73 7 dr73_7]; rotate_left; rfl
          simp only [a0, a5, a20, a21, a22, hc', hc0, hw, hel, hh, m3, m4, ht2, encInts_set, EVd, Nat.reducePow, Nat.reduceDiv, Nat.reduceMod, EVb, EVc, Int.reduceEq, Int.reduceToNat, Int.reduceLE, Int.reduceLT, Int.reduceAdd, Int.reduceMul, Int.reduceSub, Int.reduceNeg, Nat.reduceAdd, Nat.reduceSub, Nat.reduceMul, Nat.reduceLT, Nat.reduceBEq, Nat.reduceEqDiff, Nat.reduceLeDiff, FACTS, TYPES]
          simp only [a0, a5, a20, a21, a22, hc', hc0, hw, hf0, hf1, q3, q4, q10, q14, q15, c0, evalT_round, roundA_rf, t1, t2, t3, hj0, hj1, hj2, hj3, hg1, hg2, hwj, hs, rfAs, rfBd, rfOf, findRF, firstRegion, Option.some_or, Option.none_or, Option.getD_some, Option.some.injEq, findLoop, loopOf, loopR_succ, loopOf, findLoop, firstRegion, Option.some_or, Option.none_or, Option.getD_some, Option.some.injEq, Try.f73, Try.f5, EVb, EVc, Int.reduceEq, Int.reduceToNat, Int.reduceLE, Int.reduceLT, Int.reduceAdd, Int.reduceMul, Int.reduceSub, Int.reduceNeg, Nat.reduceAdd, Nat.reduceSub, Nat.reduceMul, Nat.reduceLT, Nat.reduceBEq, Nat.reduceEqDiff, Nat.reduceLeDiff, FACTS, TYPES]
          refine .inr ⟨_, _, hc, rfl, (by rfl), (by rfl), (by rfl), (by rfl), (by rfl), ?_⟩
          try simp only [stepS, hh, List.length_set, List.length_append, List.length_cons, List.length_nil, Nat.zero_add]
          exact ⟨_, by rfl⟩
      · rw [if_neg (fun h => hf1 h.2)]
        simp only [loopR_succ, ht]
        simp only [a0, a5, a20, a21, a22, hc', hc0, hw, hx, hR, ents_ids, ents_ren, loopR_succ, loopOf, findLoop, firstRegion, Option.some_or, Option.none_or, Option.getD_some, Option.some.injEq, Try.f73, EVb, EVc, Int.reduceEq, Int.reduceToNat, Int.reduceLE, Int.reduceLT, Int.reduceAdd, Int.reduceMul, Int.reduceSub, Int.reduceNeg, Nat.reduceAdd, Nat.reduceSub, Nat.reduceMul, Nat.reduceLT, Nat.reduceBEq, Nat.reduceEqDiff, Nat.reduceLeDiff, FACTS, TYPES]
        rw [evalCode_drawn Try.f73 7 dr73_7]; rotate_left; rfl
        simp only [a0, a5, a20, a21, a22, hc', hc0, hw, hel, hh, m3, m4, ht2, encInts_set, EVd, Nat.reducePow, Nat.reduceDiv, Nat.reduceMod, EVb, EVc, Int.reduceEq, Int.reduceToNat, Int.reduceLE, Int.reduceLT, Int.reduceAdd, Int.reduceMul, Int.reduceSub, Int.reduceNeg, Nat.reduceAdd, Nat.reduceSub, Nat.reduceMul, Nat.reduceLT, Nat.reduceBEq, Nat.reduceEqDiff, Nat.reduceLeDiff, FACTS, TYPES]
        simp only [a0, a5, a20, a21, a22, hc', hc0, hw, hf0, hf1, tupO_some, EVb, EVc, Int.reduceEq, Int.reduceToNat, Int.reduceLE, Int.reduceLT, Int.reduceAdd, Int.reduceMul, Int.reduceSub, Int.reduceNeg, Nat.reduceAdd, Nat.reduceSub, Nat.reduceMul, Nat.reduceLT, Nat.reduceBEq, Nat.reduceEqDiff, Nat.reduceLeDiff, FACTS, TYPES]
        refine .inr ⟨_, _, hc, rfl, (by rfl), (by rfl), (by rfl), (by rfl), (by rfl), ?_⟩
        try simp only [stepS, hh, List.length_set]
        exact ⟨_, by rfl⟩
    · rw [if_neg (fun h => hf0 h.1)]
      simp only [loopR_succ, ht]
      simp only [a0, a5, a20, a21, a22, hc', hc0, hw, hx, hR, ents_ids, ents_ren, loopR_succ, loopOf, findLoop, firstRegion, Option.some_or, Option.none_or, Option.getD_some, Option.some.injEq, Try.f73, EVb, EVc, Int.reduceEq, Int.reduceToNat, Int.reduceLE, Int.reduceLT, Int.reduceAdd, Int.reduceMul, Int.reduceSub, Int.reduceNeg, Nat.reduceAdd, Nat.reduceSub, Nat.reduceMul, Nat.reduceLT, Nat.reduceBEq, Nat.reduceEqDiff, Nat.reduceLeDiff, FACTS, TYPES]
      rw [evalCode_drawn Try.f73 7 dr73_7]; rotate_left; rfl
      simp only [a0, a5, a20, a21, a22, hc', hc0, hw, hel, hh, m3, m4, ht2, encInts_set, EVd, Nat.reducePow, Nat.reduceDiv, Nat.reduceMod, EVb, EVc, Int.reduceEq, Int.reduceToNat, Int.reduceLE, Int.reduceLT, Int.reduceAdd, Int.reduceMul, Int.reduceSub, Int.reduceNeg, Nat.reduceAdd, Nat.reduceSub, Nat.reduceMul, Nat.reduceLT, Nat.reduceBEq, Nat.reduceEqDiff, Nat.reduceLeDiff, FACTS, TYPES]
      simp only [a0, a5, a20, a21, a22, hc', hc0, hw, hf0, tupO_some, EVb, EVc, Int.reduceEq, Int.reduceToNat, Int.reduceLE, Int.reduceLT, Int.reduceAdd, Int.reduceMul, Int.reduceSub, Int.reduceNeg, Nat.reduceAdd, Nat.reduceSub, Nat.reduceMul, Nat.reduceLT, Nat.reduceBEq, Nat.reduceEqDiff, Nat.reduceLeDiff, FACTS, TYPES]
      refine .inr ⟨_, _, hc, rfl, (by rfl), (by rfl), (by rfl), (by rfl), (by rfl), ?_⟩
      try simp only [stepS, hh, List.length_set]
      exact ⟨_, by rfl⟩
  · refine .inl ?_
    obtain rfl : i = code.length := by omega
    have hc' : ¬ (((code.length : Nat) : Int) < ((code.length : Nat) : Int)) := by omega
    simp only [jO] at ht ⊢
    simp only [loopR_succ, ht]
    simp only [a0, a5, a20, a21, a22, hc', loopR_succ, loopOf, findLoop, firstRegion, Option.some_or, Option.none_or, Option.getD_some, Option.some.injEq, Try.f73, EVb, EVc, Int.reduceEq, Int.reduceToNat, Int.reduceLE, Int.reduceLT, Int.reduceAdd, Int.reduceMul, Int.reduceSub, Int.reduceNeg, Nat.reduceAdd, Nat.reduceSub, Nat.reduceMul, Nat.reduceLT, Nat.reduceBEq, Nat.reduceEqDiff, Nat.reduceLeDiff, FACTS, TYPES]
    exact ⟨_, .inl rfl⟩

theorem loop_Twice1 (kf : Nat) (X1 X2 X5 X6 X7 Y9 Y10 Y11 : AObj) (hX1 : X1.under 19 = true) (hX2 : X2.under 19 = true) (hX5 : X5.under 19 = true) (hX6 : X6.under 19 = true) (hX7 : X7.under 19 = true) (hY9 : Y9.under 19 = true) (hY10 : Y10.under 19 = true) (hY11 : Y11.under 19 = true) (stop : Int) (S0 : St) (code : List Ins) (nl : Bool) (cap : Option Nat) (hcode : ∀ i ∈ code, mayM i S0.held.length = true) (hlen : code.length ≤ 1000) (hnx : 0 ≤ S0.next ∧ S0.next ≤ 100000) (l0 : Ass) (c0 : (l0.all fun e => AV.under 19 e.2) = true) (q3 : asc l0 3 = .ptr 3 0) (q4 : asc l0 4 = .ptr 4 0) (q10 : asc l0 10 = .ptr 8 0) (q14 : asc l0 14 = .ptr 12 0) (q15 : asc l0 15 = .ptr 13 0) (k : Nat) (l : Ass) (z : Option Out) (hz : loopR Try.prog tab (kf + 10) none LB73_4 73 57 [0, 5, 20, 21, 22] 19 k l ([twO (twL S0 code code.length), X1, X2, .cells 3 [ii stop], .cells 4 [bb false], X5, X6, X7, .cells 56 [lv 0 2 (twL S0 code code.length).length], Y9, Y10, Y11, .cells 3 [ii 1], jO S0 code 0, rfObj #[115, 116] RA5_32 RB5_32 5 .ready none (fr 163 l0), .cells 97 [hI 16 (stAt S0 code 0).held.length, .hmap 17, .hmap 18, ii (stAt S0 code 0).next], rI (stAt S0 code 0).held, knO (stAt S0 code 0).keys, fsO (stAt S0 code 0).keys]) = z) (hk : code.length < k) (a0 : asc l 0 = .yld 14) (a5 : asc l 5 = .ptr 15 0) (a20 : asc l 20 = sC code nl cap) (a21 : asc l 21 = ii code.length) (a22 : asc l 22 = ii 0) :
    ∃ l', z = some (.exit 0 (fr 57 l') [twO (twL S0 code code.length), X1, X2, .cells 3 [ii stop], .cells 4 [bb false], X5, X6, X7, .cells 56 [lv 0 2 (twL S0 code code.length).length], Y9, Y10, Y11, .cells 3 [ii 1], jO S0 code code.length, rfObj #[115, 116] RA5_32 RB5_32 5 .ready none (fr 163 l0), .cells 97 [hI 16 (stAt S0 code code.length).held.length, .hmap 17, .hmap 18, ii (stAt S0 code code.length).next], rI (stAt S0 code code.length).held, knO (stAt S0 code code.length).keys, fsO (stAt S0 code code.length).keys])  := by
  subst hz
  refine loop_nat code.length (fun k l H => loopR Try.prog tab (kf + 10) none LB73_4 73 57 [0, 5, 20, 21, 22] 19 k l H)
    (fun i l H => asc l 0 = .yld 14 ∧ asc l 5 = .ptr 15 0 ∧ asc l 20 = sC code nl cap ∧ asc l 21 = ii code.length ∧ asc l 22 = ii i ∧ ∃ G, H = ([twO (twL S0 code code.length), X1, X2, .cells 3 [ii stop], .cells 4 [bb false], X5, X6, X7, .cells 56 [lv 0 2 (twL S0 code code.length).length], Y9, Y10, Y11, .cells 3 [ii 1], jO S0 code i, rfObj #[115, 116] RA5_32 RB5_32 5 .ready none (fr 163 l0), .cells 97 [hI 16 (stAt S0 code i).held.length, .hmap 17, .hmap 18, ii (stAt S0 code i).next], rI (stAt S0 code i).held, knO (stAt S0 code i).keys, fsO (stAt S0 code i).keys]) ++ G)
    (fun z => ∃ l', z = some (.exit 0 (fr 57 l') [twO (twL S0 code code.length), X1, X2, .cells 3 [ii stop], .cells 4 [bb false], X5, X6, X7, .cells 56 [lv 0 2 (twL S0 code code.length).length], Y9, Y10, Y11, .cells 3 [ii 1], jO S0 code code.length, rfObj #[115, 116] RA5_32 RB5_32 5 .ready none (fr 163 l0), .cells 97 [hI 16 (stAt S0 code code.length).held.length, .hmap 17, .hmap 18, ii (stAt S0 code code.length).next], rI (stAt S0 code code.length).held, knO (stAt S0 code code.length).keys, fsO (stAt S0 code code.length).keys]) ) ?_ code.length 0 k l _ (by omega) hk ⟨a0, a5, a20, a21, a22, [], by rw [List.append_nil]⟩
  clear hk a0 a5 a20 a21 a22
  rintro i k l H hi ⟨a0, a5, a20, a21, a22, G, rfl⟩
  have ht : trim 19 (fr 57 (keep l [0, 5, 20, 21, 22])) (([twO (twL S0 code code.length), X1, X2, .cells 3 [ii stop], .cells 4 [bb false], X5, X6, X7, .cells 56 [lv 0 2 (twL S0 code code.length).length], Y9, Y10, Y11, .cells 3 [ii 1], jO S0 code i, rfObj #[115, 116] RA5_32 RB5_32 5 .ready none (fr 163 l0), .cells 97 [hI 16 (stAt S0 code i).held.length, .hmap 17, .hmap 18, ii (stAt S0 code i).next], rI (stAt S0 code i).held, knO (stAt S0 code i).keys, fsO (stAt S0 code i).keys]) ++ G) = ([twO (twL S0 code code.length), X1, X2, .cells 3 [ii stop], .cells 4 [bb false], X5, X6, X7, .cells 56 [lv 0 2 (twL S0 code code.length).length], Y9, Y10, Y11, .cells 3 [ii 1], jO S0 code i, rfObj #[115, 116] RA5_32 RB5_32 5 .ready none (fr 163 l0), .cells 97 [hI 16 (stAt S0 code i).held.length, .hmap 17, .hmap 18, ii (stAt S0 code i).next], rI (stAt S0 code i).held, knO (stAt S0 code i).keys, fsO (stAt S0 code i).keys]) := trim_app (by simp) (by simp only [a0, a5, a20, a21, a22, ents_under, hX1, hX2, hX5, hX6, hX7, hY9, hY10, hY11, c0, EVb, EVc, Int.reduceEq, Int.reduceToNat, Int.reduceLE, Int.reduceLT, Int.reduceAdd, Int.reduceMul, Int.reduceSub, Int.reduceNeg, Nat.reduceAdd, Nat.reduceSub, Nat.reduceMul, Nat.reduceLT, Nat.reduceBEq, Nat.reduceEqDiff, Nat.reduceLeDiff]) (by simp only [ents_under, hX1, hX2, hX5, hX6, hX7, hY9, hY10, hY11, c0, EVb, EVc, Int.reduceEq, Int.reduceToNat, Int.reduceLE, Int.reduceLT, Int.reduceAdd, Int.reduceMul, Int.reduceSub, Int.reduceNeg, Nat.reduceAdd, Nat.reduceSub, Nat.reduceMul, Nat.reduceLT, Nat.reduceBEq, Nat.reduceEqDiff, Nat.reduceLeDiff])
  by_cases hc : i < code.length
  · have hc' : (i : Int) < ((code.length : Nat) : Int) := by omega
    have hc0 : (0 : Int) ≤ i := by omega
    have hw : IntKind.wrap .i64 ((i : Int) + 1) = ((i + 1 : Nat) : Int) := by rw [wrap64 (by omega) (by omega)]; omega
    have hx := encCode_get hc
    have htl := twL_length S0 code i
    obtain ⟨x, hX⟩ : ∃ x, x = code[i] := ⟨_, rfl⟩
    rw [← hX] at hx
    obtain ⟨f1, f2, f3, f4⟩ := stAt_facts S0 code i
    have hm := mayM_facts (hcode x (by rw [hX]; exact List.getElem_mem hc))
    have hst : stAt S0 code (i + 1) = stepS (stAt S0 code i) i x := by rw [stAt_succ hc, hX]
    have hfa : firstAt S0 code i = (reckonM (stAt S0 code i) i x).2.1 := by unfold firstAt; rw [List.getD_eq_getElem?_getD, List.getElem?_eq_getElem hc, ← hX]; rfl
    have htw : twL S0 code (i + 1) = if 0 ≤ firstAt S0 code i ∧ firstAt S0 code i < i then twL S0 code i ++ [((i : Int), firstAt S0 code i)] else twL S0 code i := rfl
    have hat := twL_at (S0 := S0) (code := code) hc
    rw [hfa] at htw hat
    simp only [jO, hst, htw]
    simp only [jO] at ht
    obtain ⟨S, hS⟩ : ∃ S, S = stAt S0 code i := ⟨_, rfl⟩
    obtain ⟨tw, htwe⟩ : ∃ tw, tw = twL S0 code i := ⟨_, rfl⟩
    obtain ⟨tN, htN⟩ : ∃ tN, tN = twL S0 code code.length := ⟨_, rfl⟩
    obtain ⟨SN, hSN⟩ : ∃ SN, SN = stAt S0 code code.length := ⟨_, rfl⟩
    rw [← htN, ← hSN]
    rw [← hS] at f1 f2 f3 f4 ht hat ⊢
    rw [← htwe] at ht htl hat ⊢
    rw [← htN] at ht hat
    rw [← f1] at hm
    obtain ⟨⟨m1, m2⟩, ⟨m3, m4⟩, ⟨m5, m6⟩, m7⟩ := hm
    have hel := encInts_length S.held
    have ht2 : x.to.toNat < S.held.length := by omega
    have hh := reckonM_held S i x
    have hR := tReckon_ev (kf + 7) S i x.op x.to x.a x.b x.c ⟨m5, m6⟩ m7 (by omega)
    simp only [aI, ii, hh] at hR
    rw [show (reckonM S i ⟨x.op, x.to, x.a, x.b, x.c⟩) = reckonM S i x from rfl] at hR
    obtain ⟨f, hf⟩ : ∃ f, f = (reckonM S i x).2.1 := ⟨_, rfl⟩
    rw [← hf] at hR hat ⊢
    clear hst htw hfa hcode hX
    by_cases hf0 : 0 ≤ f
    · by_cases hf1 : f < i
      · rw [if_pos ⟨hf0, hf1⟩]
        obtain ⟨hl, hge⟩ := hat ⟨hf0, hf1⟩
        have t1 := lv_pos (s := 0) (sz := 2) (show 0 < tN.length by omega)
        have t2 := lo_pos (e := 62) (cells := encPairs tN) (show 0 < tN.length by omega)
        have t3 := encPairs_length tN
        have hj0 : (0 : Int) ≤ tw.length := by omega
        have hj1 : (tw.length : Int) < tN.length := by omega
        have hj2 : ¬ ((tN.length : Int) ≤ tw.length) := by omega
        have hj3 : (tw.length : Int).toNat = tw.length := by omega
        obtain ⟨hg1, hg2⟩ := encPairs_get hl
        rw [hge] at hg1 hg2
        have hwj : IntKind.wrap .i64 ((tw.length : Int) + 1) = ((tw.length + 1 : Nat) : Int) := by rw [wrap64 (by omega) (by omega)]; omega
        simp only [loopR_succ, ht]
        simp only [a0, a5, a20, a21, a22, hc', hc0, hw, hx, hR, ents_ids, ents_ren, loopR_succ, loopOf, findLoop, firstRegion, Option.some_or, Option.none_or, Option.getD_some, Option.some.injEq, Try.f73, EVb, EVc, Int.reduceEq, Int.reduceToNat, Int.reduceLE, Int.reduceLT, Int.reduceAdd, Int.reduceMul, Int.reduceSub, Int.reduceNeg, Nat.reduceAdd, Nat.reduceSub, Nat.reduceMul, Nat.reduceLT, Nat.reduceBEq, Nat.reduceEqDiff, Nat.reduceLeDiff, FACTS, TYPES]
        rw [evalCode_drawn Try.f73 7 dr73_7]; rotate_left; rfl
        simp only [a0, a5, a20, a21, a22, hc', hc0, hw, hel, hh, m3, m4, ht2, encInts_set, EVd, Nat.reducePow, Nat.reduceDiv, Nat.reduceMod, EVb, EVc, Int.reduceEq, Int.reduceToNat, Int.reduceLE, Int.reduceLT, Int.reduceAdd, Int.reduceMul, Int.reduceSub, Int.reduceNeg, Nat.reduceAdd, Nat.reduceSub, Nat.reduceMul, Nat.reduceLT, Nat.reduceBEq, Nat.reduceEqDiff, Nat.reduceLeDiff, FACTS, TYPES]
        simp only [a0, a5, a20, a21, a22, hc', hc0, hw, hf0, hf1, q3, q4, q10, q14, q15, c0, evalT_round, roundA_rf, t1, t2, t3, hj0, hj1, hj2, hj3, hg1, hg2, hwj, ite_self, rfAs, rfBd, rfOf, findRF, firstRegion, Option.some_or, Option.none_or, Option.getD_some, Option.some.injEq, findLoop, loopOf, loopR_succ, loopOf, findLoop, firstRegion, Option.some_or, Option.none_or, Option.getD_some, Option.some.injEq, Try.f73, Try.f5, EVb, EVc, Int.reduceEq, Int.reduceToNat, Int.reduceLE, Int.reduceLT, Int.reduceAdd, Int.reduceMul, Int.reduceSub, Int.reduceNeg, Nat.reduceAdd, Nat.reduceSub, Nat.reduceMul, Nat.reduceLT, Nat.reduceBEq, Nat.reduceEqDiff, Nat.reduceLeDiff, FACTS, TYPES]
        refine .inr ⟨_, _, hc, rfl, (by rfl), (by rfl), (by rfl), (by rfl), (by rfl), ?_⟩
        try simp only [stepS, hh, List.length_set, List.length_append, List.length_cons, List.length_nil, Nat.zero_add]
        exact ⟨_, by rfl⟩
      · rw [if_neg (fun h => hf1 h.2)]
        simp only [loopR_succ, ht]
        simp only [a0, a5, a20, a21, a22, hc', hc0, hw, hx, hR, ents_ids, ents_ren, loopR_succ, loopOf, findLoop, firstRegion, Option.some_or, Option.none_or, Option.getD_some, Option.some.injEq, Try.f73, EVb, EVc, Int.reduceEq, Int.reduceToNat, Int.reduceLE, Int.reduceLT, Int.reduceAdd, Int.reduceMul, Int.reduceSub, Int.reduceNeg, Nat.reduceAdd, Nat.reduceSub, Nat.reduceMul, Nat.reduceLT, Nat.reduceBEq, Nat.reduceEqDiff, Nat.reduceLeDiff, FACTS, TYPES]
        rw [evalCode_drawn Try.f73 7 dr73_7]; rotate_left; rfl
        simp only [a0, a5, a20, a21, a22, hc', hc0, hw, hel, hh, m3, m4, ht2, encInts_set, EVd, Nat.reducePow, Nat.reduceDiv, Nat.reduceMod, EVb, EVc, Int.reduceEq, Int.reduceToNat, Int.reduceLE, Int.reduceLT, Int.reduceAdd, Int.reduceMul, Int.reduceSub, Int.reduceNeg, Nat.reduceAdd, Nat.reduceSub, Nat.reduceMul, Nat.reduceLT, Nat.reduceBEq, Nat.reduceEqDiff, Nat.reduceLeDiff, FACTS, TYPES]
        simp only [a0, a5, a20, a21, a22, hc', hc0, hw, hf0, hf1, tupO_some, EVb, EVc, Int.reduceEq, Int.reduceToNat, Int.reduceLE, Int.reduceLT, Int.reduceAdd, Int.reduceMul, Int.reduceSub, Int.reduceNeg, Nat.reduceAdd, Nat.reduceSub, Nat.reduceMul, Nat.reduceLT, Nat.reduceBEq, Nat.reduceEqDiff, Nat.reduceLeDiff, FACTS, TYPES]
        refine .inr ⟨_, _, hc, rfl, (by rfl), (by rfl), (by rfl), (by rfl), (by rfl), ?_⟩
        try simp only [stepS, hh, List.length_set]
        exact ⟨_, by rfl⟩
    · rw [if_neg (fun h => hf0 h.1)]
      simp only [loopR_succ, ht]
      simp only [a0, a5, a20, a21, a22, hc', hc0, hw, hx, hR, ents_ids, ents_ren, loopR_succ, loopOf, findLoop, firstRegion, Option.some_or, Option.none_or, Option.getD_some, Option.some.injEq, Try.f73, EVb, EVc, Int.reduceEq, Int.reduceToNat, Int.reduceLE, Int.reduceLT, Int.reduceAdd, Int.reduceMul, Int.reduceSub, Int.reduceNeg, Nat.reduceAdd, Nat.reduceSub, Nat.reduceMul, Nat.reduceLT, Nat.reduceBEq, Nat.reduceEqDiff, Nat.reduceLeDiff, FACTS, TYPES]
      rw [evalCode_drawn Try.f73 7 dr73_7]; rotate_left; rfl
      simp only [a0, a5, a20, a21, a22, hc', hc0, hw, hel, hh, m3, m4, ht2, encInts_set, EVd, Nat.reducePow, Nat.reduceDiv, Nat.reduceMod, EVb, EVc, Int.reduceEq, Int.reduceToNat, Int.reduceLE, Int.reduceLT, Int.reduceAdd, Int.reduceMul, Int.reduceSub, Int.reduceNeg, Nat.reduceAdd, Nat.reduceSub, Nat.reduceMul, Nat.reduceLT, Nat.reduceBEq, Nat.reduceEqDiff, Nat.reduceLeDiff, FACTS, TYPES]
      simp only [a0, a5, a20, a21, a22, hc', hc0, hw, hf0, tupO_some, EVb, EVc, Int.reduceEq, Int.reduceToNat, Int.reduceLE, Int.reduceLT, Int.reduceAdd, Int.reduceMul, Int.reduceSub, Int.reduceNeg, Nat.reduceAdd, Nat.reduceSub, Nat.reduceMul, Nat.reduceLT, Nat.reduceBEq, Nat.reduceEqDiff, Nat.reduceLeDiff, FACTS, TYPES]
      refine .inr ⟨_, _, hc, rfl, (by rfl), (by rfl), (by rfl), (by rfl), (by rfl), ?_⟩
      try simp only [stepS, hh, List.length_set]
      exact ⟨_, by rfl⟩
  · refine .inl ?_
    obtain rfl : i = code.length := by omega
    have hc' : ¬ (((code.length : Nat) : Int) < ((code.length : Nat) : Int)) := by omega
    simp only [jO] at ht ⊢
    simp only [loopR_succ, ht]
    simp only [a0, a5, a20, a21, a22, hc', loopR_succ, loopOf, findLoop, firstRegion, Option.some_or, Option.none_or, Option.getD_some, Option.some.injEq, Try.f73, EVb, EVc, Int.reduceEq, Int.reduceToNat, Int.reduceLE, Int.reduceLT, Int.reduceAdd, Int.reduceMul, Int.reduceSub, Int.reduceNeg, Nat.reduceAdd, Nat.reduceSub, Nat.reduceMul, Nat.reduceLT, Nat.reduceBEq, Nat.reduceEqDiff, Nat.reduceLeDiff, FACTS, TYPES]
    exact ⟨_, rfl⟩

end Go.Proofs.Sw
