/- A part of the proof: what functions of the program answer; conditions stand in each theorem. -/
import Derived.Test.YtefdgfdahmaciaaVB
import Derived.Test.YtefdgfdahmaciaaVA
set_option linter.unusedVariables false
set_option linter.unusedSimpArgs false
set_option linter.unusedSectionVars false
namespace Go.Proofs.Sw
open Go.Ab
variable [Globals]
theorem loop_div14 (kf : Nat) (a b : List Nat) (nl nl2 : Bool) (cap cap2 : Option Nat) (ha : okD a) (hb : okD b) (hb0 : 0 < b.length) (hla : a.length ≤ 5000) (hlb : b.length ≤ 5000) (H0 : Heap) (hH0 : H0 = [rD (List.replicate a.length 0)]) (hkf : 16 * a.length + 100 < kf) (k : Nat) (l : Ass) (z : Option Out) (hz : loopR Try.prog tab (kf + 1) none LB149_14 149 124 [0, 1, 9, 10, 11] 1 k l H0 = z) (hk : bitsV a < k) (a0 : asc l 0 = sD a nl cap) (a1 : asc l 1 = sD b nl2 cap2) (a9 : asc l 9 = .hsl 0 0 a.length a.length 1) (a10 : asc l 10 = rv none (dgS a b 0).2.length) (a11 : asc l 11 = ii ((bitsV a : Int) - 1 - 0)) :
    ∃ l' o' H', z = some (.exit 2 (fr 124 l') H') ∧ asc l' 9 = .hsl 0 0 a.length a.length 1 ∧ asc l' 10 = rv o' (dgS a b (bitsV a)).2.length ∧ H'[0]? = some (rD (dgS a b (bitsV a)).1) ∧ RA o' (dgS a b (bitsV a)).2 H' := by
  subst hz
  have hbl := bitsV_le ha
  refine loop_nat (bitsV a) (fun k l H => loopR Try.prog tab (kf + 1) none LB149_14 149 124 [0, 1, 9, 10, 11] 1 k l H)
    (fun i l H => ∃ (o : Option (Nat × List Nat)), asc l 0 = sD a nl cap ∧ asc l 1 = sD b nl2 cap2 ∧ asc l 9 = .hsl 0 0 a.length a.length 1 ∧ asc l 10 = rv o (dgS a b i).2.length ∧ asc l 11 = ii ((bitsV a : Int) - 1 - i) ∧ ((H[0]? = some (rD (dgS a b i).1) ∧ RA o (dgS a b i).2 H ∧ (o = none → H.length = 1))))
    (fun z => ∃ l' o' H', z = some (.exit 2 (fr 124 l') H') ∧ asc l' 9 = .hsl 0 0 a.length a.length 1 ∧ asc l' 10 = rv o' (dgS a b (bitsV a)).2.length ∧ H'[0]? = some (rD (dgS a b (bitsV a)).1) ∧ RA o' (dgS a b (bitsV a)).2 H') ?_ (bitsV a) 0 k l _ (by omega) hk ⟨none, a0, a1, a9, a10, a11, ⟨by rw [hH0]; rfl, rfl, fun _ => by rw [hH0]; rfl⟩⟩
  clear hk a0 a1 a9 a10 a11
  rintro i k l H hi ⟨o, a0, a1, a9, a10, a11, hp⟩
  obtain ⟨H', ht, hle', q0, qA, ql⟩ : ∃ H', trim 1 (fr 124 (keep l [0, 1, 9, 10, 11])) H = H' ∧ 1 ≤ H'.length ∧ H'[0]? = some (rD (dgS a b i).1) ∧ RA o (dgS a b i).2 H' ∧ (o = none → H'.length = 1) := by
    obtain ⟨p0, pA, pl⟩ := hp
    have hL : 1 ≤ H.length := (List.getElem?_eq_some_iff.1 p0).1
    cases o with
    | none => exact ⟨H, trim_same (pl rfl), hL, p0, pA, pl⟩
    | some q =>
      obtain ⟨id, T⟩ := q
      obtain ⟨H', t1, t2, t3, t4⟩ := trim_hsl (m := 1) (N := 124) (i := 10) (l := keep l [0, 1, 9, 10, 11]) (by decide) (by exact a10) hL
      exact ⟨H', t1, t2, by rw [t3 0 (by omega)]; exact p0, ⟨pA.1, by rw [t4]; exact pA.2⟩, fun h => by cases h⟩
  by_cases hc : i < (bitsV a)
  · have hc' : (i : Int) < ((bitsV a : Nat) : Int) := by omega
    have hc0 : (0 : Int) ≤ i := by omega
    have hw : IntKind.wrap .i64 ((i : Int) + 1) = ((i + 1 : Nat) : Int) := by rw [wrap64 (by omega) (by omega)]; omega
    obtain ⟨j, hj⟩ : ∃ j, bitsV a = j + 1 + i := ⟨bitsV a - 1 - i, by omega⟩
    have e2 : bitsV a - 1 - i = j := by omega
    have e3 : (bitsV a : Int) - 1 - (i : Int) = (j : Int) := by omega
    have e4 : (bitsV a : Int) - 1 - ((i + 1 : Nat) : Int) = (j : Int) - 1 := by omega
    rw [e3] at a11
    rw [e4]
    have hj0 : (0 : Int) ≤ j := by omega
    have hw2 : IntKind.wrap .i64 ((j : Int) - 1) = (j : Int) - 1 := by rw [wrap64 (by omega) (by omega)]
    obtain ⟨h1, h2, h3, h4⟩ := dgS_ok (a := a) hb i
    have hS : dgS a b (i + 1) = if 0 ≤ szD (dgR a (dgS a b i).2 j) b then ((dgS a b i).1.set (j / 16) (orV ((dgS a b i).1.getD (j / 16) 0) j), trimD (minusD (dgR a (dgS a b i).2 j) b)) else ((dgS a b i).1, dgR a (dgS a b i).2 j) := by rw [← e2]; rfl
    rw [hS]
    obtain ⟨Q, hQ⟩ : ∃ Q, Q = (dgS a b i).1 := ⟨_, rfl⟩
    obtain ⟨R, hRR⟩ : ∃ R, R = (dgS a b i).2 := ⟨_, rfl⟩
    rw [← hQ] at h1 h2 q0 ⊢
    rw [← hRR] at h3 h4 qA a10 ⊢
    obtain ⟨hd1, hd2⟩ := dgR_ok (a := a) (k := j) h3
    have hbit := bit_ev kf a nl cap (by omega) j (by omega)
    simp only [run, ii] at hbit
    have hbl1 := bitV_le a j
    obtain ⟨g1, g2, g3⟩ := dbS_ok h3 (show bitV a j ≤ 2 by omega) R.length
    have hdR : dgR a R j = if 0 < (dbS R (bitV a j) R.length).2 then (dbS R (bitV a j) R.length).1 ++ [(dbS R (bitV a j) R.length).2] else (dbS R (bitV a j) R.length).1 := rfl
    have hsz := fun nl' cap' => size_any kf (dgR a R j) b nl' nl2 cap' cap2 hd1 hb (by omega) (by omega)
    simp only [run, ii] at hsz
    simp only [loopR_succ, ht]
    simp only [a0, a1, a9, a10, a11, hj0, hbit, loopR_succ, loopOf, findLoop, firstRegion, Option.some_or, Option.none_or, Option.getD_some, Option.some.injEq, Try.f149, FT, Int.reduceEq, Int.reduceToNat, Int.reduceLE, Int.reduceLT, Int.reduceAdd, Int.reduceMul, Int.reduceSub, Int.reduceNeg, Nat.reduceAdd, Nat.reduceSub, Nat.reduceMul, Nat.reduceLT, Nat.reduceBEq, Nat.reduceEqDiff, Nat.reduceLeDiff]
    rw [evalCode_loopB LB149_18 lp149_18]; rotate_left; rfl; rfl; rfl
    generalize hz : loopR _ _ _ _ _ _ _ _ _ _ _ _ = z
    obtain ⟨l2, rfl, f0, f1, f9, f10, f11, f12⟩ := loop_div18 (kf + 1) o R (bitV a j) H' _ rfl qA h3 (by omega) (by omega) _ _ _ _ _ _ z hz (by omega) (by rfl) (by rfl) (by rfl) (by rfl) (by rfl) (by rfl) (by rfl)
    clear hz
    obtain ⟨P, hP⟩ : ∃ P, P = (dbS R (bitV a j) R.length).1 := ⟨_, rfl⟩
    obtain ⟨c, hcc⟩ : ∃ c, c = (dbS R (bitV a j) R.length).2 := ⟨_, rfl⟩
    rw [← hP, ← hcc] at hdR
    rw [← hP] at g1 g2 ⊢
    rw [← hcc] at g3 f12
    have hA2 : RA o P (dbH o P H') := by
      cases o with
      | none => have e : R = [] := qA; subst e; exact List.eq_nil_of_length_eq_zero g1
      | some q => exact ⟨qA.1, List.getElem?_set_self (List.getElem?_eq_some_iff.1 qA.2).1⟩
    have h20 : (dbH o P H')[0]? = some (rD Q) := by
      cases o with
      | none => exact q0
      | some q => show (H'.set q.1 _)[0]? = _; rw [List.getElem?_set_ne (by have := qA.1; omega)]; exact q0
    have h2l : 1 ≤ (dbH o P H').length := by rw [dbH_length]; exact hle'
    obtain ⟨R1, hR1⟩ : ∃ R1, R1 = dgR a R j := ⟨_, rfl⟩
    rw [← hR1] at hd1 hd2 hdR hsz ⊢
    have hsz1 := hsz false none
    by_cases hcar : 0 < c
    · have hcar' : (0 : Int) < (c : Int) := by omega
      rw [if_pos hcar] at hdR
      obtain ⟨id, T, H3, hap, hid, h3i, h30⟩ := appR (x := c) (y := c) hA2 (by omega) h2l
      rw [h20] at h30
      rw [← hdR] at h3i
      have hn : R.length + 1 = R1.length := by rw [hdR, List.length_append, g1]; rfl
      rw [g1, hn] at hap
      have hap' : apO 102 1 4 none (rv o R.length) (dbH o P H' ++ [AObj.row false 102 [IV.int .u32 (c : Int)]]) (some ([IV.int .u32 (c : Int)], 1)) = some (rv (some (id, T)) R1.length, H3) := hap
      obtain ⟨H2, hH2⟩ : ∃ H2, H2 = dbH o P H' := ⟨_, rfl⟩
      rw [← hH2] at hap' ⊢
      have hgn : ∀ X : AObj, (H2 ++ [X])[H2.length]? = some X := fun X => by simp
      have hel : (encD (R1 ++ T)).length = R1.length + T.length := by rw [encD_length, List.length_append]
      have hro : rowOf H3 id (R1.length + T.length) = some (102, encD (R1 ++ T)) := by unfold rowOf; rw [h3i]; simp [hel]
      have hte : (encD (R1 ++ T)).take R1.length = encD R1 := by rw [encD_take, List.take_left' rfl]
      have hle3 : R1.length ≤ R1.length + T.length := by omega
      by_cases hge : 0 ≤ szD R1 b
      · rw [if_pos hge]
        have hR1p : 0 < R1.length := by
          by_cases hz0 : R1.length < b.length
          · unfold szD at hge; rw [if_pos hz0] at hge; exact absurd hge (by decide)
          · omega
        have hmr := minus_raw kf R1 b false nl2 none cap2 hd1 hb (by omega) (by omega) (by omega) hR1p
        have hml := minusD_len R1 b
        have htl := trim_len (minusD R1 b)
        obtain ⟨M, hM⟩ : ∃ M, M = minusD R1 b := ⟨_, rfl⟩
        rw [← hM] at hmr hml htl ⊢
        obtain ⟨G, hnr⟩ := norm_raw kf M (by omega) (H3 ++ [rD M]) H3.length (by simp) (by omega)
        have h3l := (List.getElem?_eq_some_iff.1 h30).1
        obtain ⟨H5, hH5⟩ : ∃ H5, H5 = H3 ++ [rD M] ++ G := ⟨_, rfl⟩
        have h50 : H5[0]? = some (rD Q) := by
          rw [hH5, List.getElem?_append_left (by simp), List.getElem?_append_left (by omega)]; exact h30
        have h5i : H5[H3.length]? = some (rD M) := by
          rw [hH5, List.getElem?_append_left (by simp)]; simp
        rw [← hH5, hml] at hnr
        simp only [bb] at hnr
        have t1 : ((j : Nat) : Int).tdiv 16 = ((j / 16 : Nat) : Int) := rfl
        have t2 : ((j : Nat) : Int).tmod 16 = ((j % 16 : Nat) : Int) := rfl
        have w1 : IntKind.wrap .i64 ((j / 16 : Nat) : Int) = ((j / 16 : Nat) : Int) := by rw [wrap64 (by omega) (by omega)]
        have hsh := fun (H : Heap) (t : TypeId) => shlU (H := H) (t := t) (n := j % 16) (by omega)
        have hor := fun (H : Heap) (t : TypeId) => orU (H := H) (t := t) (q := Q.getD (j / 16) 0) (k := j) (okD_get h2 _)
        have hx := encD_get (l := Q) (i := j / 16) (by omega)
        have heq := encD_length Q
        rw [h1] at heq
        have hroq : rowOf H5 0 a.length = some (102, encD Q) := by unfold rowOf; rw [h50]; simp [heq]
        have hliq : rowLive H5 0 = true := by unfold rowLive; rw [h50]
        have hja : (0 : Int) ≤ ((j / 16 : Nat) : Int) := by omega
        have hjb : ((j / 16 : Nat) : Int) < (a.length : Int) := by omega
        have hjc : j / 16 < a.length := by omega
        simp only [f0, f1, f9, f10, f11, f12, hcar', hap', hgn, rv_some, hro, hel, hte, hle3, hsz1, hge, hmr, keepF_some, viewD, hnr, doCall_cxKV, doCall_cxR, FT, Int.reduceEq, Int.reduceToNat, Int.reduceLE, Int.reduceLT, Int.reduceAdd, Int.reduceMul, Int.reduceSub, Int.reduceNeg, Nat.reduceAdd, Nat.reduceSub, Nat.reduceMul, Nat.reduceLT, Nat.reduceBEq, Nat.reduceEqDiff, Nat.reduceLeDiff]
        rw [evalCode_drawn Try.f149 27 dr149_27]; rotate_left; rfl
        simp only [f0, f1, f9, f11, t1, t2, w1, hsh, hor, hx, heq, hroq, hliq, hja, hjb, hjc, h50, encD_set, hw2, EVd, List.getElem?_nil, Nat.reducePow, Nat.reduceDiv, Nat.reduceMod, FT, Int.reduceEq, Int.reduceToNat, Int.reduceLE, Int.reduceLT, Int.reduceAdd, Int.reduceMul, Int.reduceSub, Int.reduceNeg, Nat.reduceAdd, Nat.reduceSub, Nat.reduceMul, Nat.reduceLT, Nat.reduceBEq, Nat.reduceEqDiff, Nat.reduceLeDiff]
        have hTn : (trimD M).length + (M.drop (trimD M).length).length = R1.length := by rw [List.length_drop]; omega
        have hTe : trimD M ++ M.drop (trimD M).length = M := by
          have h := List.take_append_drop (trimD M).length M
          rw [← trim_take M] at h
          exact h
        refine .inr ⟨_, _, hc, rfl, some (H3.length, M.drop (trimD M).length), (by exact f0), (by exact f1), (by exact f9), (by rw [rv_some, hTn]; rfl), (by rfl), ?_, ⟨by omega, ?_⟩, fun h => by cases h⟩
        · exact List.getElem?_set_self (by have := (List.getElem?_eq_some_iff.1 h50).1; omega)
        · rw [List.getElem?_set_ne (by omega), hTe]; exact h5i
      · rw [if_neg hge]
        simp only [f0, f1, f9, f10, f11, f12, hcar', hap', hgn, rv_some, hro, hel, hte, hle3, hsz1, hge, hw2, FT, Int.reduceEq, Int.reduceToNat, Int.reduceLE, Int.reduceLT, Int.reduceAdd, Int.reduceMul, Int.reduceSub, Int.reduceNeg, Nat.reduceAdd, Nat.reduceSub, Nat.reduceMul, Nat.reduceLT, Nat.reduceBEq, Nat.reduceEqDiff, Nat.reduceLeDiff]
        refine .inr ⟨_, _, hc, rfl, some (id, T), (by exact f0), (by exact f1), (by exact f9), (by first | rfl | exact f10), (by rfl), h30, ⟨hid, h3i⟩, fun h => by cases h⟩
    · have hcar' : ¬ (0 : Int) < (c : Int) := by omega
      rw [if_neg hcar] at hdR
      subst hdR
      cases o with
      | none =>
        have e : R1 = [] := hA2
        subst e
        have hsz0 : ans (evalT Try.prog (mkHints tab) (kf + 1) (.fn 109) [.c (.slice [] 0 true (some 0)), sD b nl2 cap2] []) = some (.c (.int .i64 (szD [] b))) := hsz true (some 0)
        have hm : szD [] b = -1 := by unfold szD; rw [if_pos (by simpa using hb0)]
        have hmn : ¬ (0 : Int) ≤ -1 := by omega
        rw [hm] at hsz0 ⊢
        rw [if_neg hmn]
        simp only [f0, f1, f9, f10, f11, f12, hcar', rv_none, hsz0, hmn, hw2, FT, Int.reduceEq, Int.reduceToNat, Int.reduceLE, Int.reduceLT, Int.reduceAdd, Int.reduceMul, Int.reduceSub, Int.reduceNeg, Nat.reduceAdd, Nat.reduceSub, Nat.reduceMul, Nat.reduceLT, Nat.reduceBEq, Nat.reduceEqDiff, Nat.reduceLeDiff]
        refine .inr ⟨_, _, hc, rfl, none, (by exact f0), (by exact f1), (by exact f9), (by exact f10), (by rfl), h20, rfl, fun _ => by rw [dbH_length]; exact ql rfl⟩
      | some q =>
        obtain ⟨id, T⟩ := q
        obtain ⟨hid, h3i⟩ := hA2
        obtain ⟨H3, hH3⟩ : ∃ H3, H3 = dbH (some (id, T)) R1 H' := ⟨_, rfl⟩
        have h30 := h20
        rw [← hH3] at h30 h3i ⊢
        rw [← g1] at f10
        have hel : (encD (R1 ++ T)).length = R1.length + T.length := by rw [encD_length, List.length_append]
        have hro : rowOf H3 id (R1.length + T.length) = some (102, encD (R1 ++ T)) := by unfold rowOf; rw [h3i]; simp [hel]
        have hte : (encD (R1 ++ T)).take R1.length = encD R1 := by rw [encD_take, List.take_left' rfl]
        have hle3 : R1.length ≤ R1.length + T.length := by omega
        by_cases hge : 0 ≤ szD R1 b
        · rw [if_pos hge]
          have hR1p : 0 < R1.length := by
            by_cases hz0 : R1.length < b.length
            · unfold szD at hge; rw [if_pos hz0] at hge; exact absurd hge (by decide)
            · omega
          have hmr := minus_raw kf R1 b false nl2 none cap2 hd1 hb (by omega) (by omega) (by omega) hR1p
          have hml := minusD_len R1 b
          have htl := trim_len (minusD R1 b)
          obtain ⟨M, hM⟩ : ∃ M, M = minusD R1 b := ⟨_, rfl⟩
          rw [← hM] at hmr hml htl ⊢
          obtain ⟨G, hnr⟩ := norm_raw kf M (by omega) (H3 ++ [rD M]) H3.length (by simp) (by omega)
          have h3l := (List.getElem?_eq_some_iff.1 h30).1
          obtain ⟨H5, hH5⟩ : ∃ H5, H5 = H3 ++ [rD M] ++ G := ⟨_, rfl⟩
          have h50 : H5[0]? = some (rD Q) := by
            rw [hH5, List.getElem?_append_left (by simp), List.getElem?_append_left (by omega)]; exact h30
          have h5i : H5[H3.length]? = some (rD M) := by
            rw [hH5, List.getElem?_append_left (by simp)]; simp
          rw [← hH5, hml] at hnr
          simp only [bb] at hnr
          have t1 : ((j : Nat) : Int).tdiv 16 = ((j / 16 : Nat) : Int) := rfl
          have t2 : ((j : Nat) : Int).tmod 16 = ((j % 16 : Nat) : Int) := rfl
          have w1 : IntKind.wrap .i64 ((j / 16 : Nat) : Int) = ((j / 16 : Nat) : Int) := by rw [wrap64 (by omega) (by omega)]
          have hsh := fun (H : Heap) (t : TypeId) => shlU (H := H) (t := t) (n := j % 16) (by omega)
          have hor := fun (H : Heap) (t : TypeId) => orU (H := H) (t := t) (q := Q.getD (j / 16) 0) (k := j) (okD_get h2 _)
          have hx := encD_get (l := Q) (i := j / 16) (by omega)
          have heq := encD_length Q
          rw [h1] at heq
          have hroq : rowOf H5 0 a.length = some (102, encD Q) := by unfold rowOf; rw [h50]; simp [heq]
          have hliq : rowLive H5 0 = true := by unfold rowLive; rw [h50]
          have hja : (0 : Int) ≤ ((j / 16 : Nat) : Int) := by omega
          have hjb : ((j / 16 : Nat) : Int) < (a.length : Int) := by omega
          have hjc : j / 16 < a.length := by omega
          simp only [f0, f1, f9, f10, f11, f12, hcar', rv_some, hro, hel, hte, hle3, hsz1, hge, hmr, keepF_some, viewD, hnr, doCall_cxKV, doCall_cxR, FT, Int.reduceEq, Int.reduceToNat, Int.reduceLE, Int.reduceLT, Int.reduceAdd, Int.reduceMul, Int.reduceSub, Int.reduceNeg, Nat.reduceAdd, Nat.reduceSub, Nat.reduceMul, Nat.reduceLT, Nat.reduceBEq, Nat.reduceEqDiff, Nat.reduceLeDiff]
          rw [evalCode_drawn Try.f149 27 dr149_27]; rotate_left; rfl
          simp only [f0, f1, f9, f11, t1, t2, w1, hsh, hor, hx, heq, hroq, hliq, hja, hjb, hjc, h50, encD_set, hw2, EVd, List.getElem?_nil, Nat.reducePow, Nat.reduceDiv, Nat.reduceMod, FT, Int.reduceEq, Int.reduceToNat, Int.reduceLE, Int.reduceLT, Int.reduceAdd, Int.reduceMul, Int.reduceSub, Int.reduceNeg, Nat.reduceAdd, Nat.reduceSub, Nat.reduceMul, Nat.reduceLT, Nat.reduceBEq, Nat.reduceEqDiff, Nat.reduceLeDiff]
          have hTn : (trimD M).length + (M.drop (trimD M).length).length = R1.length := by rw [List.length_drop]; omega
          have hTe : trimD M ++ M.drop (trimD M).length = M := by
            have h := List.take_append_drop (trimD M).length M
            rw [← trim_take M] at h
            exact h
          refine .inr ⟨_, _, hc, rfl, some (H3.length, M.drop (trimD M).length), (by exact f0), (by exact f1), (by exact f9), (by rw [rv_some, hTn]; rfl), (by rfl), ?_, ⟨by omega, ?_⟩, fun h => by cases h⟩
          · exact List.getElem?_set_self (by have := (List.getElem?_eq_some_iff.1 h50).1; omega)
          · rw [List.getElem?_set_ne (by omega), hTe]; exact h5i
        · rw [if_neg hge]
          simp only [f0, f1, f9, f10, f11, f12, hcar', rv_some, hro, hel, hte, hle3, hsz1, hge, hw2, FT, Int.reduceEq, Int.reduceToNat, Int.reduceLE, Int.reduceLT, Int.reduceAdd, Int.reduceMul, Int.reduceSub, Int.reduceNeg, Nat.reduceAdd, Nat.reduceSub, Nat.reduceMul, Nat.reduceLT, Nat.reduceBEq, Nat.reduceEqDiff, Nat.reduceLeDiff]
          refine .inr ⟨_, _, hc, rfl, some (id, T), (by exact f0), (by exact f1), (by exact f9), (by first | rfl | exact f10), (by rfl), h30, ⟨hid, h3i⟩, fun h => by cases h⟩
  · refine .inl ?_
    obtain rfl : i = (bitsV a) := by omega
    have hc' : ¬ ((((bitsV a) : Nat) : Int) < (((bitsV a) : Nat) : Int)) := by omega
    have hlt : ¬ ((0 : Int) ≤ (bitsV a : Int) - 1 - bitsV a) := by omega
    simp only [loopR_succ, ht]
    simp only [a0, a1, a9, a10, a11, hlt, loopR_succ, loopOf, findLoop, firstRegion, Option.some_or, Option.none_or, Option.getD_some, Option.some.injEq, Try.f149, FT, Int.reduceEq, Int.reduceToNat, Int.reduceLE, Int.reduceLT, Int.reduceAdd, Int.reduceMul, Int.reduceSub, Int.reduceNeg, Nat.reduceAdd, Nat.reduceSub, Nat.reduceMul, Nat.reduceLT, Nat.reduceBEq, Nat.reduceEqDiff, Nat.reduceLeDiff]
    exact ⟨_, _, _, rfl, (by rfl), (by rfl), q0, qA⟩
end Go.Proofs.Sw
namespace Go.Proofs.Sw
open Go.Ab
variable [Globals]
def dvQ (a b : List Nat) : List Nat := if b.length = 1 then trimD (dvS a (b.getD 0 0) a.length).1 else trimD (dgS a b (bitsV a)).1
def dvR (a b : List Nat) : List Nat := if b.length = 1 then trimD [(dvS a (b.getD 0 0) a.length).2] else (dgS a b (bitsV a)).2
theorem divide_ev1 (k : Nat) (a : List Nat) (b : Nat) (nl nl2 : Bool) (cap cap2 : Option Nat) (ha : okD a) (hb0 : 0 < b) (hb1 : b < 65536) (hla : a.length ≤ 5000) (hk : 16 * a.length + 200 < k) :
    ∃ nl3 cap3 nl4 cap4, run (k+2) 149 [sD a nl cap, sD [b] nl2 cap2] = some (.tup [sD (trimD (dvS a b a.length).1) nl3 cap3, sD (trimD [(dvS a b a.length).2]) nl4 cap4]) := by
  have q1 : (0 : Int) ≤ a.length := by omega
  have q2 : a.length * 4 ≤ roomBytes := Nat.le_trans (show a.length * 4 ≤ 1000000 by omega) (by decide)
  have q3 : a.length ≤ roomBytes := Nat.le_trans (show a.length ≤ 1000000 by omega) (by decide)
  have hw : IntKind.wrap .i64 ((a.length : Int) - 1) = (a.length : Int) - 1 := by rw [wrap64 (by omega) (by omega)]
  have hb' : encD [b] = [.int .u32 (b : Int)] := rfl
  rw [run, ev149, ans_trim]
  simp only [Try.f149, sD, List.length_cons, List.length_nil, q1, q2, q3, hw, encD_rep, FT, Int.reduceEq, Int.reduceToNat, Int.reduceLE, Int.reduceLT, Int.reduceAdd, Int.reduceMul, Int.reduceSub, Int.reduceNeg, Nat.reduceAdd, Nat.reduceSub, Nat.reduceMul, Nat.reduceLT, Nat.reduceBEq, Nat.reduceEqDiff, Nat.reduceLeDiff]
  rw [evalCode_loopB LB149_5 lp149_5]; rotate_left; rfl; rfl; rfl
  generalize hz : loopR _ _ _ _ _ _ _ _ _ _ _ _ = z
  obtain ⟨l2, rfl, f0, f1, f6, f7, f8⟩ := loop_div5 (k + 1) a b nl nl2 cap cap2 ha hb0 hb1 (by omega) _ _ z hz (by omega) (by rfl) (by rfl) (by rfl) (by rfl) (by rw [show (a.length : Int) - 1 - 0 = (a.length : Int) - 1 by omega]; rfl)
  clear hz
  obtain ⟨h1, h2, h3⟩ := dvS_ok ha hb0 a.length
  obtain ⟨Q, hQ⟩ : ∃ Q, Q = (dvS a b a.length).1 := ⟨_, rfl⟩
  obtain ⟨r, hr⟩ : ∃ r, r = (dvS a b a.length).2 := ⟨_, rfl⟩
  rw [← hQ] at h1 h2 ⊢
  rw [← hr] at h3 f7 ⊢
  have hel := encD_length Q
  rw [h1] at hel
  have htk : (encD Q).take a.length = encD Q := List.take_of_length_le (by rw [hel]; exact Nat.le_refl _)
  have hw3 := wr32 (n := r) (by omega)
  have hor : okD [r] := fun d hd => by rw [List.mem_singleton.1 hd]; omega
  rw [dig_of h2, dig_of hor]
  have hn1 := norm_num k false Q false none h2 (by omega) (by omega)
  have hn2 := norm_num k false [r] false none hor (by simp) (by simp only [List.length_cons, List.length_nil]; omega)
  have her : encD [r] = [.int .u32 (r : Int)] := rfl
  obtain ⟨H2, hds, hl2, hold⟩ := norm_call (k := k) (f := 149) (r := 10) (i := 1) (id := 0) (neg := false) (d := Q) (H := [rD Q]) (by rfl) h2 (by omega) (by omega)
  have hgn : ∀ X : AObj, (H2 ++ [X])[H2.length]? = some X := fun X => by simp
  obtain ⟨H3, hds2, hl3, hold3⟩ := norm_call (k := k) (f := 149) (r := 10) (i := 6) (id := H2.length) (neg := false) (d := [r]) (H := H2 ++ [rD [r]]) (by simp) hor (by simp) (by simp only [List.length_cons, List.length_nil]; omega)
  have hs1 : sgn false (vd Q) = (vd Q : Nat) := rfl
  have hs2 : sgn false (vd [r]) = (vd [r] : Nat) := rfl
  rw [sD, h1, hs1] at hn1
  rw [h1, hs1] at hds
  rw [hs2] at hn2 hds2
  simp only [rD, her, List.length_cons, List.length_nil, bb] at hds2
  simp only [run, bb, sD, her, List.length_cons, List.length_nil] at hn1 hn2
  simp only [bb] at hds
  refine ⟨false, none, false, none, ?_⟩
  simp only [f0, f1, f6, f7, f8, hel, htk, hw3, hn1, hn2, hds, hds2, hgn, Nat.le_refl, strict_slice, strict_c, strict_agg, strict0_c, strict_bool, FT, Int.reduceEq, Int.reduceToNat, Int.reduceLE, Int.reduceLT, Int.reduceAdd, Int.reduceMul, Int.reduceSub, Int.reduceNeg, Nat.reduceAdd, Nat.reduceSub, Nat.reduceMul, Nat.reduceLT, Nat.reduceBEq, Nat.reduceEqDiff, Nat.reduceLeDiff]
  simp only [Int.natAbs_natCast]
theorem divide_ev2 (k : Nat) (a b : List Nat) (nl nl2 : Bool) (cap cap2 : Option Nat) (ha : okD a) (hb : okD b) (hb0 : 0 < b.length) (hb1 : b.length ≠ 1) (hla : a.length ≤ 5000) (hlb : b.length ≤ 5000) (hk : 16 * a.length + 200 < k) :
    ∃ nl3 cap3 nl4 cap4, run (k+2) 149 [sD a nl cap, sD b nl2 cap2] = some (.tup [sD (trimD (dgS a b (bitsV a)).1) nl3 cap3, sD (dgS a b (bitsV a)).2 nl4 cap4]) := by
  have q1 : (0 : Int) ≤ a.length := by omega
  have q2 : a.length * 4 ≤ roomBytes := Nat.le_trans (show a.length * 4 ≤ 1000000 by omega) (by decide)
  have q3 : a.length ≤ roomBytes := Nat.le_trans (show a.length ≤ 1000000 by omega) (by decide)
  have hbl := bitsV_le ha
  have hb1' : ¬ (b.length : Int) = 1 := by omega
  have hw : IntKind.wrap .i64 ((bitsV a : Int) - 1) = (bitsV a : Int) - 1 := by rw [wrap64 (by omega) (by omega)]
  have hbi := bits_ev k a nl cap ha (by omega) (by omega)
  simp only [run, ii] at hbi
  rw [run, ev149, ans_trim]
  simp only [Try.f149, hb1', q1, q2, q3, hw, hbi, encD_rep, FT, Int.reduceEq, Int.reduceToNat, Int.reduceLE, Int.reduceLT, Int.reduceAdd, Int.reduceMul, Int.reduceSub, Int.reduceNeg, Nat.reduceAdd, Nat.reduceSub, Nat.reduceMul, Nat.reduceLT, Nat.reduceBEq, Nat.reduceEqDiff, Nat.reduceLeDiff]
  rw [evalCode_loopB LB149_14 lp149_14]; rotate_left; rfl; rfl; rfl
  generalize hz : loopR _ _ _ _ _ _ _ _ _ _ _ _ = z
  obtain ⟨l2, o, H', rfl, f9, f10, h0, hA⟩ := loop_div14 k a b nl nl2 cap cap2 ha hb hb0 hla hlb _ rfl (by omega) _ _ z hz (by omega) (by rfl) (by rfl) (by rfl) (by rfl) (by rw [show (bitsV a : Int) - 1 - 0 = (bitsV a : Int) - 1 by omega]; rfl)
  clear hz
  obtain ⟨h1, h2, h3, h4⟩ := dgS_ok (a := a) hb (bitsV a)
  obtain ⟨Q, hQ⟩ : ∃ Q, Q = (dgS a b (bitsV a)).1 := ⟨_, rfl⟩
  obtain ⟨R, hR⟩ : ∃ R, R = (dgS a b (bitsV a)).2 := ⟨_, rfl⟩
  rw [← hQ] at h1 h2 h0 ⊢
  rw [← hR] at h3 h4 hA f10 ⊢
  have hel := encD_length Q
  rw [h1] at hel
  have htk : (encD Q).take a.length = encD Q := List.take_of_length_le (by rw [hel]; exact Nat.le_refl _)
  rw [dig_of h2]
  have hn1 := norm_num k false Q false none h2 (by omega) (by omega)
  obtain ⟨H2, hds, hl2, hold⟩ := norm_call (k := k) (f := 149) (r := 28) (i := 1) (id := 0) (neg := false) (d := Q) (H := H') h0 h2 (by omega) (by omega)
  have hs1 : sgn false (vd Q) = (vd Q : Nat) := rfl
  rw [sD, h1, hs1] at hn1
  rw [h1, hs1] at hds
  simp only [run, bb, sD] at hn1
  simp only [bb] at hds
  have hroq : rowOf H' 0 a.length = some (102, encD Q) := by unfold rowOf; rw [h0]; simp [hel]
  cases o with
  | none =>
    have e : R = [] := hA
    subst e
    refine ⟨false, none, true, some 0, ?_⟩
    simp only [f9, f10, rv_none, hel, htk, h0, hroq, hn1, hds, Nat.le_refl, strict_slice, strict_c, strict_agg, strict0_c, strict_bool, FT, Int.reduceEq, Int.reduceToNat, Int.reduceLE, Int.reduceLT, Int.reduceAdd, Int.reduceMul, Int.reduceSub, Int.reduceNeg, Nat.reduceAdd, Nat.reduceSub, Nat.reduceMul, Nat.reduceLT, Nat.reduceBEq, Nat.reduceEqDiff, Nat.reduceLeDiff]
    simp only [Int.natAbs_natCast]
    rfl
  | some q =>
    obtain ⟨id, T⟩ := q
    obtain ⟨hid, h3i⟩ := hA
    have h2i : H2[id]? = some (rD (R ++ T)) := by rw [hold id (by omega)]; exact h3i
    have hel3 : (encD (R ++ T)).length = R.length + T.length := by rw [encD_length, List.length_append]
    have hro3 : rowOf H2 id (R.length + T.length) = some (102, encD (R ++ T)) := by unfold rowOf; rw [h2i]; simp [hel3]
    have hte3 : (encD (R ++ T)).take R.length = encD R := by rw [encD_take, List.take_left' rfl]
    have hle3 : R.length ≤ R.length + T.length := by omega
    refine ⟨false, none, false, none, ?_⟩
    simp only [f9, f10, rv_some, hel, htk, h0, h2i, hroq, hn1, hds, hel3, hro3, hte3, hle3, Nat.le_refl, strict_slice, strict_c, strict_agg, strict0_c, strict_bool, FT, Int.reduceEq, Int.reduceToNat, Int.reduceLE, Int.reduceLT, Int.reduceAdd, Int.reduceMul, Int.reduceSub, Int.reduceNeg, Nat.reduceAdd, Nat.reduceSub, Nat.reduceMul, Nat.reduceLT, Nat.reduceBEq, Nat.reduceEqDiff, Nat.reduceLeDiff]
    simp only [Int.natAbs_natCast]
theorem divide_ev (k : Nat) (a b : List Nat) (nl nl2 : Bool) (cap cap2 : Option Nat) (ha : okD a) (hb : okD b) (hb0 : 0 < b.length) (hbz : b.length = 1 → 0 < b.getD 0 0) (hla : a.length ≤ 5000) (hlb : b.length ≤ 5000) (hk : 16 * a.length + 200 < k) :
    ∃ nl3 cap3 nl4 cap4, run (k+2) 149 [sD a nl cap, sD b nl2 cap2] = some (.tup [sD (dvQ a b) nl3 cap3, sD (dvR a b) nl4 cap4]) := by
  unfold dvQ dvR
  by_cases h1 : b.length = 1
  · rw [if_pos h1, if_pos h1]
    obtain ⟨x, rfl⟩ : ∃ x, b = [x] := by
      cases b with
      | nil => cases hb0
      | cons x t =>
        cases t with
        | nil => exact ⟨x, rfl⟩
        | cons y t => simp at h1
    exact divide_ev1 k a x nl nl2 cap cap2 ha (hbz rfl) (hb x (by simp)) hla hk
  · rw [if_neg h1, if_neg h1]
    exact divide_ev2 k a b nl nl2 cap cap2 ha hb hb0 h1 hla hlb hk
theorem dvQ_ok {a b : List Nat} (ha : okD a) (hb : okD b) (hb0 : 0 < b.length) (hbz : b.length = 1 → 0 < b.getD 0 0) : okD (dvQ a b) ∧ (dvQ a b).length ≤ a.length := by
  unfold dvQ
  split
  · rename_i h
    obtain ⟨h1, h2, h3⟩ := dvS_ok ha (hbz h) a.length
    refine ⟨by rw [trim_take]; exact fun d hd => h2 d (List.mem_of_mem_take hd), ?_⟩
    have := trim_len (dvS a (b.getD 0 0) a.length).1
    omega
  · obtain ⟨h1, h2, h3, h4⟩ := dgS_ok (a := a) hb (bitsV a)
    refine ⟨by rw [trim_take]; exact fun d hd => h2 d (List.mem_of_mem_take hd), ?_⟩
    have := trim_len (dgS a b (bitsV a)).1
    omega
theorem dvR_ok {a b : List Nat} (ha : okD a) (hb : okD b) (hb0 : 0 < b.length) (hbz : b.length = 1 → 0 < b.getD 0 0) : okD (dvR a b) ∧ (dvR a b).length ≤ 16 * a.length + 1 := by
  unfold dvR
  split
  · rename_i h
    obtain ⟨h1, h2, h3⟩ := dvS_ok ha (hbz h) a.length
    have hb1 := okD_get hb 0
    have hor : okD [(dvS a (b.getD 0 0) a.length).2] := fun d hd => by rw [List.mem_singleton.1 hd]; omega
    refine ⟨by rw [trim_take]; exact fun d hd => hor d (List.mem_of_mem_take hd), ?_⟩
    have := trim_len [(dvS a (b.getD 0 0) a.length).2]
    simp only [List.length_cons, List.length_nil] at this
    omega
  · obtain ⟨h1, h2, h3, h4⟩ := dgS_ok (a := a) hb (bitsV a)
    have := bitsV_le ha
    exact ⟨h3, by omega⟩
end Go.Proofs.Sw
namespace Go.Proofs.Sw
open Go.Ab
variable [Globals]
def dmQ (x y : Int) : Int := sgn (!(decide (x < 0) == decide (y < 0))) (vd (dvQ (nD x) (nD y)))
def dmR (x y : Int) : Int := sgn (decide (x < 0)) (vd (dvR (nD x) (nD y)))
theorem nD_pos {y : Int} (h : y ≠ 0) : 0 < (nD y).length := List.length_pos_iff.2 (dig_pos (by omega))
theorem nD_one {y : Int} (h : (nD y).length = 1) : 0 < (nD y).getD 0 0 := by
  have hc := (can_dig y.natAbs).tr
  obtain ⟨x, hx⟩ : ∃ x, nD y = [x] := by
    cases hl : nD y with
    | nil => rw [hl] at h; cases h
    | cons x t =>
      cases t with
      | nil => exact ⟨x, rfl⟩
      | cons y t => rw [hl] at h; simp at h
  rw [show dig y.natAbs = [x] from hx] at hc
  rw [hx]
  by_cases h0 : x = 0
  · subst h0; cases hc
  · simp; omega
theorem len_of {d : List Nat} (h : okD d) : (dig (vd d)).length ≤ d.length := by
  rw [← dig_of h]; exact trim_len d
theorem nD_sgn (b : Bool) (n : Nat) : nD (sgn b n) = dig n := by rw [nD, sgn_abs]
theorem DivMod_ev (k : Nat) (x y : RI) (hy : y.v ≠ 0) (hx : (nD x.v).length ≤ 2000) (hyl : (nD y.v).length ≤ 2000) (hk : 50000 ≤ k) :
    ∃ z w : RI, (z.v = if dmR x.v y.v < 0 then dmQ x.v y.v - sgI y.v else dmQ x.v y.v) ∧ (w.v = if dmR x.v y.v < 0 then dmR x.v y.v + y.v.natAbs else dmR x.v y.v) ∧ run (k+4) 140 [aN x, aN y] = some (.tup [aN z, aN w]) := by
  have hxo : okD (nD x.v) := (can_dig x.v.natAbs).ok
  have hyo : okD (nD y.v) := (can_dig y.v.natAbs).ok
  obtain ⟨a1, a2⟩ := dvQ_ok hxo hyo (nD_pos hy) nD_one
  obtain ⟨b1, b2⟩ := dvR_ok hxo hyo (nD_pos hy) nD_one
  obtain ⟨nl3, cap3, nl4, cap4, hd⟩ := divide_ev (k+1) (nD x.v) (nD y.v) x.nl y.nl x.cap y.cap hxo hyo (nD_pos hy) nD_one (by omega) (by omega) (by omega)
  have hn1 := norm_num (k+2) (!(decide (x.v < 0) == decide (y.v < 0))) (dvQ (nD x.v) (nD y.v)) nl3 cap3 a1 (by omega) (by omega)
  have hn2 := norm_num (k+2) (decide (x.v < 0)) (dvR (nD x.v) (nD y.v)) nl4 cap4 b1 (by omega) (by omega)
  have e1 : dmQ x.v y.v = sgn (!(decide (x.v < 0) == decide (y.v < 0))) (vd (dvQ (nD x.v) (nD y.v))) := rfl
  have e2 : dmR x.v y.v = sgn (decide (x.v < 0)) (vd (dvR (nD x.v) (nD y.v))) := rfl
  have l1 : (nD (dmQ x.v y.v)).length ≤ 2000 := by rw [e1, nD_sgn]; have := len_of a1; omega
  have l2 : (nD (dmR x.v y.v)).length ≤ 32001 := by rw [e2, nD_sgn]; have := len_of b1; omega
  rw [← e1] at hn1
  rw [← e2] at hn2
  obtain ⟨ya, hya, hab⟩ := Abs_ev (k+1) y (by omega) (by omega)
  have hnya : nD ya.v = nD y.v := by rw [nD, nD, hya]; simp
  obtain ⟨w, hw, had⟩ := Add_ev (k+1) ⟨dmR x.v y.v, nl4, cap4⟩ ya (by simp only; omega) (by rw [hnya]; omega) (by rw [hnya]; simp only; omega)
  have hsg := Sign_ev (k+2) y
  have hs3 := sg_cases y.v
  obtain ⟨s, hs, hof⟩ := Of_ev (k+1) (sgI y.v) (by omega) (by omega) (by omega)
  have hls : (nD s.v).length ≤ 10 := Nat.le_trans (dig_len (k := 4) (by rw [hs]; omega)) (by omega)
  obtain ⟨z, hz, hsu⟩ := Sub_ev k ⟨dmQ x.v y.v, nl3, cap3⟩ s (by simp only; omega) (by omega) (by simp only; omega)
  have hwr : IntKind.wrap .i64 (sgI y.v) = sgI y.v := by rw [wrap64 (by omega) (by omega)]
  simp only [run, aN, bb, ii] at hd hn1 hn2 hab had hsg hof hsu
  by_cases hneg : dmR x.v y.v < 0
  · rw [if_pos hneg, if_pos hneg]
    refine ⟨z, w, by rw [hz, hs], by rw [hw, hya], ?_⟩
    simp only [hneg, decide_true] at had
    rw [run, ev140, ans_trim]
    simp only [Try.f140, aN, bb, hd, FT, Int.reduceEq, Int.reduceToNat, Int.reduceLE, Int.reduceLT, Int.reduceAdd, Int.reduceMul, Int.reduceSub, Int.reduceNeg, Nat.reduceAdd, Nat.reduceSub, Nat.reduceMul, Nat.reduceLT, Nat.reduceBEq, Nat.reduceEqDiff, Nat.reduceLeDiff]
    rw [evalCode_drawn Try.f140 2 dr140_2]; rotate_left; rfl
    simp only [hn1, hn2, hneg, EVd, List.getElem?_nil, Nat.reducePow, Nat.reduceDiv, Nat.reduceMod, FT, Int.reduceEq, Int.reduceToNat, Int.reduceLE, Int.reduceLT, Int.reduceAdd, Int.reduceMul, Int.reduceSub, Int.reduceNeg, Nat.reduceAdd, Nat.reduceSub, Nat.reduceMul, Nat.reduceLT, Nat.reduceBEq, Nat.reduceEqDiff, Nat.reduceLeDiff]
    rw [evalCode_drawn Try.f140 4 dr140_4]; rotate_left; rfl
    simp only [had, hab, hneg, decide_true, EVd, List.getElem?_nil, Nat.reducePow, Nat.reduceDiv, Nat.reduceMod, FT, Int.reduceEq, Int.reduceToNat, Int.reduceLE, Int.reduceLT, Int.reduceAdd, Int.reduceMul, Int.reduceSub, Int.reduceNeg, Nat.reduceAdd, Nat.reduceSub, Nat.reduceMul, Nat.reduceLT, Nat.reduceBEq, Nat.reduceEqDiff, Nat.reduceLeDiff]
    rw [evalCode_drawn Try.f140 5 dr140_5]; rotate_left; rfl
    simp only [hsg, hof, hsu, hwr, EVd, List.getElem?_nil, Nat.reducePow, Nat.reduceDiv, Nat.reduceMod, FT, Int.reduceEq, Int.reduceToNat, Int.reduceLE, Int.reduceLT, Int.reduceAdd, Int.reduceMul, Int.reduceSub, Int.reduceNeg, Nat.reduceAdd, Nat.reduceSub, Nat.reduceMul, Nat.reduceLT, Nat.reduceBEq, Nat.reduceEqDiff, Nat.reduceLeDiff]
    rw [evalCode_drawn Try.f140 6 dr140_6]; rotate_left; rfl
    simp only [EVd, List.getElem?_nil, Nat.reducePow, Nat.reduceDiv, Nat.reduceMod, FT, Int.reduceEq, Int.reduceToNat, Int.reduceLE, Int.reduceLT, Int.reduceAdd, Int.reduceMul, Int.reduceSub, Int.reduceNeg, Nat.reduceAdd, Nat.reduceSub, Nat.reduceMul, Nat.reduceLT, Nat.reduceBEq, Nat.reduceEqDiff, Nat.reduceLeDiff]
    done
  · rw [if_neg hneg, if_neg hneg]
    refine ⟨⟨dmQ x.v y.v, nl3, cap3⟩, ⟨dmR x.v y.v, nl4, cap4⟩, rfl, rfl, ?_⟩
    rw [run, ev140, ans_trim]
    simp only [Try.f140, aN, bb, hd, FT, Int.reduceEq, Int.reduceToNat, Int.reduceLE, Int.reduceLT, Int.reduceAdd, Int.reduceMul, Int.reduceSub, Int.reduceNeg, Nat.reduceAdd, Nat.reduceSub, Nat.reduceMul, Nat.reduceLT, Nat.reduceBEq, Nat.reduceEqDiff, Nat.reduceLeDiff]
    rw [evalCode_drawn Try.f140 2 dr140_2]; rotate_left; rfl
    simp only [hn1, hn2, hneg, EVd, List.getElem?_nil, Nat.reducePow, Nat.reduceDiv, Nat.reduceMod, FT, Int.reduceEq, Int.reduceToNat, Int.reduceLE, Int.reduceLT, Int.reduceAdd, Int.reduceMul, Int.reduceSub, Int.reduceNeg, Nat.reduceAdd, Nat.reduceSub, Nat.reduceMul, Nat.reduceLT, Nat.reduceBEq, Nat.reduceEqDiff, Nat.reduceLeDiff]
    rw [evalCode_drawn Try.f140 6 dr140_6]; rotate_left; rfl
    simp only [hn1, hn2, EVd, List.getElem?_nil, Nat.reducePow, Nat.reduceDiv, Nat.reduceMod, FT, Int.reduceEq, Int.reduceToNat, Int.reduceLE, Int.reduceLT, Int.reduceAdd, Int.reduceMul, Int.reduceSub, Int.reduceNeg, Nat.reduceAdd, Nat.reduceSub, Nat.reduceMul, Nat.reduceLT, Nat.reduceBEq, Nat.reduceEqDiff, Nat.reduceLeDiff]
    done
end Go.Proofs.Sw
namespace Go.Proofs.Sw
open Go.Ab
variable [Globals]
def overV (x y : Int) : Option Int :=
  if (if dmR x y < 0 then dmR x y + y.natAbs else dmR x y) = 0 then some (if dmR x y < 0 then dmQ x y - sgI y else dmQ x y) else none
theorem Over_ev (k : Nat) (x y : RI) (hy : y.v ≠ 0) (hx : (nD x.v).length ≤ 2000) (hyl : (nD y.v).length ≤ 2000) (hk : 50000 ≤ k) :
    ∃ z : RI, z.v = (overV x.v y.v).getD 0 ∧ run (k+5) 127 [aN x, aN y] = some (.tup [aN z, bb (overV x.v y.v).isSome]) := by
  obtain ⟨z, w, hz, hw, hd⟩ := DivMod_ev k x y hy hx hyl hk
  unfold overV
  rw [← hz, ← hw]
  simp only [run, aN, bb] at hd
  by_cases h0 : w.v = 0
  · rw [if_pos h0]
    refine ⟨z, rfl, ?_⟩
    have hl : (dig w.v.natAbs).length = 0 := by rw [h0]; rfl
    rw [run, ev127, ans_trim]
    simp only [Try.f127, aN, bb, hd, hl, FT, Int.reduceEq, Int.reduceToNat, Int.reduceLE, Int.reduceLT, Int.reduceAdd, Int.reduceMul, Int.reduceSub, Int.reduceNeg, Nat.reduceAdd, Nat.reduceSub, Nat.reduceMul, Nat.reduceLT, Nat.reduceBEq, Nat.reduceEqDiff, Nat.reduceLeDiff]
    try rfl
  · rw [if_neg h0]
    refine ⟨⟨0, true, some 0⟩, rfl, ?_⟩
    have hl : 0 < (dig w.v.natAbs).length := nD_pos h0
    have hl' : (0 : Int) < ((dig w.v.natAbs).length : Nat) := by omega
    rw [run, ev127, ans_trim]
    simp only [Try.f127, aN, bb, hd, hl', FT, Int.reduceEq, Int.reduceToNat, Int.reduceLE, Int.reduceLT, Int.reduceAdd, Int.reduceMul, Int.reduceSub, Int.reduceNeg, Nat.reduceAdd, Nat.reduceSub, Nat.reduceMul, Nat.reduceLT, Nat.reduceBEq, Nat.reduceEqDiff, Nat.reduceLeDiff]
    try rfl
end Go.Proofs.Sw
namespace Go.Proofs.Sw
open Go.Ab
variable [Globals]
def constV (op c : Int) : Int := if op = 5 ∨ op = 6 then c else (vd (pwD c.toNat) : Nat)
theorem fConstant_ev (k : Nat) (op to a b c : Int) (h56 : (op = 5 ∨ op = 6) → -9223372036854775808 ≤ c ∧ c ≤ 9223372036854775807) (h78 : ¬ (op = 5 ∨ op = 6) → 0 ≤ c ∧ c ≤ 1000) (hk : 2000 ≤ k) :
    ∃ z : RI, z.v = constV op c ∧ run (k+3) 106 [aI op to a b c] = some (aN z) := by
  unfold constV
  by_cases h : op = 5 ∨ op = 6
  · obtain ⟨h1, h2⟩ := h56 h
    obtain ⟨z, hz, hr⟩ := Of_ev k c h1 h2 (by omega)
    rw [if_pos h]
    refine ⟨z, hz, ?_⟩
    simp only [run, ii, aN, bb] at hr
    by_cases h5 : op = 5
    · rw [run, ev106, ans_trim]
      simp only [Try.f106, aI, ii, aN, bb, h5, hr, FT, Int.reduceEq, Int.reduceToNat, Int.reduceLE, Int.reduceLT, Int.reduceAdd, Int.reduceMul, Int.reduceSub, Int.reduceNeg, Nat.reduceAdd, Nat.reduceSub, Nat.reduceMul, Nat.reduceLT, Nat.reduceBEq, Nat.reduceEqDiff, Nat.reduceLeDiff]
    · have h6 : op = 6 := by omega
      rw [run, ev106, ans_trim]
      simp only [Try.f106, aI, ii, aN, bb, h6, hr, FT, Int.reduceEq, Int.reduceToNat, Int.reduceLE, Int.reduceLT, Int.reduceAdd, Int.reduceMul, Int.reduceSub, Int.reduceNeg, Nat.reduceAdd, Nat.reduceSub, Nat.reduceMul, Nat.reduceLT, Nat.reduceBEq, Nat.reduceEqDiff, Nat.reduceLeDiff]
  · obtain ⟨h1, h2⟩ := h78 h
    obtain ⟨z, hz, hr⟩ := Power_ev k c.toNat (by omega) (by omega)
    rw [if_neg h]
    refine ⟨z, hz, ?_⟩
    have hc : ((c.toNat : Nat) : Int) = c := by omega
    rw [hc] at hr
    simp only [run, ii, aN, bb] at hr
    have h5 : ¬ op = 5 := fun e => h (.inl e)
    have h6 : ¬ op = 6 := fun e => h (.inr e)
    rw [run, ev106, ans_trim]
    simp only [Try.f106, aI, ii, aN, bb, h5, h6, hr, FT, Int.reduceEq, Int.reduceToNat, Int.reduceLE, Int.reduceLT, Int.reduceAdd, Int.reduceMul, Int.reduceSub, Int.reduceNeg, Nat.reduceAdd, Nat.reduceSub, Nat.reduceMul, Nat.reduceLT, Nat.reduceBEq, Nat.reduceEqDiff, Nat.reduceLeDiff]
end Go.Proofs.Sw
namespace Go.Proofs.Sw
open Go.Ab
variable [Globals]
def encR : List RI → List IV
  | [] => []
  | x :: l => .bool (decide (x.v < 0)) :: .slice (encD (dig x.v.natAbs)) (dig x.v.natAbs).length x.nl x.cap :: encR l
abbrev sR (l : List RI) (nl : Bool) (cap : Option Nat) : AV := .c (.slice (encR l) l.length nl cap)
theorem encR_length : ∀ l : List RI, (encR l).length = l.length * 2
  | [] => rfl
  | x :: l => by rw [encR, List.length_cons, List.length_cons, encR_length l, List.length_cons]; omega
theorem encR_append : ∀ (a b : List RI), encR (a ++ b) = encR a ++ encR b
  | [], b => rfl
  | x :: a, b => by rw [List.cons_append, encR, encR, encR_append a b]; rfl
def zR : RI := ⟨0, true, some 0⟩
theorem encR_zero (n : Nat) : (List.replicate n [IV.bool false, IV.slice [] 0 true (some 0)]).flatten = encR (List.replicate n zR) := by
  induction n with
  | zero => rfl
  | succ n ih => rw [List.replicate_succ, List.replicate_succ, List.flatten_cons, ih, encR]; rfl
theorem Zero_ev (k n : Nat) (hn : n ≤ 100000) : run (k+1) 70 [ii n] = some (sR (List.replicate n zR) false none) := by
  have q1 : (0 : Int) ≤ (n : Int) := by omega
  have q2 : n * 32 ≤ roomBytes := Nat.le_trans (show n * 32 ≤ 3200000 by omega) (by decide)
  have q3 : n ≤ roomBytes := Nat.le_trans (show n ≤ 100000 by omega) (by decide)
  have hel : (encR (List.replicate n zR)).length = n * 2 := by rw [encR_length, List.length_replicate]
  have htk : (encR (List.replicate n zR)).take (n * 2) = encR (List.replicate n zR) := List.take_of_length_le (by rw [hel]; exact Nat.le_refl _)
  rw [run, ev70, ans_trim]
  simp only [Try.f70, ii, q1, q2, q3, encR_zero, hel, htk, List.length_replicate, Nat.le_refl, FT, Int.reduceEq, Int.reduceToNat, Int.reduceLE, Int.reduceLT, Int.reduceAdd, Int.reduceMul, Int.reduceSub, Int.reduceNeg, Nat.reduceAdd, Nat.reduceSub, Nat.reduceMul, Nat.reduceLT, Nat.reduceBEq, Nat.reduceEqDiff, Nat.reduceLeDiff]
  rw [sR, List.length_replicate]
theorem nD_lt (x : Int) : x.natAbs < 65536 ^ (nD x).length := by
  have := vd_lt (can_dig x.natAbs).ok
  rwa [vd_dig] at this
theorem nD_mul (x y : Int) : (nD (x * y)).length ≤ (nD x).length + (nD y).length := by
  refine dig_len ?_
  rw [Int.natAbs_mul, Nat.pow_add]
  exact Nat.mul_lt_mul'' (nD_lt x) (nD_lt y)
theorem nD_add (x y : Int) {n : Nat} (hx : (nD x).length ≤ n) (hy : (nD y).length ≤ n) : (nD (x + y)).length ≤ n + 1 := by
  refine dig_len ?_
  have h1 := nD_lt x
  have h2 := nD_lt y
  have h3 : 65536 ^ (nD x).length ≤ 65536 ^ n := Nat.pow_le_pow_right (by omega) hx
  have h4 : 65536 ^ (nD y).length ≤ 65536 ^ n := Nat.pow_le_pow_right (by omega) hy
  have h5 : 65536 ^ (n + 1) = 65536 ^ n * 65536 := Nat.pow_succ ..
  omega
end Go.Proofs.Sw
namespace Go.Proofs.Sw
open Go.Ab
variable [Globals]
theorem encR_two : ∀ {l : List RI} {i : Nat} (h : i < l.length), ((encR l).drop (i * 2)).take 2 = [.bool (decide (l[i].v < 0)), .slice (encD (dig l[i].v.natAbs)) (dig l[i].v.natAbs).length l[i].nl l[i].cap]
  | x :: l, 0, _ => rfl
  | x :: l, i + 1, h => by
    have ih := encR_two (l := l) (i := i) (by simpa using h)
    rw [encR, show (i + 1) * 2 = i * 2 + 1 + 1 by omega]
    exact ih
def cmbV (c d : Int) (A B : List RI) (i : Nat) : List Int := (List.range i).map fun j => c * (A.getD j zR).v + d * (B.getD j zR).v
theorem cmbV_succ (c d : Int) (A B : List RI) (i : Nat) : cmbV c d A B (i + 1) = cmbV c d A B i ++ [c * (A.getD i zR).v + d * (B.getD i zR).v] := by simp [cmbV, List.range_succ]
theorem loop_comb (kf : Nat) (c d : RI) (A B : List RI) (nl nl2 : Bool) (cap cap2 : Option Nat) (hAB : A.length ≤ B.length) (hA : A.length ≤ 1000) (L : Nat) (hL : L ≤ 10000) (hc1 : (nD c.v).length ≤ L) (hd1 : (nD d.v).length ≤ L) (hAl : ∀ x ∈ A, (nD x.v).length ≤ L) (hBl : ∀ x ∈ B, (nD x.v).length ≤ L) (hkf : 50000 ≤ kf) (k : Nat) (l : Ass) (z : Option Out) (hz : loopR Try.prog tab (kf + 2) none LB125_3 125 34 [1, 3, 4, 6, 9, 10] 3 k l ([lo 43 0 (encR []), .cells 43 [bb (decide (c.v < 0)), sD (dig c.v.natAbs) c.nl c.cap], .cells 43 [bb (decide (d.v < 0)), sD (dig d.v.natAbs) d.nl d.cap]]) = z) (hk : A.length < k) (a1 : asc l 1 = sR A nl cap) (a3 : asc l 3 = sR B nl2 cap2) (a4 : asc l 4 = .ptr 1 0) (a6 : asc l 6 = .ptr 2 0) (a9 : asc l 9 = lv 0 2 0) (a10 : asc l 10 = ii 0) :
    ∃ l' Z, z = some (.exit 0 (fr 34 l') [lo 43 A.length (encR Z), .cells 43 [bb (decide (c.v < 0)), sD (dig c.v.natAbs) c.nl c.cap], .cells 43 [bb (decide (d.v < 0)), sD (dig d.v.natAbs) d.nl d.cap]]) ∧ asc l' 9 = lv 0 2 A.length ∧ Z.map RI.v = cmbV c.v d.v A B A.length := by
  subst hz
  refine loop_nat A.length (fun k l H => loopR Try.prog tab (kf + 2) none LB125_3 125 34 [1, 3, 4, 6, 9, 10] 3 k l H)
    (fun i l H => ∃ (Z : List RI), asc l 1 = sR A nl cap ∧ asc l 3 = sR B nl2 cap2 ∧ asc l 4 = .ptr 1 0 ∧ asc l 6 = .ptr 2 0 ∧ asc l 9 = lv 0 2 i ∧ asc l 10 = ii i ∧ ((Z.map RI.v = cmbV c.v d.v A B i)) ∧ H = ([lo 43 i (encR Z), .cells 43 [bb (decide (c.v < 0)), sD (dig c.v.natAbs) c.nl c.cap], .cells 43 [bb (decide (d.v < 0)), sD (dig d.v.natAbs) d.nl d.cap]]))
    (fun z => ∃ l' Z, z = some (.exit 0 (fr 34 l') [lo 43 A.length (encR Z), .cells 43 [bb (decide (c.v < 0)), sD (dig c.v.natAbs) c.nl c.cap], .cells 43 [bb (decide (d.v < 0)), sD (dig d.v.natAbs) d.nl d.cap]]) ∧ asc l' 9 = lv 0 2 A.length ∧ Z.map RI.v = cmbV c.v d.v A B A.length) ?_ A.length 0 k l _ (by omega) hk ⟨[], a1, a3, a4, a6, a9, a10, rfl, rfl⟩
  clear hk a1 a3 a4 a6 a9 a10
  rintro i k l H hi ⟨Z, a1, a3, a4, a6, a9, a10, hp, rfl⟩
  have ht : trim 3 (fr 34 (keep l [1, 3, 4, 6, 9, 10])) ([lo 43 i (encR Z), .cells 43 [bb (decide (c.v < 0)), sD (dig c.v.natAbs) c.nl c.cap], .cells 43 [bb (decide (d.v < 0)), sD (dig d.v.natAbs) d.nl d.cap]]) = ([lo 43 i (encR Z), .cells 43 [bb (decide (c.v < 0)), sD (dig c.v.natAbs) c.nl c.cap], .cells 43 [bb (decide (d.v < 0)), sD (dig d.v.natAbs) d.nl d.cap]]) := by
    exact trim_same rfl
  by_cases hc : i < A.length
  · have hc' : (i : Int) < ((A.length : Nat) : Int) := by omega
    have hc0 : (0 : Int) ≤ i := by omega
    have hw : IntKind.wrap .i64 ((i : Int) + 1) = ((i + 1 : Nat) : Int) := by rw [wrap64 (by omega) (by omega)]; omega
    have hcB : i < B.length := by omega
    have hx := encR_two hc
    have hy := encR_two hcB
    obtain ⟨u, hu, hm1⟩ := Mul_ev kf c A[i] (by omega) (by have := hAl _ (List.getElem_mem hc); omega) (by have := hAl _ (List.getElem_mem hc); omega)
    obtain ⟨v, hv, hm2⟩ := Mul_ev kf d B[i] (by omega) (by have := hBl _ (List.getElem_mem hcB); omega) (by have := hBl _ (List.getElem_mem hcB); omega)
    have hZl : Z.length = i := by have := congrArg List.length hp; simpa [cmbV] using this
    have hx2 : i * 2 + 2 ≤ A.length * 2 := by omega
    have hy2 : i * 2 + 2 ≤ B.length * 2 := by omega
    have hla := hAl _ (List.getElem_mem hc)
    have hlb := hBl _ (List.getElem_mem hcB)
    have hlu : (nD u.v).length ≤ 20000 := by rw [hu]; have := nD_mul c.v A[i].v; omega
    have hlv : (nD v.v).length ≤ 20000 := by rw [hv]; have := nD_mul d.v B[i].v; omega
    obtain ⟨w, hww, had⟩ := Add_ev kf u v (by omega) (by omega) (by omega)
    simp only [run, aN, bb] at hm1 hm2 had
    have hiB : (i : Int) < B.length := by omega
    have hela := encR_length A
    have helb := encR_length B
    have hap := fun (X : Heap) (y z : IV) => apO_lv (e := 43) (s := 0) (n := i) (m := 1) (sz := 2) (by_ := 32) (cells := encR Z) (cs := [y, z]) (H := lo 43 i (encR Z) :: X) (by decide) (Nat.le_trans (Nat.mul_le_mul_right 32 (show i + 1 ≤ 20001 by omega)) (by decide)) (by decide) (by rfl) (by rw [encR_length, hZl])
    simp only [loopR_succ, ht]
    simp only [a1, a3, a4, a6, a9, a10, hc', hc0, hw, hx2, loopR_succ, loopOf, findLoop, firstRegion, Option.some_or, Option.none_or, Option.getD_some, Option.some.injEq, Try.f125, FT, Int.reduceEq, Int.reduceToNat, Int.reduceLE, Int.reduceLT, Int.reduceAdd, Int.reduceMul, Int.reduceSub, Int.reduceNeg, Nat.reduceAdd, Nat.reduceSub, Nat.reduceMul, Nat.reduceLT, Nat.reduceBEq, Nat.reduceEqDiff, Nat.reduceLeDiff]
    rw [evalCode_drawn Try.f125 5 dr125_5]; rotate_left; rfl
    simp only [a1, a3, a4, a6, a9, a10, hc', hc0, hw, hx, hx2, hy, hy2, List.map_cons, List.map_nil, hcB, hiB, hela, helb, hm1, hm2, had, hap, EVd, List.getElem?_nil, Nat.reducePow, Nat.reduceDiv, Nat.reduceMod, FT, Int.reduceEq, Int.reduceToNat, Int.reduceLE, Int.reduceLT, Int.reduceAdd, Int.reduceMul, Int.reduceSub, Int.reduceNeg, Nat.reduceAdd, Nat.reduceSub, Nat.reduceMul, Nat.reduceLT, Nat.reduceBEq, Nat.reduceEqDiff, Nat.reduceLeDiff]
    refine .inr ⟨_, _, hc, rfl, Z ++ [w], (by rfl), (by rfl), (by rfl), (by rfl), (by rfl), (by rfl), ?_, ?_⟩
    · rw [List.map_append, hp, cmbV_succ]
      simp [hww, hu, hv, hc, hcB]
    · rw [encR_append]; rfl
  · refine .inl ?_
    obtain rfl : i = A.length := by omega
    have hc' : ¬ (((A.length : Nat) : Int) < ((A.length : Nat) : Int)) := by omega
    simp only [loopR_succ, ht]
    simp only [a1, a3, a4, a6, a9, a10, hc', loopR_succ, loopOf, findLoop, firstRegion, Option.some_or, Option.none_or, Option.getD_some, Option.some.injEq, Try.f125, FT, Int.reduceEq, Int.reduceToNat, Int.reduceLE, Int.reduceLT, Int.reduceAdd, Int.reduceMul, Int.reduceSub, Int.reduceNeg, Nat.reduceAdd, Nat.reduceSub, Nat.reduceMul, Nat.reduceLT, Nat.reduceBEq, Nat.reduceEqDiff, Nat.reduceLeDiff]
    exact ⟨_, Z, rfl, (by rfl), hp⟩
end Go.Proofs.Sw
namespace Go.Proofs.Sw
open Go.Ab
variable [Globals]
theorem Combine_ev (k : Nat) (c d : RI) (A B : List RI) (nl nl2 : Bool) (cap cap2 : Option Nat) (hAB : A.length ≤ B.length) (hA : A.length ≤ 1000) (L : Nat) (hL : L ≤ 10000) (hc1 : (nD c.v).length ≤ L) (hd1 : (nD d.v).length ≤ L) (hAl : ∀ x ∈ A, (nD x.v).length ≤ L) (hBl : ∀ x ∈ B, (nD x.v).length ≤ L) (hk : 50000 ≤ k) :
    ∃ (Z : List RI) (nl3 : Bool) (cap3 : Option Nat), Z.map RI.v = cmbV c.v d.v A B A.length ∧ run (k+3) 125 [aN c, sR A nl cap, aN d, sR B nl2 cap2] = some (sR Z nl3 cap3) := by
  rw [run, ev125, ans_trim]
  simp only [Try.f125, aN, bb, FT, Int.reduceEq, Int.reduceToNat, Int.reduceLE, Int.reduceLT, Int.reduceAdd, Int.reduceMul, Int.reduceSub, Int.reduceNeg, Nat.reduceAdd, Nat.reduceSub, Nat.reduceMul, Nat.reduceLT, Nat.reduceBEq, Nat.reduceEqDiff, Nat.reduceLeDiff]
  rw [evalCode_loopB LB125_3 lp125_3]; rotate_left; rfl; rfl; rfl
  generalize hz : loopR _ _ _ _ _ _ _ _ _ _ _ _ = z
  obtain ⟨l', Z, rfl, e9, hp⟩ := loop_comb k c d A B nl nl2 cap cap2 hAB hA L hL hc1 hd1 hAl hBl hk _ _ z hz (by omega) (by rfl) (by rfl) (by rfl) (by rfl) (by rfl) (by rfl)
  clear hz
  have hZl : Z.length = A.length := by have := congrArg List.length hp; simpa [cmbV] using this
  have hel : (encR Z).length = A.length * 2 := by rw [encR_length, hZl]
  refine ⟨Z, decide (A.length = 0), if A.length = 0 then some 0 else none, hp, ?_⟩
  simp only [e9, hel, FT, Int.reduceEq, Int.reduceToNat, Int.reduceLE, Int.reduceLT, Int.reduceAdd, Int.reduceMul, Int.reduceSub, Int.reduceNeg, Nat.reduceAdd, Nat.reduceSub, Nat.reduceMul, Nat.reduceLT, Nat.reduceBEq, Nat.reduceEqDiff, Nat.reduceLeDiff]
  rw [sR, hZl]
  try rfl
end Go.Proofs.Sw
namespace Go.Proofs.Sw
open Go.Ab
variable [Globals]
theorem len1 {n : Int} (h : n.natAbs ≤ 1) : (nD n).length ≤ 1 := dig_len (k := 1) (by omega)
theorem wAdd_ev (k : Nat) (A B : List RI) (nl nl2 : Bool) (cap cap2 : Option Nat) (hAB : A.length ≤ B.length) (hA : A.length ≤ 1000) (L : Nat) (hL : L ≤ 10000) (hL1 : 1 ≤ L) (hAl : ∀ x ∈ A, (nD x.v).length ≤ L) (hBl : ∀ x ∈ B, (nD x.v).length ≤ L) (hk : 50000 ≤ k) :
    ∃ (Z : List RI) (nl3 : Bool) (cap3 : Option Nat), Z.map RI.v = cmbV 1 1 A B A.length ∧ run (k+4) 104 [sR A nl cap, sR B nl2 cap2] = some (sR Z nl3 cap3) := by
  obtain ⟨o, ho, h1⟩ := Of_ev (k+1) 1 (by omega) (by omega) (by omega)
  obtain ⟨Z, nl3, cap3, hZ, h2⟩ := Combine_ev k o o A B nl nl2 cap cap2 hAB hA L hL (by rw [ho]; exact Nat.le_trans (len1 (by decide)) hL1) (by rw [ho]; exact Nat.le_trans (len1 (by decide)) hL1) hAl hBl hk
  rw [ho] at hZ
  refine ⟨Z, nl3, cap3, hZ, ?_⟩
  simp only [run, aN, bb, ii] at h1 h2
  rw [run, ev104, ans_trim]
  simp only [Try.f104, h1, h2, FT, Int.reduceEq, Int.reduceToNat, Int.reduceLE, Int.reduceLT, Int.reduceAdd, Int.reduceMul, Int.reduceSub, Int.reduceNeg, Nat.reduceAdd, Nat.reduceSub, Nat.reduceMul, Nat.reduceLT, Nat.reduceBEq, Nat.reduceEqDiff, Nat.reduceLeDiff]
  try (rw [evalCode_drawn Try.f104 1 dr104_1]; rotate_left; rfl)
  try simp only [h1, h2, EVd, List.getElem?_nil, Nat.reducePow, Nat.reduceDiv, Nat.reduceMod, FT, Int.reduceEq, Int.reduceToNat, Int.reduceLE, Int.reduceLT, Int.reduceAdd, Int.reduceMul, Int.reduceSub, Int.reduceNeg, Nat.reduceAdd, Nat.reduceSub, Nat.reduceMul, Nat.reduceLT, Nat.reduceBEq, Nat.reduceEqDiff, Nat.reduceLeDiff]
theorem wSub_ev (k : Nat) (A B : List RI) (nl nl2 : Bool) (cap cap2 : Option Nat) (hAB : A.length ≤ B.length) (hA : A.length ≤ 1000) (L : Nat) (hL : L ≤ 10000) (hL1 : 1 ≤ L) (hAl : ∀ x ∈ A, (nD x.v).length ≤ L) (hBl : ∀ x ∈ B, (nD x.v).length ≤ L) (hk : 50000 ≤ k) :
    ∃ (Z : List RI) (nl3 : Bool) (cap3 : Option Nat), Z.map RI.v = cmbV 1 (-1) A B A.length ∧ run (k+4) 105 [sR A nl cap, sR B nl2 cap2] = some (sR Z nl3 cap3) := by
  obtain ⟨o, ho, h1⟩ := Of_ev (k+1) 1 (by omega) (by omega) (by omega)
  obtain ⟨m, hm, h3⟩ := Of_ev (k+1) (-1) (by omega) (by omega) (by omega)
  obtain ⟨Z, nl3, cap3, hZ, h2⟩ := Combine_ev k o m A B nl nl2 cap cap2 hAB hA L hL (by rw [ho]; exact Nat.le_trans (len1 (by decide)) hL1) (by rw [hm]; exact Nat.le_trans (len1 (by decide)) hL1) hAl hBl hk
  rw [ho, hm] at hZ
  refine ⟨Z, nl3, cap3, hZ, ?_⟩
  simp only [run, aN, bb, ii] at h1 h2 h3
  rw [run, ev105, ans_trim]
  simp only [Try.f105, h1, h2, h3, FT, Int.reduceEq, Int.reduceToNat, Int.reduceLE, Int.reduceLT, Int.reduceAdd, Int.reduceMul, Int.reduceSub, Int.reduceNeg, Nat.reduceAdd, Nat.reduceSub, Nat.reduceMul, Nat.reduceLT, Nat.reduceBEq, Nat.reduceEqDiff, Nat.reduceLeDiff]
  try (rw [evalCode_drawn Try.f105 1 dr105_1]; rotate_left; rfl)
  try simp only [h1, h2, h3, EVd, List.getElem?_nil, Nat.reducePow, Nat.reduceDiv, Nat.reduceMod, FT, Int.reduceEq, Int.reduceToNat, Int.reduceLE, Int.reduceLT, Int.reduceAdd, Int.reduceMul, Int.reduceSub, Int.reduceNeg, Nat.reduceAdd, Nat.reduceSub, Nat.reduceMul, Nat.reduceLT, Nat.reduceBEq, Nat.reduceEqDiff, Nat.reduceLeDiff]
theorem wScale_ev (k : Nat) (A : List RI) (c : RI) (nl : Bool) (cap : Option Nat) (hA : A.length ≤ 1000) (L : Nat) (hL : L ≤ 10000) (hc1 : (nD c.v).length ≤ L) (hAl : ∀ x ∈ A, (nD x.v).length ≤ L) (hk : 50000 ≤ k) :
    ∃ (Z : List RI) (nl3 : Bool) (cap3 : Option Nat), Z.map RI.v = cmbV c.v 0 A A A.length ∧ run (k+4) 103 [sR A nl cap, aN c] = some (sR Z nl3 cap3) := by
  obtain ⟨Z, nl3, cap3, hZ, h2⟩ := Combine_ev k c zR A A nl nl cap cap (Nat.le_refl _) hA L hL hc1 (by show (nD 0).length ≤ L; exact Nat.zero_le _) hAl hAl hk
  refine ⟨Z, nl3, cap3, hZ, ?_⟩
  have h3 : ans (evalT Try.prog (mkHints tab) (k+3) (.fn 125) [.agg [.c (.bool (decide (c.v < 0))), sD (dig c.v.natAbs) c.nl c.cap], sR A nl cap, .agg [.c (.bool false), .c (.slice [] 0 true (some 0))], sR A nl cap] []) = some (sR Z nl3 cap3) := h2
  rw [run, ev103, ans_trim]
  simp only [Try.f103, aN, bb, h3, FT, Int.reduceEq, Int.reduceToNat, Int.reduceLE, Int.reduceLT, Int.reduceAdd, Int.reduceMul, Int.reduceSub, Int.reduceNeg, Nat.reduceAdd, Nat.reduceSub, Nat.reduceMul, Nat.reduceLT, Nat.reduceBEq, Nat.reduceEqDiff, Nat.reduceLeDiff]
  try (rw [evalCode_drawn Try.f103 1 dr103_1]; rotate_left; rfl)
  try simp only [h3, EVd, List.getElem?_nil, Nat.reducePow, Nat.reduceDiv, Nat.reduceMod, FT, Int.reduceEq, Int.reduceToNat, Int.reduceLE, Int.reduceLT, Int.reduceAdd, Int.reduceMul, Int.reduceSub, Int.reduceNeg, Nat.reduceAdd, Nat.reduceSub, Nat.reduceMul, Nat.reduceLT, Nat.reduceBEq, Nat.reduceEqDiff, Nat.reduceLeDiff]
end Go.Proofs.Sw
namespace Go.Proofs.Sw
open Go.Ab
variable [Globals]
structure Sem (α : Type) where
  f : Int → Int → α → α → Option α
  d : α
  G : α → Prop
  one : ∀ c a b, f 1 c a b = some a
  two : ∀ o c a b b', o ≠ 3 → o ≠ 4 → f o c a b = f o c a b'
  comm : ∀ c a b, G a → G b → f 3 c a b = f 3 c b a
  good : ∀ o c a b v, G a → G b → f o c a b = some v → G v
  gd : G d
section
variable {α : Type} (M : Sem α)
def stepE (R : List α) (x : Ins) : Option (List α) := (M.f x.op x.c (R.getD x.a.toNat M.d) (R.getD x.b.toNat M.d)).map fun v => R.set x.to.toNat v
def runE : List Ins → List α → Option (List α)
  | [], R => some R
  | x :: l, R => match stepE M R x with
    | some Q => runE l Q
    | none => none
theorem runE_append : ∀ (a b : List Ins) (R : List α), runE M (a ++ b) R = (runE M a R).bind (runE M b)
  | [], b, R => rfl
  | x :: a, b, R => by
    rw [List.cons_append, runE, runE]
    cases stepE M R x with
    | none => rfl
    | some Q => exact runE_append a b Q
theorem runE_snoc (a : List Ins) (x : Ins) (R : List α) : runE M (a ++ [x]) R = (runE M a R).bind (fun Q => stepE M Q x) := by
  rw [runE_append]
  cases runE M a R with
  | none => rfl
  | some Q =>
    show runE M [x] Q = stepE M Q x
    rw [runE]
    cases stepE M Q x <;> rfl
theorem getDA_set {l : List α} {i k : Nat} {v d : α} (hi : i < l.length) : (l.set i v).getD k d = if k = i then v else l.getD k d := by
  rw [List.getD_eq_getElem?_getD, List.getD_eq_getElem?_getD, List.getElem?_set]
  by_cases h : i = k
  · subst h; simp [hi]
  · simp [h, show ¬ k = i from fun e => h e.symm]
end
end Go.Proofs.Sw
namespace Go.Proofs.Sw
open Go.Ab
variable [Globals]
theorem pwD_vd (n : Nat) : vd (pwD n) = 2 ^ n := by
  have h := vd_set (List.replicate (n / 16 + 1) 0) (n / 16) (2 ^ (n % 16)) (by simp)
  rw [show (List.replicate (n / 16 + 1) 0).getD (n / 16) 0 = 0 by simp [List.getD_eq_getElem?_getD], vd_rep, Nat.mul_zero, Nat.add_zero, Nat.zero_add] at h
  rw [pwD, h, show (65536 : Nat) = 2 ^ 16 from rfl, ← Nat.pow_mul, ← Nat.pow_add]
  congr 1
  omega
def cmbL (c d : Int) (a b : List Int) : List Int := (List.range a.length).map fun j => c * a.getD j 0 + d * b.getD j 0
theorem cmbL_length (c d : Int) (a b : List Int) : (cmbL c d a b).length = a.length := by simp [cmbL]
theorem getD_v (A : List RI) (j : Nat) : (A.getD j zR).v = (A.map RI.v).getD j 0 := by
  rw [List.getD_eq_getElem?_getD, List.getD_eq_getElem?_getD, List.getElem?_map]
  cases A[j]? <;> rfl
theorem cmbV_L (c d : Int) (A B : List RI) : cmbV c d A B A.length = cmbL c d (A.map RI.v) (B.map RI.v) := by
  unfold cmbV cmbL
  rw [List.length_map]
  refine List.map_congr_left fun j _ => ?_
  rw [getD_v, getD_v]
theorem cmbL_comm {a b : List Int} (h : a.length = b.length) : cmbL 1 1 a b = cmbL 1 1 b a := by
  unfold cmbL
  rw [h]
  refine List.map_congr_left fun j _ => ?_
  omega
def overL : List Int → Int → Option (List Int)
  | [], _ => some []
  | x :: l, c => match overV x c with
    | none => none
    | some q => (overL l c).map (q :: ·)
theorem overL_length : ∀ {l : List Int} {c : Int} {q : List Int}, overL l c = some q → q.length = l.length
  | [], c, q, h => by obtain rfl := Option.some.inj h; rfl
  | x :: l, c, q, h => by
    rw [overL] at h
    cases hv : overV x c with
    | none => rw [hv] at h; cases h
    | some y =>
      rw [hv] at h
      cases hl : overL l c with
      | none => rw [hl] at h; cases h
      | some z =>
        rw [hl] at h
        obtain rfl := Option.some.inj h
        simp [overL_length hl]
def rowF (op c : Int) (a b : List Int) : Option (List Int) :=
  if op = 2 then some (cmbL (-1) 0 a a) else if op = 3 then some (cmbL 1 1 a b) else if op = 4 then some (cmbL 1 (-1) a b) else
  if op = 5 ∨ op = 7 then some (cmbL (constV op c) 0 a a) else if op = 6 ∨ op = 8 then overL a (constV op c) else some a
theorem rowF_length {op c : Int} {a b v : List Int} (h : rowF op c a b = some v) : v.length = a.length := by
  unfold rowF at h
  split at h
  · obtain rfl := Option.some.inj h; exact cmbL_length ..
  split at h
  · obtain rfl := Option.some.inj h; exact cmbL_length ..
  split at h
  · obtain rfl := Option.some.inj h; exact cmbL_length ..
  split at h
  · obtain rfl := Option.some.inj h; exact cmbL_length ..
  split at h
  · exact overL_length h
  · obtain rfl := Option.some.inj h; rfl
def rowSem (L : Nat) : Sem (List Int) where
  f := rowF
  d := List.replicate L 0
  G := fun a => a.length = L
  one := fun c a b => rfl
  two := fun o c a b b' h3 h4 => by simp only [rowF, h3, h4, if_false]
  comm := fun c a b ha hb => by show some _ = some _; rw [cmbL_comm (by rw [ha, hb])]
  good := fun o c a b v ha _ h => by rw [rowF_length h]; exact ha
  gd := by simp
theorem nD_neg (x : Int) : nD (-x) = nD x := by simp [nD]
theorem nD_sub1 (x : Int) {s : Int} (hs : s.natAbs ≤ 1) {n : Nat} (hx : (nD x).length ≤ n) : (nD (x - s)).length ≤ n + 2 := by
  have h1 : (nD (-s)).length ≤ n + 1 := by rw [nD_neg]; exact Nat.le_trans (len1 hs) (by omega)
  have := nD_add x (-s) (n := n + 1) (by omega) h1
  rwa [← Int.sub_eq_add_neg] at this
theorem overV_len {x y q : Int} (hy : y ≠ 0) (h : overV x y = some q) : (nD q).length ≤ (nD x).length + 2 := by
  have hd := dvQ_ok (a := nD x) (b := nD y) (can_dig _).ok (can_dig _).ok (nD_pos hy) nD_one
  have hq : (nD (dmQ x y)).length ≤ (nD x).length := by
    unfold dmQ
    rw [nD_sgn]
    exact Nat.le_trans (len_of hd.1) hd.2
  have hs : (nD (dmQ x y - sgI y)).length ≤ (nD x).length + 2 := by
    refine nD_sub1 _ ?_ hq
    unfold sgI
    split <;> (try split) <;> decide
  unfold overV at h
  by_cases h1 : dmR x y < 0
  · simp only [h1, if_true] at h
    by_cases h2 : dmR x y + (y.natAbs : Int) = 0
    · rw [if_pos h2] at h
      obtain rfl := Option.some.inj h
      exact hs
    · rw [if_neg h2] at h; cases h
  · simp only [h1, if_false] at h
    by_cases h2 : dmR x y = 0
    · rw [if_pos h2] at h
      obtain rfl := Option.some.inj h
      omega
    · rw [if_neg h2] at h; cases h
end Go.Proofs.Sw
namespace Go.Proofs.Sw
open Go.Ab
variable [Globals]
theorem overL_snoc (l : List Int) (x c : Int) : overL (l ++ [x]) c = match overL l c with
    | none => none
    | some z => (overV x c).map fun q => z ++ [q] := by
  induction l with
  | nil =>
    rw [List.nil_append, overL, overL]
    cases overV x c <;> rfl
  | cons y l ih =>
    rw [List.cons_append, overL, overL, ih]
    cases overV y c with
    | none => rfl
    | some q =>
      cases overL l c with
      | none => rfl
      | some z =>
        show Option.map (q :: ·) ((overV x c).map fun q => z ++ [q]) = _
        cases overV x c <;> rfl
theorem overL_none {l : List Int} {c : Int} {i : Nat} (h : overL (l.take i) c = none) : overL l c = none := by
  have e : ∀ (m a : List Int), overL a c = none → overL (a ++ m) c = none := by
    intro m a
    induction a with
    | nil => intro h; cases h
    | cons y a ih =>
      intro h
      rw [List.cons_append, overL]
      rw [overL] at h
      cases hv : overV y c with
      | none => rfl
      | some q =>
        rw [hv] at h
        cases ha : overL a c with
        | none => rw [ih ha]; rfl
        | some z => rw [ha] at h; cases h
  have := e (l.drop i) _ h
  rwa [List.take_append_drop] at this
theorem take_v {A : List RI} {i : Nat} (h : i < A.length) : (A.map RI.v).take (i + 1) = (A.map RI.v).take i ++ [A[i].v] := by
  rw [List.take_succ_eq_append_getElem (by simpa using h), List.getElem_map]
theorem loop_wover (kf : Nat) (c : RI) (A : List RI) (nl : Bool) (cap : Option Nat) (hA : A.length ≤ 1000) (hcz : c.v ≠ 0) (hcl : (nD c.v).length ≤ 2000) (hAl : ∀ x ∈ A, (nD x.v).length ≤ 2000) (hkf : 50000 ≤ kf) (k : Nat) (l : Ass) (z : Option Out) (hz : loopR Try.prog tab (kf + 5) none LB107_3 107 32 [0, 3, 6, 7] 2 k l ([lo 43 0 (encR []), .cells 43 [bb (decide (c.v < 0)), sD (dig c.v.natAbs) c.nl c.cap]]) = z) (hk : A.length < k) (a0 : asc l 0 = sR A nl cap) (a3 : asc l 3 = .ptr 1 0) (a6 : asc l 6 = lv 0 2 0) (a7 : asc l 7 = ii 0) :
    (∃ l' Z, z = some (.exit 0 (fr 32 l') [lo 43 A.length (encR Z), .cells 43 [bb (decide (c.v < 0)), sD (dig c.v.natAbs) c.nl c.cap]]) ∧ asc l' 6 = lv 0 2 A.length ∧ overL (A.map RI.v) c.v = some (Z.map RI.v)) ∨ (overL (A.map RI.v) c.v = none ∧ ∃ l' H, z = some (.ret (fr 32 l') H) ∧ asc l' 4 = .c (.slice [] 0 true (some 0)) ∧ asc l' 5 = bb false) := by
  subst hz
  refine loop_nat A.length (fun k l H => loopR Try.prog tab (kf + 5) none LB107_3 107 32 [0, 3, 6, 7] 2 k l H)
    (fun i l H => ∃ (Z : List RI), asc l 0 = sR A nl cap ∧ asc l 3 = .ptr 1 0 ∧ asc l 6 = lv 0 2 i ∧ asc l 7 = ii i ∧ (overL ((A.map RI.v).take i) c.v = some (Z.map RI.v)) ∧ ∃ G, H = ([lo 43 i (encR Z), .cells 43 [bb (decide (c.v < 0)), sD (dig c.v.natAbs) c.nl c.cap]]) ++ G)
    (fun z => (∃ l' Z, z = some (.exit 0 (fr 32 l') [lo 43 A.length (encR Z), .cells 43 [bb (decide (c.v < 0)), sD (dig c.v.natAbs) c.nl c.cap]]) ∧ asc l' 6 = lv 0 2 A.length ∧ overL (A.map RI.v) c.v = some (Z.map RI.v)) ∨ (overL (A.map RI.v) c.v = none ∧ ∃ l' H, z = some (.ret (fr 32 l') H) ∧ asc l' 4 = .c (.slice [] 0 true (some 0)) ∧ asc l' 5 = bb false)) ?_ A.length 0 k l _ (by omega) hk ⟨[], a0, a3, a6, a7, rfl, [], by rw [List.append_nil]⟩
  clear hk a0 a3 a6 a7
  rintro i k l H hi ⟨Z, a0, a3, a6, a7, hp, G, rfl⟩
  have ht : trim 2 (fr 32 (keep l [0, 3, 6, 7])) (([lo 43 i (encR Z), .cells 43 [bb (decide (c.v < 0)), sD (dig c.v.natAbs) c.nl c.cap]]) ++ G) = ([lo 43 i (encR Z), .cells 43 [bb (decide (c.v < 0)), sD (dig c.v.natAbs) c.nl c.cap]]) := trim_app (by simp) (by simp only [a0, a3, a6, a7, EVb, EVc, Int.reduceEq, Int.reduceToNat, Int.reduceLE, Int.reduceLT, Int.reduceAdd, Int.reduceMul, Int.reduceSub, Int.reduceNeg, Nat.reduceAdd, Nat.reduceSub, Nat.reduceMul, Nat.reduceLT, Nat.reduceBEq, Nat.reduceEqDiff, Nat.reduceLeDiff]) (by simp only [EVb, EVc, Int.reduceEq, Int.reduceToNat, Int.reduceLE, Int.reduceLT, Int.reduceAdd, Int.reduceMul, Int.reduceSub, Int.reduceNeg, Nat.reduceAdd, Nat.reduceSub, Nat.reduceMul, Nat.reduceLT, Nat.reduceBEq, Nat.reduceEqDiff, Nat.reduceLeDiff])
  by_cases hc : i < A.length
  · have hc' : (i : Int) < ((A.length : Nat) : Int) := by omega
    have hc0 : (0 : Int) ≤ i := by omega
    have hw : IntKind.wrap .i64 ((i : Int) + 1) = ((i + 1 : Nat) : Int) := by rw [wrap64 (by omega) (by omega)]; omega
    have hx := encR_two hc
    have hla := hAl _ (List.getElem_mem hc)
    obtain ⟨u, hu, hov⟩ := Over_ev kf A[i] c hcz hla hcl hkf
    have hZl : Z.length = i := by have := overL_length hp; simpa [List.length_take, Nat.min_eq_left (show i ≤ A.length by omega)] using this
    have hx2 : i * 2 + 2 ≤ A.length * 2 := by omega
    simp only [run, aN, bb] at hov
    have hela := encR_length A
    have hsn := overL_snoc ((A.map RI.v).take i) A[i].v c.v
    rw [← take_v hc, hp] at hsn
    simp only at hsn
    have hap := fun (X : Heap) (y z : IV) => apO_lv (e := 43) (s := 0) (n := i) (m := 1) (sz := 2) (by_ := 32) (cells := encR Z) (cs := [y, z]) (H := lo 43 i (encR Z) :: X) (by decide) (Nat.le_trans (Nat.mul_le_mul_right 32 (show i + 1 ≤ 20001 by omega)) (by decide)) (by decide) (by rfl) (by rw [encR_length, hZl])
    cases hv : overV A[i].v c.v with
    | none =>
      rw [hv] at hov hsn
      simp only [Option.isSome_none] at hov
      refine .inl (.inr ⟨overL_none (i := i + 1) (by rw [hsn]; rfl), ?_⟩)
      simp only [loopR_succ, ht]
      simp only [a0, a3, a6, a7, hc', hc0, hw, hx2, loopR_succ, loopOf, findLoop, firstRegion, Option.some_or, Option.none_or, Option.getD_some, Option.some.injEq, Try.f107, FT, Int.reduceEq, Int.reduceToNat, Int.reduceLE, Int.reduceLT, Int.reduceAdd, Int.reduceMul, Int.reduceSub, Int.reduceNeg, Nat.reduceAdd, Nat.reduceSub, Nat.reduceMul, Nat.reduceLT, Nat.reduceBEq, Nat.reduceEqDiff, Nat.reduceLeDiff]
      rw [evalCode_drawn Try.f107 5 dr107_5]; rotate_left; rfl
      simp only [a0, a3, a6, a7, hc', hc0, hw, hx, hx2, List.map_cons, List.map_nil, hela, hov, EVd, List.getElem?_nil, Nat.reducePow, Nat.reduceDiv, Nat.reduceMod, FT, Int.reduceEq, Int.reduceToNat, Int.reduceLE, Int.reduceLT, Int.reduceAdd, Int.reduceMul, Int.reduceSub, Int.reduceNeg, Nat.reduceAdd, Nat.reduceSub, Nat.reduceMul, Nat.reduceLT, Nat.reduceBEq, Nat.reduceEqDiff, Nat.reduceLeDiff]
      try simp only [a0, a3, a6, a7, hc', hc0, hw, hx, FT, Int.reduceEq, Int.reduceToNat, Int.reduceLE, Int.reduceLT, Int.reduceAdd, Int.reduceMul, Int.reduceSub, Int.reduceNeg, Nat.reduceAdd, Nat.reduceSub, Nat.reduceMul, Nat.reduceLT, Nat.reduceBEq, Nat.reduceEqDiff, Nat.reduceLeDiff]
      exact ⟨_, _, rfl, (by rfl), (by rfl)⟩
    | some q =>
      rw [hv] at hov hsn hu
      simp only [Option.isSome_some] at hov
      simp only [loopR_succ, ht]
      simp only [a0, a3, a6, a7, hc', hc0, hw, hx2, loopR_succ, loopOf, findLoop, firstRegion, Option.some_or, Option.none_or, Option.getD_some, Option.some.injEq, Try.f107, FT, Int.reduceEq, Int.reduceToNat, Int.reduceLE, Int.reduceLT, Int.reduceAdd, Int.reduceMul, Int.reduceSub, Int.reduceNeg, Nat.reduceAdd, Nat.reduceSub, Nat.reduceMul, Nat.reduceLT, Nat.reduceBEq, Nat.reduceEqDiff, Nat.reduceLeDiff]
      rw [evalCode_drawn Try.f107 5 dr107_5]; rotate_left; rfl
      simp only [a0, a3, a6, a7, hc', hc0, hw, hx, hx2, List.map_cons, List.map_nil, hela, hov, hap, EVd, List.getElem?_nil, Nat.reducePow, Nat.reduceDiv, Nat.reduceMod, FT, Int.reduceEq, Int.reduceToNat, Int.reduceLE, Int.reduceLT, Int.reduceAdd, Int.reduceMul, Int.reduceSub, Int.reduceNeg, Nat.reduceAdd, Nat.reduceSub, Nat.reduceMul, Nat.reduceLT, Nat.reduceBEq, Nat.reduceEqDiff, Nat.reduceLeDiff]
      try simp only [a0, a3, a6, a7, hc', hc0, hw, hx, hap, FT, Int.reduceEq, Int.reduceToNat, Int.reduceLE, Int.reduceLT, Int.reduceAdd, Int.reduceMul, Int.reduceSub, Int.reduceNeg, Nat.reduceAdd, Nat.reduceSub, Nat.reduceMul, Nat.reduceLT, Nat.reduceBEq, Nat.reduceEqDiff, Nat.reduceLeDiff]
      refine .inr ⟨_, _, hc, rfl, Z ++ [u], (by rfl), (by rfl), (by rfl), (by rfl), ?_, ⟨_, by rw [encR_append]; exact rfl⟩⟩
      rw [hsn, List.map_append]
      simp [hu]
  · refine .inl ?_
    obtain rfl : i = A.length := by omega
    have hc' : ¬ (((A.length : Nat) : Int) < ((A.length : Nat) : Int)) := by omega
    simp only [loopR_succ, ht]
    simp only [a0, a3, a6, a7, hc', loopR_succ, loopOf, findLoop, firstRegion, Option.some_or, Option.none_or, Option.getD_some, Option.some.injEq, Try.f107, FT, Int.reduceEq, Int.reduceToNat, Int.reduceLE, Int.reduceLT, Int.reduceAdd, Int.reduceMul, Int.reduceSub, Int.reduceNeg, Nat.reduceAdd, Nat.reduceSub, Nat.reduceMul, Nat.reduceLT, Nat.reduceBEq, Nat.reduceEqDiff, Nat.reduceLeDiff]
    rw [List.take_of_length_le (by simp)] at hp
    exact .inl ⟨_, Z, rfl, (by rfl), hp⟩
theorem wOver_ev (k : Nat) (A : List RI) (c : RI) (nl : Bool) (cap : Option Nat) (hA : A.length ≤ 1000) (hc0 : c.v ≠ 0) (hcl : (nD c.v).length ≤ 2000) (hAl : ∀ x ∈ A, (nD x.v).length ≤ 2000) (hk : 50000 ≤ k) :
    (overL (A.map RI.v) c.v = none ∧ run (k+6) 107 [sR A nl cap, aN c] = some (.tup [.c (.slice [] 0 true (some 0)), bb false])) ∨
    ∃ (Z : List RI) (nl3 : Bool) (cap3 : Option Nat), overL (A.map RI.v) c.v = some (Z.map RI.v) ∧ run (k+6) 107 [sR A nl cap, aN c] = some (.tup [sR Z nl3 cap3, bb true]) := by
  rw [run, ev107, ans_trim]
  simp only [Try.f107, aN, bb, FT, Int.reduceEq, Int.reduceToNat, Int.reduceLE, Int.reduceLT, Int.reduceAdd, Int.reduceMul, Int.reduceSub, Int.reduceNeg, Nat.reduceAdd, Nat.reduceSub, Nat.reduceMul, Nat.reduceLT, Nat.reduceBEq, Nat.reduceEqDiff, Nat.reduceLeDiff]
  rw [evalCode_loopB LB107_3 lp107_3]; rotate_left; rfl; rfl; rfl
  generalize hz : loopR _ _ _ _ _ _ _ _ _ _ _ _ = z
  obtain ⟨l', Z, rfl, e6, hp⟩ | ⟨hp, l', H, rfl, e4, e5⟩ := loop_wover k c A nl cap hA hc0 hcl hAl hk _ _ z hz (by omega) (by rfl) (by rfl) (by rfl) (by rfl)
  · clear hz
    refine .inr ?_
    have hZl : Z.length = A.length := by have := overL_length hp; simpa using this
    have hel : (encR Z).length = A.length * 2 := by rw [encR_length, hZl]
    refine ⟨Z, decide (A.length = 0), if A.length = 0 then some 0 else none, hp, ?_⟩
    simp only [e6, hel, FT, Int.reduceEq, Int.reduceToNat, Int.reduceLE, Int.reduceLT, Int.reduceAdd, Int.reduceMul, Int.reduceSub, Int.reduceNeg, Nat.reduceAdd, Nat.reduceSub, Nat.reduceMul, Nat.reduceLT, Nat.reduceBEq, Nat.reduceEqDiff, Nat.reduceLeDiff]
    rw [sR, hZl]
    try rfl
  · clear hz
    refine .inl ⟨hp, ?_⟩
    simp only [e4, e5, FT, Int.reduceEq, Int.reduceToNat, Int.reduceLE, Int.reduceLT, Int.reduceAdd, Int.reduceMul, Int.reduceSub, Int.reduceNeg, Nat.reduceAdd, Nat.reduceSub, Nat.reduceMul, Nat.reduceLT, Nat.reduceBEq, Nat.reduceEqDiff, Nat.reduceLeDiff]
theorem cmpI_zero {m n : Int} : cmpI m n = 0 ↔ m = n := by unfold cmpI; split <;> (try split) <;> omega
theorem loop_wsame (kf : Nat) (A B : List RI) (nl nl2 : Bool) (cap cap2 : Option Nat) (hAB : A.length = B.length) (hA : A.length ≤ 1000) (hAl : ∀ x ∈ A, (nD x.v).length ≤ 20000) (hBl : ∀ x ∈ B, (nD x.v).length ≤ 20000) (hkf : 50000 ≤ kf) (k : Nat) (l : Ass) (z : Option Out) (hz : loopR Try.prog tab (kf + 2) none LB24_4 24 27 [0, 1, 5] 0 k l ([]) = z) (hk : A.length < k) (a0 : asc l 0 = sR A nl cap) (a1 : asc l 1 = sR B nl2 cap2) (a5 : asc l 5 = ii 0) :
    ∃ l', (z = some (.exit 0 (fr 27 l') []) ∧ A.map RI.v = B.map RI.v) ∨ (z = some (.ret (fr 27 l') []) ∧ A.map RI.v ≠ B.map RI.v ∧ asc l' 4 = bb false) := by
  subst hz
  refine loop_nat A.length (fun k l H => loopR Try.prog tab (kf + 2) none LB24_4 24 27 [0, 1, 5] 0 k l H)
    (fun i l H => asc l 0 = sR A nl cap ∧ asc l 1 = sR B nl2 cap2 ∧ asc l 5 = ii i ∧ (((A.map RI.v).take i = (B.map RI.v).take i)) ∧ ∃ G, H = ([]) ++ G)
    (fun z => ∃ l', (z = some (.exit 0 (fr 27 l') []) ∧ A.map RI.v = B.map RI.v) ∨ (z = some (.ret (fr 27 l') []) ∧ A.map RI.v ≠ B.map RI.v ∧ asc l' 4 = bb false)) ?_ A.length 0 k l _ (by omega) hk ⟨a0, a1, a5, rfl, [], by rw [List.append_nil]⟩
  clear hk a0 a1 a5
  rintro i k l H hi ⟨a0, a1, a5, hp, G, rfl⟩
  have ht : trim 0 (fr 27 (keep l [0, 1, 5])) (([]) ++ H) = ([]) := trim_app (by simp) (by simp only [a0, a1, a5, EVb, EVc, Int.reduceEq, Int.reduceToNat, Int.reduceLE, Int.reduceLT, Int.reduceAdd, Int.reduceMul, Int.reduceSub, Int.reduceNeg, Nat.reduceAdd, Nat.reduceSub, Nat.reduceMul, Nat.reduceLT, Nat.reduceBEq, Nat.reduceEqDiff, Nat.reduceLeDiff]) (by simp only [EVb, EVc, Int.reduceEq, Int.reduceToNat, Int.reduceLE, Int.reduceLT, Int.reduceAdd, Int.reduceMul, Int.reduceSub, Int.reduceNeg, Nat.reduceAdd, Nat.reduceSub, Nat.reduceMul, Nat.reduceLT, Nat.reduceBEq, Nat.reduceEqDiff, Nat.reduceLeDiff])
  by_cases hc : i < A.length
  · have hc' : (i : Int) < ((A.length : Nat) : Int) := by omega
    have hc0 : (0 : Int) ≤ i := by omega
    have hw : IntKind.wrap .i64 ((i : Int) + 1) = ((i + 1 : Nat) : Int) := by rw [wrap64 (by omega) (by omega)]; omega
    have hcB : i < B.length := by omega
    have hx := encR_two hc
    have hy := encR_two hcB
    have hla := hAl _ (List.getElem_mem hc)
    have hlb := hBl _ (List.getElem_mem hcB)
    have hcm := Cmp_ev kf A[i] B[i] (Nat.le_trans hla (by decide)) (Nat.le_trans hlb (by decide)) ⟨Nat.lt_of_le_of_lt hla (by omega), Nat.lt_of_le_of_lt hlb (by omega)⟩
    simp only [run, aN, bb, ii] at hcm
    have hx2 : i * 2 + 2 ≤ A.length * 2 := by omega
    have hy2 : i * 2 + 2 ≤ B.length * 2 := by omega
    have hiB : (i : Int) < B.length := by omega
    have hela := encR_length A
    have helb := encR_length B
    by_cases he : A[i].v = B[i].v
    · have hz0 : cmpI A[i].v B[i].v = 0 := cmpI_zero.2 he
      rw [hz0] at hcm
      simp only [loopR_succ, ht]
      simp only [a0, a1, a5, hc', hc0, hw, hx2, loopR_succ, loopOf, findLoop, firstRegion, Option.some_or, Option.none_or, Option.getD_some, Option.some.injEq, Try.f24, FT, Int.reduceEq, Int.reduceToNat, Int.reduceLE, Int.reduceLT, Int.reduceAdd, Int.reduceMul, Int.reduceSub, Int.reduceNeg, Nat.reduceAdd, Nat.reduceSub, Nat.reduceMul, Nat.reduceLT, Nat.reduceBEq, Nat.reduceEqDiff, Nat.reduceLeDiff]
      rw [evalCode_drawn Try.f24 6 dr24_6]; rotate_left; rfl
      simp only [a0, a1, a5, hc', hc0, hw, hx, hx2, hy, hy2, hiB, List.map_cons, List.map_nil, hela, helb, hcm, EVd, List.getElem?_nil, Nat.reducePow, Nat.reduceDiv, Nat.reduceMod, FT, Int.reduceEq, Int.reduceToNat, Int.reduceLE, Int.reduceLT, Int.reduceAdd, Int.reduceMul, Int.reduceSub, Int.reduceNeg, Nat.reduceAdd, Nat.reduceSub, Nat.reduceMul, Nat.reduceLT, Nat.reduceBEq, Nat.reduceEqDiff, Nat.reduceLeDiff]
      exact .inr ⟨_, _, hc, rfl, (by rfl), (by rfl), (by rfl), by rw [take_v hc, take_v hcB, hp, he], ⟨_, by rfl⟩⟩
    · have hz0 : ¬ cmpI A[i].v B[i].v = 0 := fun e => he (cmpI_zero.1 e)
      refine .inl ?_
      simp only [loopR_succ, ht]
      simp only [a0, a1, a5, hc', hc0, hw, hx2, loopR_succ, loopOf, findLoop, firstRegion, Option.some_or, Option.none_or, Option.getD_some, Option.some.injEq, Try.f24, FT, Int.reduceEq, Int.reduceToNat, Int.reduceLE, Int.reduceLT, Int.reduceAdd, Int.reduceMul, Int.reduceSub, Int.reduceNeg, Nat.reduceAdd, Nat.reduceSub, Nat.reduceMul, Nat.reduceLT, Nat.reduceBEq, Nat.reduceEqDiff, Nat.reduceLeDiff]
      rw [evalCode_drawn Try.f24 6 dr24_6]; rotate_left; rfl
      simp only [a0, a1, a5, hc', hc0, hw, hx, hx2, hy, hy2, hiB, List.map_cons, List.map_nil, hela, helb, hcm, hz0, EVd, List.getElem?_nil, Nat.reducePow, Nat.reduceDiv, Nat.reduceMod, FT, Int.reduceEq, Int.reduceToNat, Int.reduceLE, Int.reduceLT, Int.reduceAdd, Int.reduceMul, Int.reduceSub, Int.reduceNeg, Nat.reduceAdd, Nat.reduceSub, Nat.reduceMul, Nat.reduceLT, Nat.reduceBEq, Nat.reduceEqDiff, Nat.reduceLeDiff]
      refine ⟨_, .inr ⟨rfl, fun e => he ?_, (by rfl)⟩⟩
      have := congrArg (fun l => l[i]?) e
      simpa [hc, hcB] using this
  · refine .inl ?_
    obtain rfl : i = A.length := by omega
    have hc' : ¬ (((A.length : Nat) : Int) < ((A.length : Nat) : Int)) := by omega
    simp only [loopR_succ, ht]
    simp only [a0, a1, a5, hc', loopR_succ, loopOf, findLoop, firstRegion, Option.some_or, Option.none_or, Option.getD_some, Option.some.injEq, Try.f24, FT, Int.reduceEq, Int.reduceToNat, Int.reduceLE, Int.reduceLT, Int.reduceAdd, Int.reduceMul, Int.reduceSub, Int.reduceNeg, Nat.reduceAdd, Nat.reduceSub, Nat.reduceMul, Nat.reduceLT, Nat.reduceBEq, Nat.reduceEqDiff, Nat.reduceLeDiff]
    rw [List.take_of_length_le (by simp), List.take_of_length_le (by simp [hAB])] at hp
    exact ⟨_, .inl ⟨rfl, hp⟩⟩
theorem wSame_ev (k : Nat) (A B : List RI) (nl nl2 : Bool) (cap cap2 : Option Nat) (hA : A.length ≤ 1000) (hAl : ∀ x ∈ A, (nD x.v).length ≤ 20000) (hBl : ∀ x ∈ B, (nD x.v).length ≤ 20000) (hk : 50000 ≤ k) :
    run (k+3) 24 [sR A nl cap, sR B nl2 cap2] = some (bb (decide (A.map RI.v = B.map RI.v))) := by
  rw [run, ev24, ans_trim]
  by_cases hAB : A.length = B.length
  · have hABi : (A.length : Int) = B.length := by omega
    simp only [Try.f24, bb, hABi, FT, Int.reduceEq, Int.reduceToNat, Int.reduceLE, Int.reduceLT, Int.reduceAdd, Int.reduceMul, Int.reduceSub, Int.reduceNeg, Nat.reduceAdd, Nat.reduceSub, Nat.reduceMul, Nat.reduceLT, Nat.reduceBEq, Nat.reduceEqDiff, Nat.reduceLeDiff]
    rw [evalCode_loopB LB24_4 lp24_4]; rotate_left; rfl; rfl; rfl
    generalize hz : loopR _ _ _ _ _ _ _ _ _ _ _ _ = z
    obtain ⟨l', ⟨rfl, he⟩ | ⟨rfl, he, e4⟩⟩ := loop_wsame k A B nl nl2 cap cap2 hAB hA hAl hBl hk _ _ z hz (by omega) (by rfl) (by rfl) (by rfl)
    · clear hz
      simp only [he, decide_true, FT, Int.reduceEq, Int.reduceToNat, Int.reduceLE, Int.reduceLT, Int.reduceAdd, Int.reduceMul, Int.reduceSub, Int.reduceNeg, Nat.reduceAdd, Nat.reduceSub, Nat.reduceMul, Nat.reduceLT, Nat.reduceBEq, Nat.reduceEqDiff, Nat.reduceLeDiff]
    · clear hz
      simp only [he, decide_false, e4, FT, Int.reduceEq, Int.reduceToNat, Int.reduceLE, Int.reduceLT, Int.reduceAdd, Int.reduceMul, Int.reduceSub, Int.reduceNeg, Nat.reduceAdd, Nat.reduceSub, Nat.reduceMul, Nat.reduceLT, Nat.reduceBEq, Nat.reduceEqDiff, Nat.reduceLeDiff]
  · have hABi : ¬ (A.length : Int) = B.length := by omega
    have hne : ¬ A.map RI.v = B.map RI.v := fun e => hAB (by simpa using congrArg List.length e)
    simp only [Try.f24, bb, hABi, hne, decide_false, FT, Int.reduceEq, Int.reduceToNat, Int.reduceLE, Int.reduceLT, Int.reduceAdd, Int.reduceMul, Int.reduceSub, Int.reduceNeg, Nat.reduceAdd, Nat.reduceSub, Nat.reduceMul, Nat.reduceLT, Nat.reduceBEq, Nat.reduceEqDiff, Nat.reduceLeDiff]
end Go.Proofs.Sw
namespace Go.Proofs.Sw
open Go.Ab
variable [Globals]
theorem all_of {α : Type} {l : List α} {p : α → Bool} (h : ∀ j, (h : j < l.length) → p l[j] = true) : l.all p = true := by
  rw [List.all_eq_true]
  intro x hx
  obtain ⟨j, hj, rfl⟩ := List.getElem_of_mem hx
  exact h j hj
theorem all_not {α : Type} {l : List α} {p : α → Bool} {i : Nat} (h : i < l.length) (hp : p l[i] = false) : l.all p = false := by
  rw [List.all_eq_false]; exact ⟨l[i], List.getElem_mem h, by simp [hp]⟩
theorem loop_Check_10 (kf : Nat) (hkf : 4 ≤ kf) (ins regs : Int) (ov : IV) (code : List Ins) (nl : Bool) (cap : Option Nat) (hlen : code.length ≤ 4611686018427387904) (k : Nat) (l : Ass) (H : Heap) (z : Option Out)
    (hz : loopR Try.prog tab kf none LB62_10 62 72 [1, 58, 59, 60] 1 k l H = z) (hk : code.length < k)
    (h1 : asc l 1 = .ptr 0 0) (h58 : asc l 58 = sC code nl cap) (h59 : asc l 59 = ii code.length) (h60 : asc l 60 = ii (0 : Nat)) (hH : H = [cP ins regs (sC code nl cap) (.c ov)]) :
    ∃ l' H', (z = some (.exit 2 (fr 72 l') H') ∧ code.all (fun i => mayM i regs) = true) ∨
      (z = some (.ret (fr 72 l') H') ∧ (∃ n, asc l' 2 = ii n) ∧ asc l' 3 = ii 80 ∧ code.all (fun i => mayM i regs) = false) := by
  subst hz
  obtain ⟨kf, rfl⟩ : ∃ j, kf = j + 4 := ⟨kf - 4, by omega⟩
  refine loop_nat code.length (fun k l H => loopR Try.prog tab (kf + 4) none LB62_10 62 72 [1, 58, 59, 60] 1 k l H)
    (fun i l H => asc l 1 = .ptr 0 0 ∧ asc l 58 = sC code nl cap ∧ asc l 59 = ii code.length ∧ asc l 60 = ii i ∧ (∀ j, (h : j < i) → ∀ h2 : j < code.length, mayM code[j] regs = true) ∧ H.take 1 = [cP ins regs (sC code nl cap) (.c ov)])
    (fun z => ∃ l' H', (z = some (.exit 2 (fr 72 l') H') ∧ code.all (fun i => mayM i regs) = true) ∨
      (z = some (.ret (fr 72 l') H') ∧ (∃ n, asc l' 2 = ii n) ∧ asc l' 3 = ii 80 ∧ code.all (fun i => mayM i regs) = false)) ?_ code.length 0 k l H (by omega) hk ⟨h1, h58, h59, h60, fun j h => absurd h (by omega), by rw [hH]; rfl⟩
  clear h1 h58 h59 h60 hk hH
  rintro i k l H hi ⟨h1, h58, h59, h60, hp, hH⟩
  have ht : trim 1 (fr 72 (keep l [1, 58, 59, 60])) H = [cP ins regs (sC code nl cap) (.c ov)] := by
    rw [trim_fr (by simp only [h1, h58, h59, h60, EVb, EVc, Int.reduceEq, Int.reduceToNat, Int.reduceLE, Int.reduceLT, Int.reduceAdd, Int.reduceMul, Int.reduceSub, Int.reduceNeg, Nat.reduceAdd, Nat.reduceSub, Nat.reduceMul, Nat.reduceLT, Nat.reduceBEq, Nat.reduceEqDiff, Nat.reduceLeDiff]) (by rw [hH]; simp only [EVb, EVc, Int.reduceEq, Int.reduceToNat, Int.reduceLE, Int.reduceLT, Int.reduceAdd, Int.reduceMul, Int.reduceSub, Int.reduceNeg, Nat.reduceAdd, Nat.reduceSub, Nat.reduceMul, Nat.reduceLT, Nat.reduceBEq, Nat.reduceEqDiff, Nat.reduceLeDiff]), hH]
  by_cases hc : i < code.length
  · have hc' : ((i : Int) < code.length) := by omega
    have hc0 : (0 : Int) ≤ i := by omega
    have hx := encCode_get hc
    have hw := wrap_succ hc hlen
    obtain ⟨x, hX⟩ : ∃ x, x = code[i] := ⟨_, rfl⟩
    rw [← hX] at hx
    have hm := may_ev kf x.op x.to x.a x.b x.c regs
    simp only [run, aI, ii, bb] at hm
    cases hd : mayM x regs with
    | false =>
      rw [show mayM ⟨x.op, x.to, x.a, x.b, x.c⟩ regs = false from hd] at hm
      refine .inl ?_
      simp only [loopR_succ, ht]
      simp only [h1, h58, h59, h60, hc', hc0, hx, hm, loopR_succ, loopOf, findLoop, firstRegion, Option.some_or, Option.none_or, Option.getD_some, Option.some.injEq, Try.f62, FT, Int.reduceEq, Int.reduceToNat, Int.reduceLE, Int.reduceLT, Int.reduceAdd, Int.reduceMul, Int.reduceSub, Int.reduceNeg, Nat.reduceAdd, Nat.reduceSub, Nat.reduceMul, Nat.reduceLT, Nat.reduceBEq, Nat.reduceEqDiff, Nat.reduceLeDiff]
      exact ⟨_, _, .inr ⟨rfl, ⟨_, rfl⟩, (by rfl), all_not hc (by rw [← hX]; exact hd)⟩⟩
    | true =>
      rw [show mayM ⟨x.op, x.to, x.a, x.b, x.c⟩ regs = true from hd] at hm
      refine .inr ?_
      simp only [loopR_succ, ht]
      simp only [h1, h58, h59, h60, hc', hc0, hx, hm, hw, loopR_succ, loopOf, findLoop, firstRegion, Option.some_or, Option.none_or, Option.getD_some, Option.some.injEq, Try.f62, FT, Int.reduceEq, Int.reduceToNat, Int.reduceLE, Int.reduceLT, Int.reduceAdd, Int.reduceMul, Int.reduceSub, Int.reduceNeg, Nat.reduceAdd, Nat.reduceSub, Nat.reduceMul, Nat.reduceLT, Nat.reduceBEq, Nat.reduceEqDiff, Nat.reduceLeDiff]
      refine ⟨_, _, hc, rfl, (by rfl), (by rfl), (by rfl), (by rfl), fun j hj h2 => ?_, (by rfl)⟩
      by_cases e : j = i
      · subst e; rw [← hX]; exact hd
      · exact hp j (by omega) h2
  · have hc' : ¬ ((i : Int) < code.length) := by omega
    refine .inl ?_
    simp only [loopR_succ, ht]
    simp only [h1, h58, h59, h60, hc', loopR_succ, loopOf, findLoop, firstRegion, Option.some_or, Option.none_or, Option.getD_some, Option.some.injEq, Try.f62, FT, Int.reduceEq, Int.reduceToNat, Int.reduceLE, Int.reduceLT, Int.reduceAdd, Int.reduceMul, Int.reduceSub, Int.reduceNeg, Nat.reduceAdd, Nat.reduceSub, Nat.reduceMul, Nat.reduceLT, Nat.reduceBEq, Nat.reduceEqDiff, Nat.reduceLeDiff]
    exact ⟨_, _, .inl ⟨rfl, all_of fun j hj => hp j (by omega) hj⟩⟩
theorem check_ev (k : Nat) (p : Pg) (nl : Bool) (cap : Option Nat) (nl2 : Bool) (cap2 : Option Nat) (hk : p.outs.length + p.code.length + 10 ≤ k) :
    ∃ n, run (k+1) 62 [aP p nl cap nl2 cap2] = some (.tup [ii n, ii (checkE p)]) := by
  obtain ⟨ins, regs, code, outs⟩ := p
  simp only at hk
  rw [run, ev62, ans_trim]
  simp only [Try.f62, aP, ii, bb, EVb, condO_ite, Int.reduceEq, Int.reduceToNat, Int.reduceLE, Int.reduceLT, Int.reduceAdd, Int.reduceMul, Int.reduceSub, Int.reduceNeg, Nat.reduceAdd, Nat.reduceSub, Nat.reduceMul, Nat.reduceLT, Nat.reduceBEq, Nat.reduceEqDiff, Nat.reduceLeDiff, FACTS, TYPES]
  by_cases hm : headM ⟨ins, regs, code, outs⟩ = true
  · have hm' := hm
    simp only [headM, decide_eq_true_eq] at hm'
    have q1 : ¬ ins < 1 := by omega
    have q2 : ¬ regs < ins := by omega
    have q3 : ¬ 128 < regs := by omega
    have q4 : ¬ (16384 : Int) < code.length := by omega
    have q5 : ¬ (outs.length : Int) < 1 := by omega
    have q6 : ¬ (128 : Int) < outs.length := by omega
    simp only [q1, q2, q3, q4, q5, q6, FT, Int.reduceEq, Int.reduceToNat, Int.reduceLE, Int.reduceLT, Int.reduceAdd, Int.reduceMul, Int.reduceSub, Int.reduceNeg, Nat.reduceAdd, Nat.reduceSub, Nat.reduceMul, Nat.reduceLT, Nat.reduceBEq, Nat.reduceEqDiff, Nat.reduceLeDiff]
    rw [evalCode_loopB LB62_4 lp62_4]; rotate_left; rfl; rfl; rfl
    generalize hz : loopR _ _ _ _ _ _ _ _ _ _ _ _ = z
    obtain ⟨l1, ⟨rfl, g1, ho⟩ | ⟨rfl, g1, g2, ho⟩⟩ := loop_Check_4 k ins regs (sC code nl cap) (sI outs nl2 cap2) outs nl2 cap2 (by omega) _ _ _ z hz (by omega) (by rfl) (by rfl) (by rfl) (by rfl) (by rfl)
    · simp only [g1, FT, Int.reduceEq, Int.reduceToNat, Int.reduceLE, Int.reduceLT, Int.reduceAdd, Int.reduceMul, Int.reduceSub, Int.reduceNeg, Nat.reduceAdd, Nat.reduceSub, Nat.reduceMul, Nat.reduceLT, Nat.reduceBEq, Nat.reduceEqDiff, Nat.reduceLeDiff]
      clear hz
      rw [evalCode_loopB LB62_10 lp62_10]; rotate_left; rfl; rfl; rfl
      generalize hz : loopR _ _ _ _ _ _ _ _ _ _ _ _ = z
      obtain ⟨l2, H2, ⟨rfl, hc⟩ | ⟨rfl, ⟨n, g2⟩, g3, hc⟩⟩ := loop_Check_10 k (by omega) ins regs (.slice (encInts outs) outs.length nl2 cap2) code nl cap (by omega) _ _ _ z hz (by omega) (by exact g1) (by rfl) (by rfl) (by rfl) (by rfl)
      · refine ⟨0, ?_⟩
        simp only [FT, Int.reduceEq, Int.reduceToNat, Int.reduceLE, Int.reduceLT, Int.reduceAdd, Int.reduceMul, Int.reduceSub, Int.reduceNeg, Nat.reduceAdd, Nat.reduceSub, Nat.reduceMul, Nat.reduceLT, Nat.reduceBEq, Nat.reduceEqDiff, Nat.reduceLeDiff]
        simp [checkE, rightM, hm, show outsM ⟨ins, regs, code, outs⟩ = _ from ho, show codeM ⟨ins, regs, code, outs⟩ = _ from hc]
      · refine ⟨n, ?_⟩
        simp only [g2, g3, FT, Int.reduceEq, Int.reduceToNat, Int.reduceLE, Int.reduceLT, Int.reduceAdd, Int.reduceMul, Int.reduceSub, Int.reduceNeg, Nat.reduceAdd, Nat.reduceSub, Nat.reduceMul, Nat.reduceLT, Nat.reduceBEq, Nat.reduceEqDiff, Nat.reduceLeDiff]
        simp [checkE, rightM, hm, show outsM ⟨ins, regs, code, outs⟩ = _ from ho, show codeM ⟨ins, regs, code, outs⟩ = _ from hc]
    · refine ⟨-1, ?_⟩
      simp only [g1, g2, FT, Int.reduceEq, Int.reduceToNat, Int.reduceLE, Int.reduceLT, Int.reduceAdd, Int.reduceMul, Int.reduceSub, Int.reduceNeg, Nat.reduceAdd, Nat.reduceSub, Nat.reduceMul, Nat.reduceLT, Nat.reduceBEq, Nat.reduceEqDiff, Nat.reduceLeDiff]
      simp [checkE, rightM, hm, show outsM ⟨ins, regs, code, outs⟩ = _ from ho]
  · refine ⟨-1, ?_⟩
    have hr : checkE ⟨ins, regs, code, outs⟩ = 80 := by simp [checkE, rightM, hm]
    rw [hr]
    simp only [headM, decide_eq_true_eq] at hm
    repeat' (first
    | (rw [condO_dec]; split <;> simp only [*, FT, Int.reduceEq, Int.reduceToNat, Int.reduceLE, Int.reduceLT, Int.reduceAdd, Int.reduceMul, Int.reduceSub, Int.reduceNeg, Nat.reduceAdd, Nat.reduceSub, Nat.reduceMul, Nat.reduceLT, Nat.reduceBEq, Nat.reduceEqDiff, Nat.reduceLeDiff])
    | (rw [condO_ite]; split <;> simp only [*, FT, Int.reduceEq, Int.reduceToNat, Int.reduceLE, Int.reduceLT, Int.reduceAdd, Int.reduceMul, Int.reduceSub, Int.reduceNeg, Nat.reduceAdd, Nat.reduceSub, Nat.reduceMul, Nat.reduceLT, Nat.reduceBEq, Nat.reduceEqDiff, Nat.reduceLeDiff])
    | (split <;> simp only [*, FT, Int.reduceEq, Int.reduceToNat, Int.reduceLE, Int.reduceLT, Int.reduceAdd, Int.reduceMul, Int.reduceSub, Int.reduceNeg, Nat.reduceAdd, Nat.reduceSub, Nat.reduceMul, Nat.reduceLT, Nat.reduceBEq, Nat.reduceEqDiff, Nat.reduceLeDiff]))
    all_goals first
      | rfl
      | (exfalso; omega)
theorem right_ev (k : Nat) (p : Pg) (nl : Bool) (cap : Option Nat) (nl2 : Bool) (cap2 : Option Nat) (hk : p.outs.length + p.code.length + 11 ≤ k) :
    run (k+1) 85 [aP p nl cap nl2 cap2] = some (bb (rightM p)) := by
  obtain ⟨k, rfl⟩ : ∃ j, k = j + 1 := ⟨k - 1, by omega⟩
  obtain ⟨n, hc⟩ := check_ev k p nl cap nl2 cap2 (by omega)
  simp only [run, aP, ii, bb] at hc
  rw [run, ev85, ans_trim]
  simp only [Try.f85, aP, ii, bb, hc, FT, Int.reduceEq, Int.reduceToNat, Int.reduceLE, Int.reduceLT, Int.reduceAdd, Int.reduceMul, Int.reduceSub, Int.reduceNeg, Nat.reduceAdd, Nat.reduceSub, Nat.reduceMul, Nat.reduceLT, Nat.reduceBEq, Nat.reduceEqDiff, Nat.reduceLeDiff]
  cases hr : rightM p <;> simp [checkE, hr]
end Go.Proofs.Sw
namespace Go.Proofs.Sw
open Go.Ab
variable [Globals]
theorem encInts_getD {l : List Int} {r : Int} (h0 : 0 ≤ r) (h : r < l.length) : (encInts l)[r.toNat]? = some (.int .i64 (l.getD r.toNat 0)) := by
  have h2 : r.toNat < l.length := by omega
  simp [encInts, h2]
abbrev rI (l : List Int) : AObj := .row false 3 (encInts l)
abbrev hI (id n : Nat) : AV := .hsl id 0 n n 1
def startM (ins : Int) (n : Nat) : List Int := (List.range n).map fun (r : Nat) => if ins < (r : Int) then ins else (r : Int)
theorem startM_length (ins : Int) (n : Nat) : (startM ins n).length = n := by simp [startM]
theorem startM_succ (ins : Int) (n : Nat) : startM ins (n + 1) = startM ins n ++ [if ins < (n : Int) then ins else (n : Int)] := by
  simp [startM, List.range_succ]
theorem encInts_set {l : List Int} {r : Nat} {v : Int} : (encInts l).set r (.int .i64 v) = encInts (l.set r v) := by simp [encInts, List.map_set]
theorem mayM_facts {i : Ins} {regs : Int} (h : mayM i regs = true) : (1 ≤ i.op ∧ i.op ≤ 8) ∧ (0 ≤ i.to ∧ i.to < regs) ∧ (0 ≤ i.a ∧ i.a < regs) ∧ (i.op = 3 ∨ i.op = 4 → 0 ≤ i.b ∧ i.b < regs) := by
  simp only [mayM, Bool.and_eq_true, decide_eq_true_eq] at h
  obtain ⟨⟨⟨⟨m1, m2, m3, m4, m5⟩, _⟩, m6⟩, m7⟩ := h
  exact ⟨⟨m1, m2⟩, ⟨m3, m4⟩, m6, m7⟩
end Go.Proofs.Sw
