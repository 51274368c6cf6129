/- A part of the proof: what functions of the program answer; conditions stand in each theorem. -/
import Derived.Test.YtefdgfdahmaciaaVD
set_option linter.unusedVariables false
set_option linter.unusedSimpArgs false
set_option linter.unusedSectionVars false
namespace Go.Proofs.Sw
open Go.Ab
variable [Globals]
theorem encB_nat {l : List Bool} {i : Nat} (h : i < l.length) : (encB l)[i]? = some (.bool (l.getD i false)) := by
  simp [encB, h]
theorem encInts_same {l : List Int} {i : Nat} {v : Int} (h : i < l.length) : (encInts (l.set i v))[i]? = some (.int .i64 v) := by
  simp [encInts, h]
theorem apO_hI {l : List Int} {X : Heap} {cs : List IV} (h0 : 0 < l.length) (hb : l.length ≤ 1000000) :
    apO 3 1 8 (some 0) (hI 0 l.length) (rI l :: X) (some (cs, 1)) = some (hI 0 (l.length + 1), .row false 3 (encInts l ++ cs) :: X) := by
  have := lo_length (e := 3) (n := l.length) (sz := 1) (by_ := 8) (cells := encInts l) (cs := cs) (X := X) (Nat.le_trans (Nat.mul_le_mul_right 8 (show l.length + 1 ≤ 1000001 by omega)) (by decide)) (by decide) (by rw [encInts_length, Nat.mul_one])
  rw [lv_pos h0, lo_pos h0, lv_pos (by omega), lo_pos (by omega), Nat.mul_one, Nat.mul_one] at this
  exact this
set_option maxHeartbeats 8000000 in
theorem loop_lives17 (kf : Nat) (x0 x1 x2 x3 : IV) (y0 y1 y2 y3 y4 : IV) (n : Nat) (need : List Bool) (q0 : Lv) (code : List Ins) (hnd : need.length = code.length) (nl : Bool) (cap : Option Nat) (hq : LvOk q0 n code.length) (hu : q0.unt.length ≤ 1000) (hcode : ∀ i ∈ code, mayM i n = true) (hlen : code.length ≤ 20000) (k : Nat) (l : Ass) (z : Option Out) (hz : loopR Try.prog tab (kf + 1) none LB82_17 82 203 [1, 4, 6, 7, 8, 66, 67, 68] 8 k l ([rI (lvAt q0 need code 0).unt, .slot, rI (lvAt q0 need code 0).a, rI (lvAt q0 need code 0).b, rI (lvAt q0 need code 0).sets, .cells 25 [.c x0, .c x1, .c x2, .c x3], .cells 128 [.c y0, .c y1, .c y2, .c y3, .c y4, hI 2 code.length, hI 3 code.length, hI 4 code.length, .c (.slice [] 0 true (some 0)), hI 0 (lvAt q0 need code 0).unt.length], rI (lvAt q0 need code 0).held]) = z) (hk : code.length < k) (a1 : asc l 1 = .ptr 5 0) (a4 : asc l 4 = sB need false none) (a6 : asc l 6 = ii code.length) (a7 : asc l 7 = .ptr 6 0) (a8 : asc l 8 = hI 7 n) (a66 : asc l 66 = sC code nl cap) (a67 : asc l 67 = ii code.length) (a68 : asc l 68 = ii 0) :
    ∃ l', z = some (.exit 4 (fr 203 l') ([rI (lvAt q0 need code code.length).unt, .slot, rI (lvAt q0 need code code.length).a, rI (lvAt q0 need code code.length).b, rI (lvAt q0 need code code.length).sets, .cells 25 [.c x0, .c x1, .c x2, .c x3], .cells 128 [.c y0, .c y1, .c y2, .c y3, .c y4, hI 2 code.length, hI 3 code.length, hI 4 code.length, .c (.slice [] 0 true (some 0)), hI 0 (lvAt q0 need code code.length).unt.length], rI (lvAt q0 need code code.length).held])) ∧ asc l' 1 = .ptr 5 0 ∧ asc l' 4 = sB need false none ∧ asc l' 6 = ii code.length ∧ asc l' 7 = .ptr 6 0 ∧ asc l' 8 = hI 7 n ∧ asc l' 66 = sC code nl cap ∧ asc l' 67 = ii code.length ∧ asc l' 68 = ii code.length := by
  subst hz
  refine loop_nat code.length (fun k l H => loopR Try.prog tab (kf + 1) none LB82_17 82 203 [1, 4, 6, 7, 8, 66, 67, 68] 8 k l H)
    (fun i l H => asc l 1 = .ptr 5 0 ∧ asc l 4 = sB need false none ∧ asc l 6 = ii code.length ∧ asc l 7 = .ptr 6 0 ∧ asc l 8 = hI 7 n ∧ asc l 66 = sC code nl cap ∧ asc l 67 = ii code.length ∧ asc l 68 = ii i ∧ ∃ G, H = ([rI (lvAt q0 need code i).unt, .slot, rI (lvAt q0 need code i).a, rI (lvAt q0 need code i).b, rI (lvAt q0 need code i).sets, .cells 25 [.c x0, .c x1, .c x2, .c x3], .cells 128 [.c y0, .c y1, .c y2, .c y3, .c y4, hI 2 code.length, hI 3 code.length, hI 4 code.length, .c (.slice [] 0 true (some 0)), hI 0 (lvAt q0 need code i).unt.length], rI (lvAt q0 need code i).held]) ++ G)
    (fun z => ∃ l', z = some (.exit 4 (fr 203 l') ([rI (lvAt q0 need code code.length).unt, .slot, rI (lvAt q0 need code code.length).a, rI (lvAt q0 need code code.length).b, rI (lvAt q0 need code code.length).sets, .cells 25 [.c x0, .c x1, .c x2, .c x3], .cells 128 [.c y0, .c y1, .c y2, .c y3, .c y4, hI 2 code.length, hI 3 code.length, hI 4 code.length, .c (.slice [] 0 true (some 0)), hI 0 (lvAt q0 need code code.length).unt.length], rI (lvAt q0 need code code.length).held])) ∧ asc l' 1 = .ptr 5 0 ∧ asc l' 4 = sB need false none ∧ asc l' 6 = ii code.length ∧ asc l' 7 = .ptr 6 0 ∧ asc l' 8 = hI 7 n ∧ asc l' 66 = sC code nl cap ∧ asc l' 67 = ii code.length ∧ asc l' 68 = ii code.length) ?_ code.length 0 k l _ (by omega) hk ⟨a1, a4, a6, a7, a8, a66, a67, a68, [], by rw [List.append_nil]⟩
  clear hk a1 a4 a6 a7 a8 a66 a67 a68
  rintro i k l H hi ⟨a1, a4, a6, a7, a8, a66, a67, a68, G, rfl⟩
  have ht : trim 8 (fr 203 (keep l [1, 4, 6, 7, 8, 66, 67, 68])) (([rI (lvAt q0 need code i).unt, .slot, rI (lvAt q0 need code i).a, rI (lvAt q0 need code i).b, rI (lvAt q0 need code i).sets, .cells 25 [.c x0, .c x1, .c x2, .c x3], .cells 128 [.c y0, .c y1, .c y2, .c y3, .c y4, hI 2 code.length, hI 3 code.length, hI 4 code.length, .c (.slice [] 0 true (some 0)), hI 0 (lvAt q0 need code i).unt.length], rI (lvAt q0 need code i).held]) ++ G) = ([rI (lvAt q0 need code i).unt, .slot, rI (lvAt q0 need code i).a, rI (lvAt q0 need code i).b, rI (lvAt q0 need code i).sets, .cells 25 [.c x0, .c x1, .c x2, .c x3], .cells 128 [.c y0, .c y1, .c y2, .c y3, .c y4, hI 2 code.length, hI 3 code.length, hI 4 code.length, .c (.slice [] 0 true (some 0)), hI 0 (lvAt q0 need code i).unt.length], rI (lvAt q0 need code i).held]) := trim_app (by simp) (by simp only [a1, a4, a6, a7, a8, a66, a67, a68, EVb, EVc, Int.reduceEq, Int.reduceToNat, Int.reduceLE, Int.reduceLT, Int.reduceAdd, Int.reduceMul, Int.reduceSub, Int.reduceNeg, Nat.reduceAdd, Nat.reduceSub, Nat.reduceMul, Nat.reduceLT, Nat.reduceBEq, Nat.reduceEqDiff, Nat.reduceLeDiff]) (by simp only [EVb, EVc, Int.reduceEq, Int.reduceToNat, Int.reduceLE, Int.reduceLT, Int.reduceAdd, Int.reduceMul, Int.reduceSub, Int.reduceNeg, Nat.reduceAdd, Nat.reduceSub, Nat.reduceMul, Nat.reduceLT, Nat.reduceBEq, Nat.reduceEqDiff, Nat.reduceLeDiff])
  by_cases hc : i < code.length
  · have hc' : (i : Int) < ((code.length : Nat) : Int) := by omega
    have hc0 : (0 : Int) ≤ i := by omega
    have hw : IntKind.wrap .i64 ((i : Int) + 1) = ((i + 1 : Nat) : Int) := by rw [wrap64 (by omega) (by omega)]; omega
    have hx := encCode_get hc
    obtain ⟨x, hX⟩ : ∃ x, x = code[i] := ⟨_, rfl⟩
    have hm := mayM_facts (hcode x (by rw [hX]; exact List.getElem_mem hc))
    have hst : lvAt q0 need code (i + 1) = if need.getD i false = true then lvStep (lvAt q0 need code i) i x else lvAt q0 need code i := by rw [lvAt_succ hc, hX]
    rw [← hX] at hx
    obtain ⟨hok, hul2⟩ := lvAt_ok (need := need) (code := code) hq i
    obtain ⟨q, hQ⟩ : ∃ q, q = lvAt q0 need code i := ⟨_, rfl⟩
    rw [hst]
    rw [← hQ] at hok hul2 ht ⊢
    obtain ⟨⟨m1, m2⟩, ⟨m3, m4⟩, ⟨m5, m6⟩, m7⟩ := hm
    have hnb := encB_nat (l := need) (i := i) (by omega)
    have hnl : (encB need).length = code.length := by rw [encB_length, hnd]
    have hel : (encInts q.held).length = n := by rw [encInts_length, hok.held]
    have hal : q.a.length = code.length := hok.a
    have hbl : q.b.length = code.length := hok.b
    have hsl : q.sets.length = code.length := hok.sets
    have hhl : q.held.length = n := hok.held
    have hxa := encInts_getD m5 (show x.a < q.held.length by omega)
    obtain ⟨va, hva⟩ : ∃ va, va = q.held.getD x.a.toNat 0 := ⟨_, rfl⟩
    have hv := hok.vals va (by rw [hva]; exact getD_mem (by omega))
    obtain ⟨v0, v1⟩ := hv
    rw [← hva] at hxa
    have hv2 : va.toNat < q.unt.length := by omega
    have ht2 : x.to.toNat < n := by omega
    have hA := asks_ev (kf + 0) x.op x.to x.a x.b x.c
    simp only [run, aI, ii] at hA
    have g1 := encInts_same (l := q.a) (v := va) (show i < q.a.length by omega)
    have ic : (i : Int) < code.length := hc'
    cases hni : need.getD i false with
    | false =>
      rw [if_neg (by simp)]
      rw [hni] at hnb
      simp only [loopR_succ, ht]
      simp only [a1, a4, a6, a7, a8, a66, a67, a68, hc', hc0, hw, hx, hnb, hnl, hnd, loopR_succ, loopOf, findLoop, firstRegion, Option.some_or, Option.none_or, Option.getD_some, Option.some.injEq, Try.f82, FT, Int.reduceEq, Int.reduceToNat, Int.reduceLE, Int.reduceLT, Int.reduceAdd, Int.reduceMul, Int.reduceSub, Int.reduceNeg, Nat.reduceAdd, Nat.reduceSub, Nat.reduceMul, Nat.reduceLT, Nat.reduceBEq, Nat.reduceEqDiff, Nat.reduceLeDiff]
      refine .inr ⟨_, _, hc, rfl, (by rfl), (by rfl), (by rfl), (by rfl), (by rfl), (by rfl), (by rfl), (by rfl), ?_⟩
      exact ⟨_, by rfl⟩
    | true =>
      rw [if_pos rfl]
      rw [hni] at hnb
      simp only [loopR_succ, ht]
      simp only [a1, a4, a6, a7, a8, a66, a67, a68, hc', hc0, hw, hx, hnb, hnl, hnd, loopR_succ, loopOf, findLoop, firstRegion, Option.some_or, Option.none_or, Option.getD_some, Option.some.injEq, Try.f82, FT, Int.reduceEq, Int.reduceToNat, Int.reduceLE, Int.reduceLT, Int.reduceAdd, Int.reduceMul, Int.reduceSub, Int.reduceNeg, Nat.reduceAdd, Nat.reduceSub, Nat.reduceMul, Nat.reduceLT, Nat.reduceBEq, Nat.reduceEqDiff, Nat.reduceLeDiff]
      rw [evalCode_drawn Try.f82 20 dr82_20]; rotate_left; rfl
      simp only [a1, a4, a6, a7, a8, a66, a67, a68, hc', hc0, hw, hel, hxa, hx, m5, m6, hal, hbl, encInts_length, List.length_set, encInts_set, if_pos hc, EVd, List.getElem?_nil, Nat.reducePow, Nat.reduceDiv, Nat.reduceMod, FT, Int.reduceEq, Int.reduceToNat, Int.reduceLE, Int.reduceLT, Int.reduceAdd, Int.reduceMul, Int.reduceSub, Int.reduceNeg, Nat.reduceAdd, Nat.reduceSub, Nat.reduceMul, Nat.reduceLT, Nat.reduceBEq, Nat.reduceEqDiff, Nat.reduceLeDiff]
      by_cases h34 : x.op = 3 ∨ x.op = 4
      · obtain ⟨b0, b1⟩ := m7 h34
        have hxb := encInts_getD b0 (show x.b < q.held.length by omega)
        have hl2 : (asks ⟨x.op, x.to, x.a, x.b, x.c⟩).length = 2 := by rw [asks_two h34]; rfl
        have h12 : (1 : Int) < ((2 : Nat) : Int) := by decide
        have hlb : lvB q.held x = q.held.getD x.b.toNat 0 := if_pos h34
        obtain ⟨w, hw'⟩ : ∃ w, w = q.held.getD x.b.toNat 0 := ⟨_, rfl⟩
        obtain ⟨w0, w1⟩ := hok.vals w (by rw [hw']; exact getD_mem (by omega))
        rw [← hw'] at hxb hlb
        have hw2 : w.toNat < q.unt.length := by omega
        have g2 := encInts_same (l := q.b) (v := w) (show i < q.b.length by omega)
        have hap := fun X cs => apO_hI (l := (q.unt.set va.toNat i).set w.toNat i) (cs := cs) (X := X) (by simp only [List.length_set]; exact hok.pos) (by simp only [List.length_set]; omega)
        simp only [List.length_set] at hap
        have hul := encInts_length q.unt
        try simp only [a1, a4, a6, a7, a8, a66, a67, a68, hc', hc0, hw, hA, hl2, h12, FT, Int.reduceEq, Int.reduceToNat, Int.reduceLE, Int.reduceLT, Int.reduceAdd, Int.reduceMul, Int.reduceSub, Int.reduceNeg, Nat.reduceAdd, Nat.reduceSub, Nat.reduceMul, Nat.reduceLT, Nat.reduceBEq, Nat.reduceEqDiff, Nat.reduceLeDiff]
        rw [evalCode_drawn Try.f82 22 dr82_22]; rotate_left; rfl
        simp only [a1, a4, a6, a7, a8, a66, a67, a68, hc', hc0, hw, hel, hxb, b0, b1, hal, hbl, encInts_length, List.length_set, encInts_set, if_pos hc, List.set_set, EVd, List.getElem?_nil, Nat.reducePow, Nat.reduceDiv, Nat.reduceMod, FT, Int.reduceEq, Int.reduceToNat, Int.reduceLE, Int.reduceLT, Int.reduceAdd, Int.reduceMul, Int.reduceSub, Int.reduceNeg, Nat.reduceAdd, Nat.reduceSub, Nat.reduceMul, Nat.reduceLT, Nat.reduceBEq, Nat.reduceEqDiff, Nat.reduceLeDiff]
        rw [evalCode_drawn Try.f82 23 dr82_23]; rotate_left; rfl
        simp only [a1, a4, a6, a7, a8, a66, a67, a68, hc', hc0, hw, hv2, hw2, g1, g2, hal, hbl, hel, hul, encInts_length, List.length_set, v0, v1, w0, w1, encInts_set, if_pos hc, EVd, List.getElem?_nil, Nat.reducePow, Nat.reduceDiv, Nat.reduceMod, FT, Int.reduceEq, Int.reduceToNat, Int.reduceLE, Int.reduceLT, Int.reduceAdd, Int.reduceMul, Int.reduceSub, Int.reduceNeg, Nat.reduceAdd, Nat.reduceSub, Nat.reduceMul, Nat.reduceLT, Nat.reduceBEq, Nat.reduceEqDiff, Nat.reduceLeDiff]
        rw [evalCode_drawn Try.f82 24 dr82_24]; rotate_left; rfl
        simp only [a1, a4, a6, a7, a8, a66, a67, a68, hc', hc0, hw, ht2, hsl, hhl, hel, hul, encInts_length, List.length_set, m3, m4, ic, encInts_set, if_pos hc, EVd, List.getElem?_nil, Nat.reducePow, Nat.reduceDiv, Nat.reduceMod, FT, Int.reduceEq, Int.reduceToNat, Int.reduceLE, Int.reduceLT, Int.reduceAdd, Int.reduceMul, Int.reduceSub, Int.reduceNeg, Nat.reduceAdd, Nat.reduceSub, Nat.reduceMul, Nat.reduceLT, Nat.reduceBEq, Nat.reduceEqDiff, Nat.reduceLeDiff]
        try simp only [a1, a4, a6, a7, a8, a66, a67, a68, hc', hc0, hw, hap, hul, FT, Int.reduceEq, Int.reduceToNat, Int.reduceLE, Int.reduceLT, Int.reduceAdd, Int.reduceMul, Int.reduceSub, Int.reduceNeg, Nat.reduceAdd, Nat.reduceSub, Nat.reduceMul, Nat.reduceLT, Nat.reduceBEq, Nat.reduceEqDiff, Nat.reduceLeDiff]
        refine .inr ⟨_, _, hc, rfl, (by rfl), (by rfl), (by rfl), (by rfl), (by rfl), (by rfl), (by rfl), (by rfl), ?_⟩
        simp only [lvStep, rI, List.length_append, List.length_set, List.length_cons, List.length_nil, Nat.zero_add, encInts_append, hlb, ← hva]
        exact ⟨_, by rfl⟩
      · have hl1 : ¬ (1 : Int) < ((asks ⟨x.op, x.to, x.a, x.b, x.c⟩).length : Int) := by
          unfold asks
          rw [if_neg h34]
          split <;> simp
        have hlb : lvB q.held x = q.held.getD x.a.toNat 0 := if_neg h34
        rw [← hva] at hlb
        obtain ⟨w, hw'⟩ : ∃ w, w = va := ⟨_, rfl⟩
        have hw2 := hv2
        have w0 := v0
        have w1 := v1
        have g2 := encInts_same (l := q.b) (v := va) (show i < q.b.length by omega)
        have hap := fun X cs => apO_hI (l := (q.unt.set va.toNat i).set va.toNat i) (cs := cs) (X := X) (by simp only [List.length_set]; exact hok.pos) (by simp only [List.length_set]; omega)
        simp only [List.length_set] at hap
        have hul := encInts_length q.unt
        try simp only [a1, a4, a6, a7, a8, a66, a67, a68, hc', hc0, hw, hA, hl1, FT, Int.reduceEq, Int.reduceToNat, Int.reduceLE, Int.reduceLT, Int.reduceAdd, Int.reduceMul, Int.reduceSub, Int.reduceNeg, Nat.reduceAdd, Nat.reduceSub, Nat.reduceMul, Nat.reduceLT, Nat.reduceBEq, Nat.reduceEqDiff, Nat.reduceLeDiff]
        rw [evalCode_drawn Try.f82 23 dr82_23]; rotate_left; rfl
        simp only [a1, a4, a6, a7, a8, a66, a67, a68, hc', hc0, hw, hv2, hw2, g1, g2, hal, hbl, hel, hul, encInts_length, List.length_set, v0, v1, w0, w1, encInts_set, if_pos hc, EVd, List.getElem?_nil, Nat.reducePow, Nat.reduceDiv, Nat.reduceMod, FT, Int.reduceEq, Int.reduceToNat, Int.reduceLE, Int.reduceLT, Int.reduceAdd, Int.reduceMul, Int.reduceSub, Int.reduceNeg, Nat.reduceAdd, Nat.reduceSub, Nat.reduceMul, Nat.reduceLT, Nat.reduceBEq, Nat.reduceEqDiff, Nat.reduceLeDiff]
        rw [evalCode_drawn Try.f82 24 dr82_24]; rotate_left; rfl
        simp only [a1, a4, a6, a7, a8, a66, a67, a68, hc', hc0, hw, ht2, hsl, hhl, hel, hul, encInts_length, List.length_set, m3, m4, ic, encInts_set, if_pos hc, EVd, List.getElem?_nil, Nat.reducePow, Nat.reduceDiv, Nat.reduceMod, FT, Int.reduceEq, Int.reduceToNat, Int.reduceLE, Int.reduceLT, Int.reduceAdd, Int.reduceMul, Int.reduceSub, Int.reduceNeg, Nat.reduceAdd, Nat.reduceSub, Nat.reduceMul, Nat.reduceLT, Nat.reduceBEq, Nat.reduceEqDiff, Nat.reduceLeDiff]
        try simp only [a1, a4, a6, a7, a8, a66, a67, a68, hc', hc0, hw, hap, hul, FT, Int.reduceEq, Int.reduceToNat, Int.reduceLE, Int.reduceLT, Int.reduceAdd, Int.reduceMul, Int.reduceSub, Int.reduceNeg, Nat.reduceAdd, Nat.reduceSub, Nat.reduceMul, Nat.reduceLT, Nat.reduceBEq, Nat.reduceEqDiff, Nat.reduceLeDiff]
        refine .inr ⟨_, _, hc, rfl, (by rfl), (by rfl), (by rfl), (by rfl), (by rfl), (by rfl), (by rfl), (by rfl), ?_⟩
        simp only [lvStep, rI, List.length_append, List.length_set, List.length_cons, List.length_nil, Nat.zero_add, encInts_append, hlb, ← hva]
        exact ⟨_, by rfl⟩
  · refine .inl ?_
    obtain rfl : i = code.length := by omega
    have hc' : ¬ (((code.length : Nat) : Int) < ((code.length : Nat) : Int)) := by omega
    simp only [loopR_succ, ht]
    simp only [a1, a4, a6, a7, a8, a66, a67, a68, hc', loopR_succ, loopOf, findLoop, firstRegion, Option.some_or, Option.none_or, Option.getD_some, Option.some.injEq, Try.f82, FT, Int.reduceEq, Int.reduceToNat, Int.reduceLE, Int.reduceLT, Int.reduceAdd, Int.reduceMul, Int.reduceSub, Int.reduceNeg, Nat.reduceAdd, Nat.reduceSub, Nat.reduceMul, Nat.reduceLT, Nat.reduceBEq, Nat.reduceEqDiff, Nat.reduceLeDiff]
    exact ⟨_, rfl, (by rfl), (by rfl), (by rfl), (by rfl), (by rfl), (by rfl), (by rfl), (by rfl)⟩
end Go.Proofs.Sw
namespace Go.Proofs.Sw
open Go.Ab
variable [Globals]
theorem loop_Needed_6 (kf : Nat) (pc r1 c1 : AObj) (n : Nat) (outs : List Int) (nl : Bool) (cap : Option Nat) (hlen : outs.length ≤ 4611686018427387904) (hr : ∀ r ∈ outs, 0 ≤ r ∧ r < n) (as0 : List Bool) (ha0 : as0.length = n)
    (k : Nat) (l : Ass) (H : Heap) (z : Option Out) (hz : loopR Try.prog tab kf none LB46_6 46 62 [1, 4, 5, 23, 24, 25] 5 k l H = z) (hk : outs.length < k)
    (h1 : asc l 1 = .ptr 0 0) (h4 : asc l 4 = .ptr 2 0) (h5 : asc l 5 = .ptr 4 0) (h23 : asc l 23 = sI outs nl cap) (h24 : asc l 24 = ii outs.length) (h25 : asc l 25 = ii (0 : Nat)) (hH : H = [pc, r1, c1, rB as0, .cells 64 [.hsl 3 0 n n 1]]) :
    z = some (.exit 0 (fr 62 [(26, bb false), (1, .ptr 0 0), (4, .ptr 2 0), (5, .ptr 4 0), (23, sI outs nl cap), (24, ii outs.length), (25, ii outs.length)]) [pc, r1, c1, rB (mark as0 true outs), .cells 64 [.hsl 3 0 n n 1]]) := by
  subst hH
  subst hz
  refine loop_nat outs.length (fun k l H => loopR Try.prog tab kf none LB46_6 46 62 [1, 4, 5, 23, 24, 25] 5 k l H)
    (fun i l H => asc l 1 = .ptr 0 0 ∧ asc l 4 = .ptr 2 0 ∧ asc l 5 = .ptr 4 0 ∧ asc l 23 = sI outs nl cap ∧ asc l 24 = ii outs.length ∧ asc l 25 = ii i ∧ H = [pc, r1, c1, rB (mark as0 true (outs.take i)), .cells 64 [.hsl 3 0 n n 1]])
    (fun z => z = some (.exit 0 (fr 62 [(26, bb false), (1, .ptr 0 0), (4, .ptr 2 0), (5, .ptr 4 0), (23, sI outs nl cap), (24, ii outs.length), (25, ii outs.length)]) [pc, r1, c1, rB (mark as0 true outs), .cells 64 [.hsl 3 0 n n 1]])) ?_ outs.length 0 k l _ (by omega) hk ⟨h1, h4, h5, h23, h24, h25, rfl⟩
  clear h1 h4 h5 h23 h24 h25 hk
  rintro i k l H hi ⟨h1, h4, h5, h23, h24, h25, rfl⟩
  have ht : ∀ q : List Bool, trim 5 (fr 62 (keep l [1, 4, 5, 23, 24, 25])) [pc, r1, c1, rB q, .cells 64 [.hsl 3 0 n n 1]] = [pc, r1, c1, rB q, .cells 64 [.hsl 3 0 n n 1]] := fun q => trim_same rfl
  by_cases hc : i < outs.length
  · refine .inr ?_
    have hc' : ((i : Int) < outs.length) := by omega
    have hc0 : (0 : Int) ≤ i := by omega
    have hx := encInts_get hc
    have hw := wrap_succ hc hlen
    obtain ⟨x, hX⟩ : ∃ x, x = outs[i] := ⟨_, rfl⟩
    rw [← hX] at hx
    obtain ⟨x0, x1⟩ := hr x (by rw [hX]; exact List.getElem_mem hc)
    have hm : (mark as0 true (outs.take i)).length = n := by rw [mark_length]; exact ha0
    have hnx : mark as0 true (outs.take (i + 1)) = (mark as0 true (outs.take i)).set x.toNat true := by rw [List.take_succ_eq_append_getElem hc, mark_snoc, ← hX]
    have hxl : x.toNat < n := by omega
    have hel : (encB (mark as0 true (outs.take i))).length = n := by rw [encB_length, hm]
    simp only [loopR_succ, ht]
    simp only [h1, h4, h5, h23, h24, h25, hc', hc0, hx, hw, x0, x1, hel, hxl, encB_set, loopR_succ, loopOf, findLoop, firstRegion, Option.some_or, Option.none_or, Option.getD_some, Option.some.injEq, Try.f46, FT, Int.reduceEq, Int.reduceToNat, Int.reduceLE, Int.reduceLT, Int.reduceAdd, Int.reduceMul, Int.reduceSub, Int.reduceNeg, Nat.reduceAdd, Nat.reduceSub, Nat.reduceMul, Nat.reduceLT, Nat.reduceBEq, Nat.reduceEqDiff, Nat.reduceLeDiff]
    exact ⟨_, _, hc, rfl, (by rfl), (by rfl), (by rfl), (by rfl), (by rfl), (by rfl), by rw [hnx]⟩
  · refine .inl ?_
    have hc' : ¬ ((i : Int) < outs.length) := by omega
    have he : outs.take i = outs := List.take_of_length_le (by omega)
    obtain rfl : i = outs.length := by omega
    simp only [loopR_succ, ht]
    simp only [h1, h4, h5, h23, h24, h25, hc', he, loopR_succ, loopOf, findLoop, firstRegion, Option.some_or, Option.none_or, Option.getD_some, Option.some.injEq, Try.f46, FT, Int.reduceEq, Int.reduceToNat, Int.reduceLE, Int.reduceLT, Int.reduceAdd, Int.reduceMul, Int.reduceSub, Int.reduceNeg, Nat.reduceAdd, Nat.reduceSub, Nat.reduceMul, Nat.reduceLT, Nat.reduceBEq, Nat.reduceEqDiff, Nat.reduceLeDiff]
theorem loop_Needed_16 (kf : Nat) (ar : Option Nat) (pc r1 c1 : AObj) (X : Heap) (n : Nat) (rs : List Int) (nl : Bool) (cap : Option Nat) (hlen : rs.length ≤ 4611686018427387904) (hr : ∀ r ∈ rs, 0 ≤ r ∧ r < n) (as0 : List Bool) (ha0 : as0.length = n)
    (k : Nat) (l : Ass) (m : Nat) (z : Option Out) (hz : loopR Try.prog tab kf ar LB46_16 46 62 [5, 51, 52, 53] m k l (pc :: r1 :: c1 :: rB as0 :: .cells 64 [.hsl 3 0 n n 1] :: X) = z) (hm : X.length + 5 = m) (hk : rs.length < k)
    (h5 : asc l 5 = .ptr 4 0) (h51 : asc l 51 = sI rs nl cap) (h52 : asc l 52 = ii rs.length) (h53 : asc l 53 = ii (0 : Nat)) :
    z = some (.exit 4 (fr 62 [(54, bb false), (5, .ptr 4 0), (51, sI rs nl cap), (52, ii rs.length), (53, ii rs.length)]) (pc :: r1 :: c1 :: rB (mark as0 true rs) :: .cells 64 [.hsl 3 0 n n 1] :: X)) := by
  subst hz
  refine loop_nat rs.length (fun k l H => loopR Try.prog tab kf ar LB46_16 46 62 [5, 51, 52, 53] m k l H)
    (fun i l H => asc l 5 = .ptr 4 0 ∧ asc l 51 = sI rs nl cap ∧ asc l 52 = ii rs.length ∧ asc l 53 = ii i ∧ H = pc :: r1 :: c1 :: rB (mark as0 true (rs.take i)) :: .cells 64 [.hsl 3 0 n n 1] :: X)
    (fun z => z = some (.exit 4 (fr 62 [(54, bb false), (5, .ptr 4 0), (51, sI rs nl cap), (52, ii rs.length), (53, ii rs.length)]) (pc :: r1 :: c1 :: rB (mark as0 true rs) :: .cells 64 [.hsl 3 0 n n 1] :: X))) ?_ rs.length 0 k l _ (by omega) hk ⟨h5, h51, h52, h53, rfl⟩
  clear h5 h51 h52 h53 hk
  rintro i k l H hi ⟨h5, h51, h52, h53, rfl⟩
  have ht : ∀ q : List Bool, trim m (fr 62 (keep l [5, 51, 52, 53])) (pc :: r1 :: c1 :: rB q :: .cells 64 [.hsl 3 0 n n 1] :: X) = pc :: r1 :: c1 :: rB q :: .cells 64 [.hsl 3 0 n n 1] :: X := fun q => trim_same (by simp; omega)
  by_cases hc : i < rs.length
  · refine .inr ?_
    have hc' : ((i : Int) < rs.length) := by omega
    have hc0 : (0 : Int) ≤ i := by omega
    have hx := encInts_get hc
    have hw := wrap_succ hc hlen
    obtain ⟨x, hX⟩ : ∃ x, x = rs[i] := ⟨_, rfl⟩
    rw [← hX] at hx
    obtain ⟨x0, x1⟩ := hr x (by rw [hX]; exact List.getElem_mem hc)
    have hm : (mark as0 true (rs.take i)).length = n := by rw [mark_length]; exact ha0
    have hnx : mark as0 true (rs.take (i + 1)) = (mark as0 true (rs.take i)).set x.toNat true := by rw [List.take_succ_eq_append_getElem hc, mark_snoc, ← hX]
    have hxl : x.toNat < n := by omega
    have hel : (encB (mark as0 true (rs.take i))).length = n := by rw [encB_length, hm]
    simp only [loopR_succ, ht]
    simp only [h5, h51, h52, h53, hc', hc0, hx, hw, x0, x1, hel, hxl, encB_set, loopR_succ, loopOf, findLoop, firstRegion, Option.some_or, Option.none_or, Option.getD_some, Option.some.injEq, Try.f46, FT, Int.reduceEq, Int.reduceToNat, Int.reduceLE, Int.reduceLT, Int.reduceAdd, Int.reduceMul, Int.reduceSub, Int.reduceNeg, Nat.reduceAdd, Nat.reduceSub, Nat.reduceMul, Nat.reduceLT, Nat.reduceBEq, Nat.reduceEqDiff, Nat.reduceLeDiff]
    exact ⟨_, _, hc, rfl, (by rfl), (by rfl), (by rfl), (by rfl), by rw [hnx]⟩
  · refine .inl ?_
    have hc' : ¬ ((i : Int) < rs.length) := by omega
    have he : rs.take i = rs := List.take_of_length_le (by omega)
    obtain rfl : i = rs.length := by omega
    simp only [loopR_succ, ht]
    simp only [h5, h51, h52, h53, hc', he, loopR_succ, loopOf, findLoop, firstRegion, Option.some_or, Option.none_or, Option.getD_some, Option.some.injEq, Try.f46, FT, Int.reduceEq, Int.reduceToNat, Int.reduceLE, Int.reduceLT, Int.reduceAdd, Int.reduceMul, Int.reduceSub, Int.reduceNeg, Nat.reduceAdd, Nat.reduceSub, Nat.reduceMul, Nat.reduceLT, Nat.reduceBEq, Nat.reduceEqDiff, Nat.reduceLeDiff]
noncomputable abbrev hM (x0 x1 x2 x3 : IV) (n N : Nat) (cs : IV) (l0 l1 : Ass) (aq out : List Bool) : Heap :=
  [.cells 25 [.c x0, .c x1, .c x2, .c x3], rB out, .cells 64 [.hsl 1 0 N N 1], rB aq, .cells 64 [.hsl 3 0 n n 1], .cells 25 [.c x0, .c x1, .c x2, .c x3],
   rfObj #[35, 36] RA46_11 RB46_11 46 .ready none (fr 62 l0), .cells 163 [.yld 6], .cells 22 [.c cs], rfObj #[11, 12] RA110_3 RB110_3 110 .ready none (fr 18 l1)]
theorem loop_Needed_B (kf : Nat) (x0 x1 x2 x3 : IV) (n : Nat) (code : List Ins) (nl : Bool) (cap : Option Nat) (l0 l1 : Ass) (c0 : (l0.all fun e => AV.under 10 e.2) = true) (c1 : (l1.all fun e => AV.under 10 e.2) = true)
    (g3 : asc l0 4 = .ptr 2 0) (g6 : asc l0 5 = .ptr 4 0) (g2 : asc l1 2 = .ptr 7 0) (as0 : List Bool) (ha0 : as0.length = n) (hcode : ∀ i ∈ code, mayM i n = true) (hlen : code.length ≤ 1000000)
    (k : Nat) (l : Ass) (z : Option Out) (hz : loopR Try.prog tab (kf + 10) none LB128_1 128 19 [0, 1, 3] 10 k l (hM x0 x1 x2 x3 n code.length (.slice (encCode code) code.length nl cap) l0 l1 as0 (List.replicate code.length false)) = z) (hk : code.length < k)
    (a0 : asc l 0 = .yld 9) (a1 : asc l 1 = .ptr 8 0) (a3 : asc l 3 = ii ((code.length : Int) - 1)) :
    ∃ l', z = some (.exit 0 (fr 19 l') (hM x0 x1 x2 x3 n code.length (.slice (encCode code) code.length nl cap) l0 l1 (needL as0 code).1 (needL as0 code).2)) := by
  subst hz
  refine loop_nat code.length (fun k l H => loopR Try.prog tab (kf + 10) none LB128_1 128 19 [0, 1, 3] 10 k l H)
    (fun j l H => asc l 0 = .yld 9 ∧ asc l 1 = .ptr 8 0 ∧ asc l 3 = ii ((code.length : Int) - j - 1) ∧
      H.take 10 = hM x0 x1 x2 x3 n code.length (.slice (encCode code) code.length nl cap) l0 l1 (needL as0 (code.drop (code.length - j))).1 (List.replicate (code.length - j) false ++ (needL as0 (code.drop (code.length - j))).2))
    (fun z => ∃ l', z = some (.exit 0 (fr 19 l') (hM x0 x1 x2 x3 n code.length (.slice (encCode code) code.length nl cap) l0 l1 (needL as0 code).1 (needL as0 code).2))) ?_ code.length 0 k l _ (by omega) hk
    ⟨a0, a1, by rw [a3]; simp, by simp [needL]⟩
  clear a0 a1 a3 hk
  rintro j k l H hj ⟨a0, a1, a3, hH⟩
  have ht : trim 10 (fr 19 (keep l [0, 1, 3])) H = hM x0 x1 x2 x3 n code.length (.slice (encCode code) code.length nl cap) l0 l1 (needL as0 (code.drop (code.length - j))).1 (List.replicate (code.length - j) false ++ (needL as0 (code.drop (code.length - j))).2) := by
    rw [trim_fr (by simp only [a0, a1, a3, EVb, EVc, Int.reduceEq, Int.reduceToNat, Int.reduceLE, Int.reduceLT, Int.reduceAdd, Int.reduceMul, Int.reduceSub, Int.reduceNeg, Nat.reduceAdd, Nat.reduceSub, Nat.reduceMul, Nat.reduceLT, Nat.reduceBEq, Nat.reduceEqDiff, Nat.reduceLeDiff]) (by rw [hH]; simp only [c0, c1, EVb, EVc, Int.reduceEq, Int.reduceToNat, Int.reduceLE, Int.reduceLT, Int.reduceAdd, Int.reduceMul, Int.reduceSub, Int.reduceNeg, Nat.reduceAdd, Nat.reduceSub, Nat.reduceMul, Nat.reduceLT, Nat.reduceBEq, Nat.reduceEqDiff, Nat.reduceLeDiff]), hH]
  by_cases hc : j < code.length
  · refine .inr ?_
    obtain ⟨i, hi⟩ : ∃ i, i + 1 = code.length - j := ⟨code.length - j - 1, by omega⟩
    rw [← hi] at ht
    have hil : i < code.length := by omega
    obtain ⟨x, hX⟩ : ∃ x, x = code[i] := ⟨_, rfl⟩
    have hd : code.drop i = x :: code.drop (i + 1) := by rw [hX]; exact List.drop_eq_getElem_cons hil
    have hx := encCode_get hil
    rw [← hX] at hx
    have a3' : asc l 3 = ii (i : Int) := by rw [a3]; congr 2; omega
    have hi0 : (0 : Int) ≤ i := by omega
    have hi1 : (i : Int) < code.length := by omega
    have hi2 : i < code.length := by omega
    have hw : IntKind.wrap .i64 ((i : Int) - 1) = (code.length : Int) - (j + 1 : Nat) - 1 := by rw [wrap64 (by omega) (by omega)]; omega
    have hm := hcode x (by rw [hX]; exact List.getElem_mem hil)
    obtain ⟨aq, haq⟩ : ∃ aq, aq = (needL as0 (code.drop (i + 1))).1 := ⟨_, rfl⟩
    obtain ⟨fl, hfl⟩ : ∃ fl, fl = (needL as0 (code.drop (i + 1))).2 := ⟨_, rfl⟩
    have hdd : code.drop (code.length - j) = code.drop (i + 1) := by rw [hi]
    rw [hi] at ht
    rw [hdd, ← hi, ← haq, ← hfl] at ht
    have haql : aq.length = n := by rw [haq, (needL_length _ _).1]; exact ha0
    have hfll : fl.length + (i + 1) = code.length := by rw [hfl, (needL_length _ _).2]; simp; omega
    have hel : (encB aq).length = n := by rw [encB_length, haql]
    have hol : (encB (List.replicate (i + 1) false ++ fl)).length = code.length := by rw [encB_length]; simp; omega
    have hm' := hm
    simp only [mayM, Bool.and_eq_true, decide_eq_true_eq] at hm'
    obtain ⟨⟨⟨⟨m1, m2, m3, m4, m5⟩, _⟩, m6⟩, m7⟩ := hm'
    have ht2 : x.to.toNat < n := by omega
    have hget := encB_get (l := aq) m3 (by rw [haql]; exact m4)
    have hnx : code.drop (code.length - (j + 1)) = x :: code.drop (i + 1) := by rw [← hd]; congr 1; omega
    have hii : code.length - (j + 1) = i := by omega
    have hran : ∀ r ∈ asks x, 0 ≤ r ∧ r < (n : Int) := by
      intro r hr
      unfold asks at hr
      split at hr
      · rename_i h34
        simp only [List.mem_cons, List.not_mem_nil, or_false] at hr
        rcases hr with rfl | rfl
        · exact m6
        · exact m7 h34
      · split at hr
        · simp only [List.mem_cons, List.not_mem_nil, or_false] at hr
          subst hr
          exact m6
        · cases hr
    cases hq : aq.getD x.to.toNat false with
    | false =>
      rw [hq] at hget
      have hnew : (needL as0 (x :: code.drop (i + 1))) = (aq, false :: fl) := by
        simp only [needL, ← haq, ← hfl, hq]
        rfl
      simp only [loopR_succ, ht]
      simp only [a0, a1, a3', hi0, hi1, hx, hw, g3, g6, g2, evalT_round, roundA_rf, hel, m3, m4, hget, rfAs, rfBd, rfOf, findRF, firstRegion, Option.some_or, Option.none_or, Option.getD_some, Option.some.injEq, findLoop, loopOf, loopR_succ, loopOf, findLoop, firstRegion, Option.some_or, Option.none_or, Option.getD_some, Option.some.injEq, Try.f128, Try.f110, Try.f46, FT, Int.reduceEq, Int.reduceToNat, Int.reduceLE, Int.reduceLT, Int.reduceAdd, Int.reduceMul, Int.reduceSub, Int.reduceNeg, Nat.reduceAdd, Nat.reduceSub, Nat.reduceMul, Nat.reduceLT, Nat.reduceBEq, Nat.reduceEqDiff, Nat.reduceLeDiff]
      refine ⟨_, _, hc, rfl, (by rfl), (by rfl), (by rfl), ?_⟩
      rw [hnx, hnew, hii, ← rep_keep]
      rfl
    | true =>
      rw [hq] at hget
      have hnew : (needL as0 (x :: code.drop (i + 1))) = (mark (aq.set x.to.toNat false) true (asks x), true :: fl) := by
        simp only [needL, ← haq, ← hfl, hq]
        rfl
      have hA := asks_ev (kf + 7) x.op x.to x.a x.b x.c
      simp only [run, aI, ii, sI] at hA
      have hal : (asks x).length ≤ 2 := by unfold asks; split <;> (try split) <;> simp
      simp only [loopR_succ, ht]
      simp only [a0, a1, a3', hi0, hi1, hi2, hx, hw, g3, g6, g2, evalT_round, roundA_rf, hel, hol, ht2, m3, m4, hget, hA, encB_set, rep_set, rfAs, rfBd, rfOf, findRF, firstRegion, Option.some_or, Option.none_or, Option.getD_some, Option.some.injEq, findLoop, loopOf, loopR_succ, loopOf, findLoop, firstRegion, Option.some_or, Option.none_or, Option.getD_some, Option.some.injEq, Try.f128, Try.f110, Try.f46, FT, Int.reduceEq, Int.reduceToNat, Int.reduceLE, Int.reduceLT, Int.reduceAdd, Int.reduceMul, Int.reduceSub, Int.reduceNeg, Nat.reduceAdd, Nat.reduceSub, Nat.reduceMul, Nat.reduceLT, Nat.reduceBEq, Nat.reduceEqDiff, Nat.reduceLeDiff]
      rw [evalCode_drawn Try.f46 14 dr46_14]; rotate_left; rfl
      simp only [a0, a1, a3', hi0, hi1, hi2, hx, hw, g3, g6, g2, evalT_round, roundA_rf, hel, hol, ht2, m3, m4, hget, hA, encB_set, rep_set, EVd, List.getElem?_nil, Nat.reducePow, Nat.reduceDiv, Nat.reduceMod, rfAs, rfBd, rfOf, findRF, firstRegion, Option.some_or, Option.none_or, Option.getD_some, Option.some.injEq, findLoop, loopOf, loopR_succ, loopOf, findLoop, firstRegion, Option.some_or, Option.none_or, Option.getD_some, Option.some.injEq, Try.f128, Try.f110, Try.f46, FT, Int.reduceEq, Int.reduceToNat, Int.reduceLE, Int.reduceLT, Int.reduceAdd, Int.reduceMul, Int.reduceSub, Int.reduceNeg, Nat.reduceAdd, Nat.reduceSub, Nat.reduceMul, Nat.reduceLT, Nat.reduceBEq, Nat.reduceEqDiff, Nat.reduceLeDiff]
      rw [evalCode_loopB LB46_16 lp46_16]; rotate_left; rfl; rfl; rfl
      generalize hz : loopR _ _ _ _ _ _ _ _ _ _ _ _ = z
      have h15 := loop_Needed_16 (kf + 8) (some 6) _ _ _ _ n (asks x) (nlE (asks x)) (cpE (asks x)) (by omega) hran (aq.set x.to.toNat false) (by simp [haql]) _ _ _ z hz (by rfl) (by omega) (by simp only [g6, EVb, EVc, Int.reduceEq, Int.reduceToNat, Int.reduceLE, Int.reduceLT, Int.reduceAdd, Int.reduceMul, Int.reduceSub, Int.reduceNeg, Nat.reduceAdd, Nat.reduceSub, Nat.reduceMul, Nat.reduceLT, Nat.reduceBEq, Nat.reduceEqDiff, Nat.reduceLeDiff]) (by simp only [EVb, EVc, Int.reduceEq, Int.reduceToNat, Int.reduceLE, Int.reduceLT, Int.reduceAdd, Int.reduceMul, Int.reduceSub, Int.reduceNeg, Nat.reduceAdd, Nat.reduceSub, Nat.reduceMul, Nat.reduceLT, Nat.reduceBEq, Nat.reduceEqDiff, Nat.reduceLeDiff]) (by simp only [EVb, EVc, Int.reduceEq, Int.reduceToNat, Int.reduceLE, Int.reduceLT, Int.reduceAdd, Int.reduceMul, Int.reduceSub, Int.reduceNeg, Nat.reduceAdd, Nat.reduceSub, Nat.reduceMul, Nat.reduceLT, Nat.reduceBEq, Nat.reduceEqDiff, Nat.reduceLeDiff]) (by simp only [EVb, EVc, Int.reduceEq, Int.reduceToNat, Int.reduceLE, Int.reduceLT, Int.reduceAdd, Int.reduceMul, Int.reduceSub, Int.reduceNeg, Nat.reduceAdd, Nat.reduceSub, Nat.reduceMul, Nat.reduceLT, Nat.reduceBEq, Nat.reduceEqDiff, Nat.reduceLeDiff])
      rw [h15]
      simp only [EVb, EVc, Int.reduceEq, Int.reduceToNat, Int.reduceLE, Int.reduceLT, Int.reduceAdd, Int.reduceMul, Int.reduceSub, Int.reduceNeg, Nat.reduceAdd, Nat.reduceSub, Nat.reduceMul, Nat.reduceLT, Nat.reduceBEq, Nat.reduceEqDiff, Nat.reduceLeDiff]
      refine ⟨_, _, hc, rfl, (by rfl), (by rfl), (by rw [← hw]; rfl), ?_⟩
      rw [hnx, hnew, hii]
      dsimp only
      rw [← rep_set]
      rfl
  · refine .inl ?_
    obtain rfl : j = code.length := by omega
    have hc' : ¬ ((0 : Int) ≤ (code.length : Int) - code.length - 1) := by omega
    simp only [Nat.sub_self, List.drop_zero, List.replicate_zero, List.nil_append] at ht
    simp only [loopR_succ, ht]
    simp only [a0, a1, a3, hc', loopR_succ, loopOf, findLoop, firstRegion, Option.some_or, Option.none_or, Option.getD_some, Option.some.injEq, Try.f128, FT, Int.reduceEq, Int.reduceToNat, Int.reduceLE, Int.reduceLT, Int.reduceAdd, Int.reduceMul, Int.reduceSub, Int.reduceNeg, Nat.reduceAdd, Nat.reduceSub, Nat.reduceMul, Nat.reduceLT, Nat.reduceBEq, Nat.reduceEqDiff, Nat.reduceLeDiff]
    exact ⟨_, rfl⟩
end Go.Proofs.Sw
namespace Go.Proofs.Sw
open Go.Ab
variable [Globals]
theorem Needed_ev (k n : Nat) (ins : Int) (code : List Ins) (outs : List Int) (nl : Bool) (cap : Option Nat) (nl2 : Bool) (cap2 : Option Nat) (hk : outs.length + code.length + 100 ≤ k) (hr : rightM ⟨ins, n, code, outs⟩ = true) :
    run (k+1) 46 [aP ⟨ins, n, code, outs⟩ nl cap nl2 cap2] = some (.tup [sB (neededM ⟨ins, n, code, outs⟩) false none, ii 0]) := by
  have hr' := hr
  simp only [rightM, headM, Bool.and_eq_true, decide_eq_true_eq] at hr'
  obtain ⟨⟨hh, ho⟩, hc⟩ := hr'
  have q1 : (0 : Int) ≤ n := by omega
  have q2 : n ≤ roomBytes := Nat.le_trans (show n ≤ 128 by omega) (by decide)
  have q3 : (0 : Int) ≤ code.length := by omega
  have q4 : code.length ≤ roomBytes := Nat.le_trans (show code.length ≤ 16384 by omega) (by decide)
  have hout : ∀ r ∈ outs, 0 ≤ r ∧ r < (n : Int) := fun r h => by have := List.all_eq_true.1 ho r h; simpa using this
  have hcode : ∀ i ∈ code, mayM i n = true := fun i h => List.all_eq_true.1 hc i h
  obtain ⟨k, rfl⟩ : ∃ j, k = j + 60 := ⟨k - 60, by omega⟩
  have hbk := Back_raw (k + 59) (ii ins) (ii n) (sC code nl cap) (sI outs nl2 cap2) rfl
  have hba := Back_ans (k + 59) (ii ins) (ii n) (sC code nl cap) (sI outs nl2 cap2) rfl
  have hrt := right_ev (k + 58) ⟨ins, n, code, outs⟩ nl cap nl2 cap2 (by simp only; omega)
  have hrt0 := right_ev (k + 59) ⟨ins, n, code, outs⟩ nl cap nl2 cap2 (by simp only; omega)
  have hwr := Backward_raw (k + 58) (.slice (encCode code) code.length nl cap)
  have hwa := Backward_ans (k + 58) (.slice (encCode code) code.length nl cap)
  have hw : IntKind.wrap .i64 ((code.length : Int) - 1) = (code.length : Int) - 1 := by rw [wrap64 (by omega) (by omega)]
  simp only [run, aP, ii, sC, sI, bb, hr] at hbk hba hrt hrt0
  rw [run, ev46, ans_trim]
  simp only [Try.f46, aP, ii, bb, q1, q2, q3, q4, hrt0, encB_rep, FT, Int.reduceEq, Int.reduceToNat, Int.reduceLE, Int.reduceLT, Int.reduceAdd, Int.reduceMul, Int.reduceSub, Int.reduceNeg, Nat.reduceAdd, Nat.reduceSub, Nat.reduceMul, Nat.reduceLT, Nat.reduceBEq, Nat.reduceEqDiff, Nat.reduceLeDiff]
  rw [evalCode_loopB LB46_6 lp46_6]; rotate_left; rfl; rfl; rfl
  generalize hz : loopR _ _ _ _ _ _ _ _ _ _ _ _ = z
  obtain rfl := loop_Needed_6 (k + 60) _ _ _ n outs nl2 cap2 (by omega) hout (List.replicate n false) (by simp) _ _ _ z hz (by omega) (by rfl) (by rfl) (by rfl) (by rfl) (by rfl) (by rfl) (by rfl)
  clear hz
  simp only [q3, q4, encB_rep, hba, hbk, FT, Int.reduceEq, Int.reduceToNat, Int.reduceLE, Int.reduceLT, Int.reduceAdd, Int.reduceMul, Int.reduceSub, Int.reduceNeg, Nat.reduceAdd, Nat.reduceSub, Nat.reduceMul, Nat.reduceLT, Nat.reduceBEq, Nat.reduceEqDiff, Nat.reduceLeDiff]
  rw [evalCode_rf RA46_11 RB46_11]; rotate_left; rfl; rfl
  simp only [q3, q4, hba, hbk, ev110, Try.f110, hrt, hwa, hwr, FT, Int.reduceEq, Int.reduceToNat, Int.reduceLE, Int.reduceLT, Int.reduceAdd, Int.reduceMul, Int.reduceSub, Int.reduceNeg, Nat.reduceAdd, Nat.reduceSub, Nat.reduceMul, Nat.reduceLT, Nat.reduceBEq, Nat.reduceEqDiff, Nat.reduceLeDiff]
  rw [evalCode_rf RA110_3 RB110_3]; rotate_left; rfl; rfl
  simp only [ev128, Try.f128, hw, FT, Int.reduceEq, Int.reduceToNat, Int.reduceLE, Int.reduceLT, Int.reduceAdd, Int.reduceMul, Int.reduceSub, Int.reduceNeg, Nat.reduceAdd, Nat.reduceSub, Nat.reduceMul, Nat.reduceLT, Nat.reduceBEq, Nat.reduceEqDiff, Nat.reduceLeDiff]
  rw [evalCode_loopB LB128_1 lp128_1]; rotate_left; rfl; rfl; rfl
  generalize hz : loopR _ _ _ _ _ _ _ _ _ _ _ _ = z
  obtain ⟨l', rfl⟩ := loop_Needed_B (k + 48) (.int .i64 ins) (.int .i64 n) (.slice (encCode code) code.length nl cap) (.slice (encInts outs) outs.length nl2 cap2) n code nl cap _ _ (by rfl) (by rfl) (by rfl) (by rfl) (by rfl)
    (asked0 n outs) (by simp [asked0, mark_length]) hcode (by omega) _ _ z hz (by omega) (by rfl) (by rfl) (by rfl)
  have hfl : (encB (needL (asked0 n outs) code).2).length = code.length := by rw [encB_length, (needL_length _ _).2]
  have htk : (encB (needL (asked0 n outs) code).2).take code.length = encB (needL (asked0 n outs) code).2 := by rw [← hfl, List.take_length]
  have hnm : neededM ⟨ins, n, code, outs⟩ = (needL (asked0 n outs) code).2 := rfl
  simp only [FT, Int.reduceEq, Int.reduceToNat, Int.reduceLE, Int.reduceLT, Int.reduceAdd, Int.reduceMul, Int.reduceSub, Int.reduceNeg, Nat.reduceAdd, Nat.reduceSub, Nat.reduceMul, Nat.reduceLT, Nat.reduceBEq, Nat.reduceEqDiff, Nat.reduceLeDiff]
  rw [hnm]
  simp only [hfl, htk, encB_length, Nat.le_refl, sB, (needL_length _ _).2, FT, Int.reduceEq, Int.reduceToNat, Int.reduceLE, Int.reduceLT, Int.reduceAdd, Int.reduceMul, Int.reduceSub, Int.reduceNeg, Nat.reduceAdd, Nat.reduceSub, Nat.reduceMul, Nat.reduceLT, Nat.reduceBEq, Nat.reduceEqDiff, Nat.reduceLeDiff]
end Go.Proofs.Sw
namespace Go.Proofs.Sw
open Go.Ab
variable [Globals]
def untO (held : List Int) (N : Int) (unt : List Int) : List Int → List Int
  | [] => unt
  | r :: rs => untO held N (unt.set (held.getD r.toNat 0).toNat N) rs
theorem untO_length (held : List Int) (N : Int) : ∀ (rs unt : List Int), (untO held N unt rs).length = unt.length
  | [], _ => rfl
  | r :: rs, unt => by rw [untO, untO_length held N rs]; simp
theorem untO_snoc (held : List Int) (N : Int) (r : Int) : ∀ (rs unt : List Int), untO held N unt (rs ++ [r]) = (untO held N unt rs).set (held.getD r.toNat 0).toNat N
  | [], _ => rfl
  | x :: rs, unt => by rw [List.cons_append, untO, untO_snoc held N r rs]; rfl
def outsV (held outs : List Int) : List Int := outs.map fun r => held.getD r.toNat 0
theorem outsV_length (held outs : List Int) : (outsV held outs).length = outs.length := by simp [outsV]
theorem outsV_take {held outs : List Int} {i : Nat} (h : i < outs.length) : outsV held (outs.take (i + 1)) = outsV held (outs.take i) ++ [held.getD outs[i].toNat 0] := by
  rw [List.take_succ_eq_append_getElem h, outsV, outsV, List.map_append]; rfl
theorem loop_lives28 (kf : Nat) (x0 x1 x2 x3 : IV) (y0 y1 y2 y3 y4 : IV) (n c : Nat) (N : Int) (c3 c4 c5 : List IV) (q : Lv) (outs : List Int) (nl : Bool) (cap : Option Nat) (hq : LvOk q n c) (hr : ∀ r ∈ outs, 0 ≤ r ∧ r < (n : Int)) (hlen : outs.length ≤ 20000) (k : Nat) (l : Ass) (z : Option Out) (hz : loopR Try.prog tab kf none LB82_28 82 203 [6, 7, 8, 172, 173, 174] 8 k l ([rI (untO q.held N q.unt (outs.take 0)), lo 3 0 (encInts (outsV q.held (outs.take 0))), .row false 3 c3, .row false 3 c4, .row false 3 c5, .cells 25 [.c x0, .c x1, .c x2, .c x3], .cells 128 [.c y0, .c y1, .c y2, .c y3, .c y4, hI 2 c, hI 3 c, hI 4 c, lv 1 1 0, hI 0 q.unt.length], rI q.held]) = z) (hk : outs.length < k) (a6 : asc l 6 = ii N) (a7 : asc l 7 = .ptr 6 0) (a8 : asc l 8 = hI 7 n) (a172 : asc l 172 = sI outs nl cap) (a173 : asc l 173 = ii outs.length) (a174 : asc l 174 = ii 0) :
    ∃ l', z = some (.exit 6 (fr 203 l') ([rI (untO q.held N q.unt (outs.take outs.length)), lo 3 outs.length (encInts (outsV q.held (outs.take outs.length))), .row false 3 c3, .row false 3 c4, .row false 3 c5, .cells 25 [.c x0, .c x1, .c x2, .c x3], .cells 128 [.c y0, .c y1, .c y2, .c y3, .c y4, hI 2 c, hI 3 c, hI 4 c, lv 1 1 outs.length, hI 0 q.unt.length], rI q.held])) ∧ asc l' 6 = ii N ∧ asc l' 7 = .ptr 6 0 ∧ asc l' 8 = hI 7 n ∧ asc l' 172 = sI outs nl cap ∧ asc l' 173 = ii outs.length ∧ asc l' 174 = ii outs.length := by
  subst hz
  refine loop_nat outs.length (fun k l H => loopR Try.prog tab kf none LB82_28 82 203 [6, 7, 8, 172, 173, 174] 8 k l H)
    (fun i l H => asc l 6 = ii N ∧ asc l 7 = .ptr 6 0 ∧ asc l 8 = hI 7 n ∧ asc l 172 = sI outs nl cap ∧ asc l 173 = ii outs.length ∧ asc l 174 = ii i ∧ ∃ G, H = ([rI (untO q.held N q.unt (outs.take i)), lo 3 i (encInts (outsV q.held (outs.take i))), .row false 3 c3, .row false 3 c4, .row false 3 c5, .cells 25 [.c x0, .c x1, .c x2, .c x3], .cells 128 [.c y0, .c y1, .c y2, .c y3, .c y4, hI 2 c, hI 3 c, hI 4 c, lv 1 1 i, hI 0 q.unt.length], rI q.held]) ++ G)
    (fun z => ∃ l', z = some (.exit 6 (fr 203 l') ([rI (untO q.held N q.unt (outs.take outs.length)), lo 3 outs.length (encInts (outsV q.held (outs.take outs.length))), .row false 3 c3, .row false 3 c4, .row false 3 c5, .cells 25 [.c x0, .c x1, .c x2, .c x3], .cells 128 [.c y0, .c y1, .c y2, .c y3, .c y4, hI 2 c, hI 3 c, hI 4 c, lv 1 1 outs.length, hI 0 q.unt.length], rI q.held])) ∧ asc l' 6 = ii N ∧ asc l' 7 = .ptr 6 0 ∧ asc l' 8 = hI 7 n ∧ asc l' 172 = sI outs nl cap ∧ asc l' 173 = ii outs.length ∧ asc l' 174 = ii outs.length) ?_ outs.length 0 k l _ (by omega) hk ⟨a6, a7, a8, a172, a173, a174, [], by rw [List.append_nil]⟩
  clear hk a6 a7 a8 a172 a173 a174
  rintro i k l H hi ⟨a6, a7, a8, a172, a173, a174, G, rfl⟩
  have ht : trim 8 (fr 203 (keep l [6, 7, 8, 172, 173, 174])) (([rI (untO q.held N q.unt (outs.take i)), lo 3 i (encInts (outsV q.held (outs.take i))), .row false 3 c3, .row false 3 c4, .row false 3 c5, .cells 25 [.c x0, .c x1, .c x2, .c x3], .cells 128 [.c y0, .c y1, .c y2, .c y3, .c y4, hI 2 c, hI 3 c, hI 4 c, lv 1 1 i, hI 0 q.unt.length], rI q.held]) ++ G) = ([rI (untO q.held N q.unt (outs.take i)), lo 3 i (encInts (outsV q.held (outs.take i))), .row false 3 c3, .row false 3 c4, .row false 3 c5, .cells 25 [.c x0, .c x1, .c x2, .c x3], .cells 128 [.c y0, .c y1, .c y2, .c y3, .c y4, hI 2 c, hI 3 c, hI 4 c, lv 1 1 i, hI 0 q.unt.length], rI q.held]) := trim_app (by simp) (by simp only [a6, a7, a8, a172, a173, a174, EVb, EVc, Int.reduceEq, Int.reduceToNat, Int.reduceLE, Int.reduceLT, Int.reduceAdd, Int.reduceMul, Int.reduceSub, Int.reduceNeg, Nat.reduceAdd, Nat.reduceSub, Nat.reduceMul, Nat.reduceLT, Nat.reduceBEq, Nat.reduceEqDiff, Nat.reduceLeDiff]) (by simp only [EVb, EVc, Int.reduceEq, Int.reduceToNat, Int.reduceLE, Int.reduceLT, Int.reduceAdd, Int.reduceMul, Int.reduceSub, Int.reduceNeg, Nat.reduceAdd, Nat.reduceSub, Nat.reduceMul, Nat.reduceLT, Nat.reduceBEq, Nat.reduceEqDiff, Nat.reduceLeDiff])
  by_cases hc : i < outs.length
  · have hc' : (i : Int) < ((outs.length : Nat) : Int) := by omega
    have hc0 : (0 : Int) ≤ i := by omega
    have hw : IntKind.wrap .i64 ((i : Int) + 1) = ((i + 1 : Nat) : Int) := by rw [wrap64 (by omega) (by omega)]; omega
    have hx := encInts_get hc
    have hlen2 : (outsV q.held (outs.take i)).length = i := by rw [outsV_length, List.length_take]; omega
    have hap := fun x0 X cs => apO_lv (e := 3) (s := 1) (n := i) (m := 1) (sz := 1) (by_ := 8) (cells := encInts (outsV q.held (outs.take i))) (cs := cs) (H := x0 :: lo 3 i (encInts (outsV q.held (outs.take i))) :: X) (by decide) (Nat.le_trans (Nat.mul_le_mul_right 8 (show i + 1 ≤ 20001 by omega)) (by decide)) (by decide) rfl (by rw [encInts_length, hlen2, Nat.mul_one])
    obtain ⟨r, hR⟩ : ∃ r, r = outs[i] := ⟨_, rfl⟩
    obtain ⟨r0, r1⟩ := hr r (by rw [hR]; exact List.getElem_mem hc)
    have hnx := outsV_take (held := q.held) hc
    have hny : untO q.held N q.unt (outs.take (i + 1)) = (untO q.held N q.unt (outs.take i)).set (q.held.getD r.toNat 0).toNat N := by rw [List.take_succ_eq_append_getElem hc, untO_snoc, hR]
    rw [← hR] at hx hnx
    have hul := untO_length q.held N (outs.take i) q.unt
    obtain ⟨U, hU⟩ : ∃ U, U = untO q.held N q.unt (outs.take i) := ⟨_, rfl⟩
    rw [← hU] at hul hny ht ⊢
    have hel := encInts_length q.held
    have hhl := hq.held
    have heu := encInts_length U
    have hxr := encInts_getD r0 (show r < q.held.length by omega)
    obtain ⟨v, hv⟩ : ∃ v, v = q.held.getD r.toNat 0 := ⟨_, rfl⟩
    obtain ⟨v0, v1⟩ := hq.vals v (by rw [hv]; exact getD_mem (by omega))
    rw [← hv] at hxr hnx hny
    have hv2 : v.toNat < q.unt.length := by omega
    rw [hnx, hny]
    simp only [loopR_succ, ht]
    simp only [a6, a7, a8, a172, a173, a174, hc', hc0, hw, hx, loopR_succ, loopOf, findLoop, firstRegion, Option.some_or, Option.none_or, Option.getD_some, Option.some.injEq, Try.f82, FT, Int.reduceEq, Int.reduceToNat, Int.reduceLE, Int.reduceLT, Int.reduceAdd, Int.reduceMul, Int.reduceSub, Int.reduceNeg, Nat.reduceAdd, Nat.reduceSub, Nat.reduceMul, Nat.reduceLT, Nat.reduceBEq, Nat.reduceEqDiff, Nat.reduceLeDiff]
    rw [evalCode_drawn Try.f82 30 dr82_30]; rotate_left; rfl
    simp only [a6, a7, a8, a172, a173, a174, hc', hc0, hw, hx, hxr, hel, hhl, r0, r1, hap, EVd, List.getElem?_nil, Nat.reducePow, Nat.reduceDiv, Nat.reduceMod, FT, Int.reduceEq, Int.reduceToNat, Int.reduceLE, Int.reduceLT, Int.reduceAdd, Int.reduceMul, Int.reduceSub, Int.reduceNeg, Nat.reduceAdd, Nat.reduceSub, Nat.reduceMul, Nat.reduceLT, Nat.reduceBEq, Nat.reduceEqDiff, Nat.reduceLeDiff]
    rw [evalCode_drawn Try.f82 31 dr82_31]; rotate_left; rfl
    simp only [a6, a7, a8, a172, a173, a174, hc', hc0, hw, hx, hxr, hel, hhl, heu, hul, r0, r1, v0, v1, hv2, encInts_set, EVd, List.getElem?_nil, Nat.reducePow, Nat.reduceDiv, Nat.reduceMod, FT, Int.reduceEq, Int.reduceToNat, Int.reduceLE, Int.reduceLT, Int.reduceAdd, Int.reduceMul, Int.reduceSub, Int.reduceNeg, Nat.reduceAdd, Nat.reduceSub, Nat.reduceMul, Nat.reduceLT, Nat.reduceBEq, Nat.reduceEqDiff, Nat.reduceLeDiff]
    refine .inr ⟨_, _, hc, rfl, (by rfl), (by rfl), (by rfl), (by rfl), (by rfl), (by rfl), ?_⟩
    simp only [rI, encInts_append]
    exact ⟨_, by rfl⟩
  · refine .inl ?_
    obtain rfl : i = outs.length := by omega
    have hc' : ¬ (((outs.length : Nat) : Int) < ((outs.length : Nat) : Int)) := by omega
    simp only [loopR_succ, ht]
    simp only [a6, a7, a8, a172, a173, a174, hc', loopR_succ, loopOf, findLoop, firstRegion, Option.some_or, Option.none_or, Option.getD_some, Option.some.injEq, Try.f82, FT, Int.reduceEq, Int.reduceToNat, Int.reduceLE, Int.reduceLT, Int.reduceAdd, Int.reduceMul, Int.reduceSub, Int.reduceNeg, Nat.reduceAdd, Nat.reduceSub, Nat.reduceMul, Nat.reduceLT, Nat.reduceBEq, Nat.reduceEqDiff, Nat.reduceLeDiff]
    exact ⟨_, rfl, (by rfl), (by rfl), (by rfl), (by rfl), (by rfl), (by rfl)⟩
def lvStart (ins : Int) (n c : Nat) : Lv := ⟨startM ins n, List.replicate c 0, List.replicate c 0, List.replicate c 0, List.replicate (ins.toNat + 1) (-1)⟩
theorem lvStart_ok {ins : Int} {n c : Nat} (h : 0 ≤ ins) : LvOk (lvStart ins n c) n c := by
  refine ⟨startM_length _ _, by simp [lvStart], by simp [lvStart], by simp [lvStart], by simp [lvStart], fun v hv => ?_⟩
  simp only [lvStart, startM, List.mem_map, List.length_replicate] at hv ⊢
  obtain ⟨r, _, rfl⟩ := hv
  split <;> omega
def lvEnd (p : Pg) : Lv := lvAt (lvStart p.ins p.regs.toNat p.code.length) (neededM p) p.code p.code.length
def untM (p : Pg) : List Int := untO (lvEnd p).held p.code.length (lvEnd p).unt p.outs
def lOuts (p : Pg) : List Int := outsV (lvEnd p).held p.outs
theorem needL_len2 (a : List Bool) (c : List Ins) : (needL a c).2.length = c.length := (needL_length a c).2
theorem bd128 (a b c d e : IV) (i1 n1 m1 s1 i2 n2 m2 s2 i3 n3 m3 s3 : Nat) : buildA Try.prog 128 [(0, .agg [.c a, .c b, .c c, .c d]), (1, .c e), (2, .hsl i1 0 n1 m1 s1), (3, .hsl i2 0 n2 m2 s2), (4, .hsl i3 0 n3 m3 s3)] = some (.agg [.c a, .c b, .c c, .c d, .c e, .hsl i1 0 n1 m1 s1, .hsl i2 0 n2 m2 s2, .hsl i3 0 n3 m3 s3, .c (.slice [] 0 true (some 0)), .c (.slice [] 0 true (some 0))]) := by kernel_rfl
theorem lives_ev (k : Nat) (ins : Int) (n : Nat) (code : List Ins) (outs : List Int) (nl : Bool) (cap : Option Nat) (nl2 : Bool) (cap2 : Option Nat) (hk : outs.length + code.length + 400 ≤ k) (hr : rightM ⟨ins, n, code, outs⟩ = true) :
    ∃ X, evalT Try.prog (mkHints tab) (k+2) (.fn 82) [aP ⟨ins, n, code, outs⟩ nl cap nl2 cap2] [] =
      some (.tup [.ptr 6 0, ii 0], [rI (untM ⟨ins, n, code, outs⟩), rI (lOuts ⟨ins, n, code, outs⟩), rI (lvEnd ⟨ins, n, code, outs⟩).a, rI (lvEnd ⟨ins, n, code, outs⟩).b, rI (lvEnd ⟨ins, n, code, outs⟩).sets, X,
        .cells 128 [ii ins, ii n, sC code nl cap, sI outs nl2 cap2, sB (neededM ⟨ins, n, code, outs⟩) false none, hI 2 code.length, hI 3 code.length, hI 4 code.length, hI 1 outs.length, hI 0 (lvEnd ⟨ins, n, code, outs⟩).unt.length], rI (lvEnd ⟨ins, n, code, outs⟩).held]) := by
  have hN := Needed_ev k n ins code outs nl cap nl2 cap2 (by omega) hr
  have hr' := hr
  simp only [rightM, headM, Bool.and_eq_true, decide_eq_true_eq] at hr'
  obtain ⟨⟨hh, ho⟩, hc⟩ := hr'
  have hout : ∀ r ∈ outs, 0 ≤ r ∧ r < (n : Int) := fun r h => by have := List.all_eq_true.1 ho r h; simpa using this
  have hcode : ∀ i ∈ code, mayM i n = true := fun i h => List.all_eq_true.1 hc i h
  have q1 : (0 : Int) ≤ n := by omega
  have q2 : n ≤ roomBytes := Nat.le_trans (show n ≤ 128 by omega) (by decide)
  have q3 : (0 : Int) ≤ code.length := by omega
  have q4 : code.length ≤ roomBytes := Nat.le_trans (show code.length ≤ 1000000 by omega) (by decide)
  have q5 : code.length * 8 ≤ roomBytes := Nat.le_trans (show code.length * 8 ≤ 1000000 by omega) (by decide)
  have q6 : n * 8 ≤ roomBytes := Nat.le_trans (show n * 8 ≤ 1000000 by omega) (by decide)
  obtain ⟨g, rfl⟩ : ∃ g : Nat, ins = g := ⟨ins.toNat, by omega⟩
  have hw : IntKind.wrap .i64 ((g : Int) + 1) = ((g + 1 : Nat) : Int) := by rw [wrap64 (by omega) (by omega)]; omega
  simp only [run, aP, ii, sB] at hN
  rw [ev82]
  simp only [Try.f82, aP, ii, hN, FT, Int.reduceEq, Int.reduceToNat, Int.reduceLE, Int.reduceLT, Int.reduceAdd, Int.reduceMul, Int.reduceSub, Int.reduceNeg, Nat.reduceAdd, Nat.reduceSub, Nat.reduceMul, Nat.reduceLT, Nat.reduceBEq, Nat.reduceEqDiff, Nat.reduceLeDiff]
  rw [evalCode_drawn Try.f82 5 dr82_5]; rotate_left; rfl
  simp only [q1, q2, q3, q4, q5, q6, encInts_rep, bd128, EVd, List.getElem?_nil, Nat.reducePow, Nat.reduceDiv, Nat.reduceMod, FT, Int.reduceEq, Int.reduceToNat, Int.reduceLE, Int.reduceLT, Int.reduceAdd, Int.reduceMul, Int.reduceSub, Int.reduceNeg, Nat.reduceAdd, Nat.reduceSub, Nat.reduceMul, Nat.reduceLT, Nat.reduceBEq, Nat.reduceEqDiff, Nat.reduceLeDiff]
  rw [evalCode_loopB LB82_8 lp82_8]; rotate_left; rfl; rfl; rfl
  generalize hz : loopR _ _ _ _ _ _ _ _ _ _ _ _ = z
  rw [show List.replicate n (0 : Int) = startM g 0 ++ List.replicate (n - 0) 0 from by simp [startM]] at hz
  obtain ⟨l1, rfl, e1, e4, e6, e7, e8, _, _⟩ := loop_lives8 k g _ _ _ (neededM ⟨(g : Int), n, code, outs⟩) _ _ _ _ (by simp only [FT, Int.reduceEq, Int.reduceToNat, Int.reduceLE, Int.reduceLT, Int.reduceAdd, Int.reduceMul, Int.reduceSub, Int.reduceNeg, Nat.reduceAdd, Nat.reduceSub, Nat.reduceMul, Nat.reduceLT, Nat.reduceBEq, Nat.reduceEqDiff, Nat.reduceLeDiff]) _ n (by omega) _ _ z hz (by omega) (by rfl) (by rfl) (by rfl) (by rfl) (by rfl) (by rfl) (by rfl)
  clear hz
  simp only [e1, e4, e6, e7, e8, hw, FT, Int.reduceEq, Int.reduceToNat, Int.reduceLE, Int.reduceLT, Int.reduceAdd, Int.reduceMul, Int.reduceSub, Int.reduceNeg, Nat.reduceAdd, Nat.reduceSub, Nat.reduceMul, Nat.reduceLT, Nat.reduceBEq, Nat.reduceEqDiff, Nat.reduceLeDiff]
  rw [evalCode_loopB LB82_13 lp82_13]; rotate_left; rfl; rfl; rfl
  generalize hz : loopR _ _ _ _ _ _ _ _ _ _ _ _ = z
  obtain ⟨l2, rfl, f1, f4, f6, f7, f8, _, _⟩ := loop_lives13 (k + 1) _ _ _ _ (neededM ⟨(g : Int), n, code, outs⟩) _ _ _ _ _ _ _ _ _ _ n code.length (g + 1) (by omega) _ _ z hz (by omega) e1 e4 e6 e7 e8 (by rfl) (by rfl)
  clear hz
  obtain ⟨q0, hq0⟩ : ∃ q0, q0 = lvStart g n code.length := ⟨_, rfl⟩
  have d1 : lo 3 (g + 1) (encInts (List.replicate (g + 1) (-1))) = rI q0.unt := by rw [lo_pos (by omega), hq0]; rfl
  have d2 : lv 0 1 (g + 1) = hI 0 q0.unt.length := by rw [lv_pos (by omega), hq0]; simp [lvStart]
  have d3 : List.replicate code.length 0 = q0.a := by rw [hq0]; rfl
  have d4 : q0.b = q0.a := by rw [hq0]; rfl
  have d5 : q0.sets = q0.a := by rw [hq0]; rfl
  have d6 : startM (g : Int) n ++ List.replicate (n - n) 0 = q0.held := by rw [hq0, Nat.sub_self]; simp [lvStart]
  simp only [f1, f4, f6, f7, f8, d1, d2, d3, d6, FT, Int.reduceEq, Int.reduceToNat, Int.reduceLE, Int.reduceLT, Int.reduceAdd, Int.reduceMul, Int.reduceSub, Int.reduceNeg, Nat.reduceAdd, Nat.reduceSub, Nat.reduceMul, Nat.reduceLT, Nat.reduceBEq, Nat.reduceEqDiff, Nat.reduceLeDiff]
  rw [evalCode_loopB LB82_17 lp82_17]; rotate_left; rfl; rfl; rfl
  generalize hz : loopR _ _ _ _ _ _ _ _ _ _ _ _ = z
  have hok0 : LvOk q0 n code.length := by rw [hq0]; exact lvStart_ok (by omega)
  have hul0 : q0.unt.length ≤ 1000 := by rw [hq0]; simp [lvStart]; omega
  clear d1 d2 d3 d4 d5 d6
  subst hq0
  obtain ⟨l3, rfl, g1, g4, g6, g7, g8, _, _, _⟩ := loop_lives17 k _ _ _ _ _ _ _ _ _ n (neededM ⟨(g : Int), n, code, outs⟩) (lvStart g n code.length) code (needL_len2 _ _) nl cap hok0 hul0 hcode (by omega) _ _ z hz (by omega) f1 f4 f6 f7 f8 (by rfl) (by rfl) (by rfl)
  clear hz
  obtain ⟨q, hq⟩ : ∃ q, q = lvEnd ⟨(g : Int), n, code, outs⟩ := ⟨_, rfl⟩
  have hqe : lvAt (lvStart g n code.length) (neededM ⟨(g : Int), n, code, outs⟩) code code.length = q := by rw [hq]; rfl
  have hok : LvOk q n code.length := by rw [← hqe]; exact (lvAt_ok hok0 _).1
  simp only [hqe, g1, g6, g7, g8, FT, Int.reduceEq, Int.reduceToNat, Int.reduceLE, Int.reduceLT, Int.reduceAdd, Int.reduceMul, Int.reduceSub, Int.reduceNeg, Nat.reduceAdd, Nat.reduceSub, Nat.reduceMul, Nat.reduceLT, Nat.reduceBEq, Nat.reduceEqDiff, Nat.reduceLeDiff]
  rw [evalCode_loopB LB82_28 lp82_28]; rotate_left; rfl; rfl; rfl
  generalize hz : loopR _ _ _ _ _ _ _ _ _ _ _ _ = z
  obtain ⟨l4, rfl, _, k7, _, _, _, _⟩ := loop_lives28 (k + 1) _ _ _ _ _ _ _ _ _ n code.length code.length _ _ _ q outs nl2 cap2 hok hout (by omega) _ _ z hz (by omega) g6 g7 g8 (by rfl) (by rfl) (by rfl)
  clear hz
  have hop : 0 < outs.length := by omega
  simp only [k7, List.take_length, lo_pos (e := 3) hop, lv_pos (s := 1) (sz := 1) hop, FT, Int.reduceEq, Int.reduceToNat, Int.reduceLE, Int.reduceLT, Int.reduceAdd, Int.reduceMul, Int.reduceSub, Int.reduceNeg, Nat.reduceAdd, Nat.reduceSub, Nat.reduceMul, Nat.reduceLT, Nat.reduceBEq, Nat.reduceEqDiff, Nat.reduceLeDiff]
  simp only [untM, lOuts, ← hq]
  exact ⟨_, by rfl⟩
end Go.Proofs.Sw
namespace Go.Proofs.Sw
open Go.Ab
variable [Globals]
abbrev entsI (ps : List (Int × Int)) : List (AV × AV) := ps.map fun e => (ii e.1, ii e.2)
def lookI (k : Int) : List (Int × Int) → Option (Nat × Int)
  | [] => none
  | e :: es => if k = e.1 then some (0, e.2) else (lookI k es).map fun p => (p.1 + 1, p.2)
def atI (ps : List (Int × Int)) (v : Int) : Int := match lookI v ps with | some p => p.2 | none => 0
theorem keyEqI (a b : Int) : keyEqA Try.prog 3 (.c (.int .i64 a)) (.c (.int .i64 b)) = some (a == b) := by kernel_rfl
theorem keyOkI (a : Int) : keyOkA Try.prog 3 (.c (.int .i64 a)) = true := by kernel_rfl
theorem mapTI : mapT Try.prog 123 = some (3, 3) := by kernel_rfl
theorem zeroVI : zeroV Try.prog 3 = some (ii 0) := by kernel_rfl
theorem findA_I (k : Int) : ∀ es : List (Int × Int), findA Try.prog 3 (ii k) (entsI es) = some ((lookI k es).map fun p => (p.1, ii p.2))
  | [] => rfl
  | e :: es => by
    rw [entsI, List.map_cons, findA, keyEqI, Option.bind_some]
    by_cases h : k = e.1
    · simp [lookI, h]
    · rw [beq_false_of_ne h, if_neg (by simp), show (es.map fun e => (ii e.1, ii e.2)) = entsI es from rfl, findA_I k es, lookI, if_neg h]
      cases lookI k es <;> rfl
theorem ents_snocI (es : List (Int × Int)) (k v : Int) : entsI es ++ [(ii k, ii v)] = entsI (es ++ [(k, v)]) := by simp [entsI]
theorem upd_newI {H : Heap} {id : Nat} {es : List (Int × Int)} {k v : Int} (h : H[id]? = some (.map 123 (entsI es))) (hl : lookI k es = none) :
    mapUpdateA Try.prog H 123 (.hmap id) (ii k) (ii v) = some (H.set id (.map 123 (entsI (es ++ [(k, v)])))) := by
  unfold mapUpdateA
  rw [mapTI, Option.bind_some, if_pos (keyOkI _)]
  simp only [h, findA_I, hl, Option.map_none, Option.map_some, ents_snocI]
theorem look_valI {H : Heap} {id : Nat} {es : List (Int × Int)} {k : Int} (h : H[id]? = some (.map 123 (entsI es))) :
    lookupA Try.prog H 123 (.hmap id) (ii k) false = some (ii (atI es k)) := by
  unfold lookupA
  rw [mapTI, Option.bind_some, if_pos (keyOkI _)]
  simp only [h, Option.bind_some, findA_I, atI]
  cases lookI k es <;> simp [zeroVI]
theorem entry_newI {H : Heap} {id : Nat} {es : List (Int × Int)} {k : Int} (h : H[id]? = some (.map 123 (entsI es))) (hl : lookI k es = none) :
    mapEntryA Try.prog H 123 (.hmap id) (ii k) = some (.tup [ii 0, ii es.length], H.set id (.map 123 (entsI (es ++ [(k, 0)])))) := by
  unfold mapEntryA
  rw [mapTI, Option.bind_some, if_pos (keyOkI _)]
  simp only [h, findA_I, hl, Option.map_none, Option.bind_some, zeroVI, Option.map_some, ents_snocI, entsI, List.length_map]
theorem store_newI {H : Heap} {id : Nat} {es : List (Int × Int)} {k x : Int} (h : H[id]? = some (.map 123 (entsI (es ++ [(k, 0)])))) :
    entryStoreA H (.hmap id) (ii es.length) (ii x) = some (H.set id (.map 123 (entsI (es ++ [(k, x)])))) := by
  unfold entryStoreA
  simp only [h]
  rw [if_pos (by omega), Int.toNat_natCast]
  simp [entsI]
theorem entsI_under (m : Nat) (es : List (Int × Int)) : ((entsI es).all fun e => AV.under m e.1 && AV.under m e.2) = true := by
  induction es with
  | nil => rfl
  | cons e es ih => rw [entsI, List.map_cons, List.all_cons, ih]; rfl
theorem entsI_ids : ∀ es : List (Int × Int), entIds (entsI es) = []
  | [] => rfl
  | e :: es => by rw [entsI, List.map_cons, entIds, show es.map (fun e => (ii e.1, ii e.2)) = entsI es from rfl, entsI_ids es]; rfl
theorem entsI_ren (ρ : Nat → Option Nat) : ∀ es : List (Int × Int), renEs ρ (entsI es) = some (entsI es)
  | [] => rfl
  | e :: es => by rw [entsI, List.map_cons, renEs, show es.map (fun e => (ii e.1, ii e.2)) = entsI es from rfl, entsI_ren ρ es]; rfl
theorem encB_append (a b : List Bool) : encB (a ++ b) = encB a ++ encB b := by simp [encB]
theorem apO_lB {l : List Bool} {s : Nat} {H : Heap} {cs : List IV} (hH : H[s]? = some (lo 4 l.length (encB l))) (hb : l.length ≤ 1000000) :
    apO 4 1 1 (some s) (lv s 1 l.length) H (some (cs, 1)) = some (lv s 1 (l.length + 1), H.set s (lo 4 (l.length + 1) (encB l ++ cs))) :=
  apO_lv (by decide) (Nat.le_trans (Nat.mul_le_mul_right 1 (show l.length + 1 ≤ 1000001 by omega)) (by decide)) (by decide) hH (by rw [encB_length, Nat.mul_one])
theorem lay_evA (k : Nat) (ps : List (Int × Int)) (fl : List Bool) (v u : Int) (hf : fl = []) (hl : lookI v ps = none) (hn : fl.length ≤ 100000) :
    ∃ G, evalT Try.prog (mkHints tab) (k+1) (.fn 83) [.ptr 0 0, ii v, ii u] [.cells 125 [.hmap 1, lv 2 1 fl.length], .map 123 (entsI ps)] =
      some (.tup [], .cells 125 [.hmap 1, hI 2 (fl.length + 1)] :: .map 123 (entsI (ps ++ [(v, (fl.length : Int))])) :: rB (fl ++ [decide (u < 0)]) :: G) := by
  have hH : [.cells 125 [.hmap 1, lv 2 1 fl.length], .map 123 (entsI ps)] ++ [.slot] = [.cells 125 [.hmap 1, lv 2 1 fl.length], .map 123 (entsI ps), lo 4 fl.length (encB fl)] := by
    first
    | (subst hf; rfl)
    | (rw [lo_pos (List.length_pos_iff.2 hf)]; rfl)
  have hu := fun x0 X w => upd_newI (H := x0 :: .map 123 (entsI ps) :: X) (id := 1) (v := w) rfl hl
  have hap := fun x0 x1 X cs => apO_lB (l := fl) (s := 2) (H := x0 :: x1 :: lo 4 fl.length (encB fl) :: X) (cs := cs) rfl (by omega)
  rw [ev83, hH]
  simp only [Try.f83, ii, FT, Int.reduceEq, Int.reduceToNat, Int.reduceLE, Int.reduceLT, Int.reduceAdd, Int.reduceMul, Int.reduceSub, Int.reduceNeg, Nat.reduceAdd, Nat.reduceSub, Nat.reduceMul, Nat.reduceLT, Nat.reduceBEq, Nat.reduceEqDiff, Nat.reduceLeDiff]
  rw [evalCode_drawn Try.f83 0 dr83_0]; rotate_left; rfl
  simp only [hu, hap, entsI_under, lv_pos (s := 2) (sz := 1) (Nat.succ_pos fl.length), lo_pos (e := 4) (Nat.succ_pos fl.length), EVd, List.getElem?_nil, Nat.reducePow, Nat.reduceDiv, Nat.reduceMod, FT, Int.reduceEq, Int.reduceToNat, Int.reduceLE, Int.reduceLT, Int.reduceAdd, Int.reduceMul, Int.reduceSub, Int.reduceNeg, Nat.reduceAdd, Nat.reduceSub, Nat.reduceMul, Nat.reduceLT, Nat.reduceBEq, Nat.reduceEqDiff, Nat.reduceLeDiff]
  exact ⟨_, by simp only [rB, encB_append]; rfl⟩
theorem lay_evB (k : Nat) (ps : List (Int × Int)) (fl : List Bool) (v u : Int) (hf : fl ≠ []) (hl : lookI v ps = none) (hn : fl.length ≤ 100000) :
    ∃ G, evalT Try.prog (mkHints tab) (k+1) (.fn 83) [.ptr 0 0, ii v, ii u] [.cells 125 [.hmap 1, lv 2 1 fl.length], .map 123 (entsI ps), rB fl] =
      some (.tup [], .cells 125 [.hmap 1, hI 2 (fl.length + 1)] :: .map 123 (entsI (ps ++ [(v, (fl.length : Int))])) :: rB (fl ++ [decide (u < 0)]) :: G) := by
  have hH : [.cells 125 [.hmap 1, lv 2 1 fl.length], .map 123 (entsI ps), rB fl] ++ [.slot] = [.cells 125 [.hmap 1, lv 2 1 fl.length], .map 123 (entsI ps), lo 4 fl.length (encB fl), .slot] := by
    first
    | (subst hf; rfl)
    | (rw [lo_pos (List.length_pos_iff.2 hf)]; rfl)
  have hu := fun x0 X w => upd_newI (H := x0 :: .map 123 (entsI ps) :: X) (id := 1) (v := w) rfl hl
  have hap := fun x0 x1 X cs => apO_lB (l := fl) (s := 2) (H := x0 :: x1 :: lo 4 fl.length (encB fl) :: X) (cs := cs) rfl (by omega)
  rw [ev83, hH]
  simp only [Try.f83, ii, FT, Int.reduceEq, Int.reduceToNat, Int.reduceLE, Int.reduceLT, Int.reduceAdd, Int.reduceMul, Int.reduceSub, Int.reduceNeg, Nat.reduceAdd, Nat.reduceSub, Nat.reduceMul, Nat.reduceLT, Nat.reduceBEq, Nat.reduceEqDiff, Nat.reduceLeDiff]
  rw [evalCode_drawn Try.f83 0 dr83_0]; rotate_left; rfl
  simp only [hu, hap, entsI_under, lv_pos (s := 2) (sz := 1) (Nat.succ_pos fl.length), lo_pos (e := 4) (Nat.succ_pos fl.length), EVd, List.getElem?_nil, Nat.reducePow, Nat.reduceDiv, Nat.reduceMod, FT, Int.reduceEq, Int.reduceToNat, Int.reduceLE, Int.reduceLT, Int.reduceAdd, Int.reduceMul, Int.reduceSub, Int.reduceNeg, Nat.reduceAdd, Nat.reduceSub, Nat.reduceMul, Nat.reduceLT, Nat.reduceBEq, Nat.reduceEqDiff, Nat.reduceLeDiff]
  exact ⟨_, by simp only [rB, encB_append]; rfl⟩
end Go.Proofs.Sw
namespace Go.Proofs.Sw
open Go.Ab
variable [Globals]
def leastM (fl : List Bool) : Nat := fl.findIdx id
def giveF (fl : List Bool) : List Bool := if leastM fl < fl.length then fl.set (leastM fl) false else fl ++ [false]
theorem leastM_le (fl : List Bool) : leastM fl ≤ fl.length := List.findIdx_le_length
theorem loop_give (kf : Nat) (ps : List (Int × Int)) (fl : List Bool) (v : Int) (hl : lookI v ps = none) (hn : fl.length ≤ 100000) (k : Nat) (l : Ass) (z : Option Out) (hz : loopR Try.prog tab kf none LB84_2 84 60 [0, 1, 10, 11, 12] 3 k l ([.cells 125 [.hmap 1, hI 2 fl.length], .map 123 (entsI ps), rB fl]) = z) (hk : fl.length < k) (a0 : asc l 0 = .ptr 0 0) (a1 : asc l 1 = ii v) (a10 : asc l 10 = hI 2 fl.length) (a11 : asc l 11 = ii fl.length) (a12 : asc l 12 = ii 0) :
    ∃ l', (z = some (.exit 0 (fr 60 l') [.cells 125 [.hmap 1, hI 2 fl.length], .map 123 (entsI ps), rB fl]) ∧ asc l' 0 = .ptr 0 0 ∧ asc l' 1 = ii v ∧ fl.findIdx id = fl.length) ∨ (z = some (.ret (fr 60 l') [.cells 125 [.hmap 1, hI 2 fl.length], .map 123 (entsI (ps ++ [(v, (fl.findIdx id : Int))])), rB (fl.set (fl.findIdx id) false)]) ∧ asc l' 4 = ii (fl.findIdx id) ∧ fl.findIdx id < fl.length) := by
  subst hz
  refine loop_nat fl.length (fun k l H => loopR Try.prog tab kf none LB84_2 84 60 [0, 1, 10, 11, 12] 3 k l H)
    (fun i l H => asc l 0 = .ptr 0 0 ∧ asc l 1 = ii v ∧ asc l 10 = hI 2 fl.length ∧ asc l 11 = ii fl.length ∧ asc l 12 = ii i ∧ (fl.findIdx id = i + (fl.drop i).findIdx id) ∧ ∃ G, H = ([.cells 125 [.hmap 1, hI 2 fl.length], .map 123 (entsI ps), rB fl]) ++ G)
    (fun z => ∃ l', (z = some (.exit 0 (fr 60 l') [.cells 125 [.hmap 1, hI 2 fl.length], .map 123 (entsI ps), rB fl]) ∧ asc l' 0 = .ptr 0 0 ∧ asc l' 1 = ii v ∧ fl.findIdx id = fl.length) ∨ (z = some (.ret (fr 60 l') [.cells 125 [.hmap 1, hI 2 fl.length], .map 123 (entsI (ps ++ [(v, (fl.findIdx id : Int))])), rB (fl.set (fl.findIdx id) false)]) ∧ asc l' 4 = ii (fl.findIdx id) ∧ fl.findIdx id < fl.length)) ?_ fl.length 0 k l _ (by omega) hk ⟨a0, a1, a10, a11, a12, by simp, [], by rw [List.append_nil]⟩
  clear hk a0 a1 a10 a11 a12
  rintro i k l H hi ⟨a0, a1, a10, a11, a12, hp, G, rfl⟩
  have ht : trim 3 (fr 60 (keep l [0, 1, 10, 11, 12])) (([.cells 125 [.hmap 1, hI 2 fl.length], .map 123 (entsI ps), rB fl]) ++ G) = ([.cells 125 [.hmap 1, hI 2 fl.length], .map 123 (entsI ps), rB fl]) := trim_app (by simp) (by simp only [a0, a1, a10, a11, a12, entsI_under, EVb, EVc, Int.reduceEq, Int.reduceToNat, Int.reduceLE, Int.reduceLT, Int.reduceAdd, Int.reduceMul, Int.reduceSub, Int.reduceNeg, Nat.reduceAdd, Nat.reduceSub, Nat.reduceMul, Nat.reduceLT, Nat.reduceBEq, Nat.reduceEqDiff, Nat.reduceLeDiff]) (by simp only [entsI_under, EVb, EVc, Int.reduceEq, Int.reduceToNat, Int.reduceLE, Int.reduceLT, Int.reduceAdd, Int.reduceMul, Int.reduceSub, Int.reduceNeg, Nat.reduceAdd, Nat.reduceSub, Nat.reduceMul, Nat.reduceLT, Nat.reduceBEq, Nat.reduceEqDiff, Nat.reduceLeDiff])
  by_cases hc : i < fl.length
  · have hc' : (i : Int) < ((fl.length : Nat) : Int) := by omega
    have hc0 : (0 : Int) ≤ i := by omega
    have hw : IntKind.wrap .i64 ((i : Int) + 1) = ((i + 1 : Nat) : Int) := by rw [wrap64 (by omega) (by omega)]; omega
    have hx := encB_nat hc
    have hel := encB_length fl
    have hd := List.drop_eq_getElem_cons hc
    have hge : fl.getD i false = fl[i] := by rw [List.getD_eq_getElem?_getD, List.getElem?_eq_getElem hc]; rfl
    rw [hge] at hx
    obtain ⟨b, hb⟩ : ∃ b, b = fl[i] := ⟨_, rfl⟩
    rw [← hb] at hd hx
    rw [hd, List.findIdx_cons] at hp
    have he1 := fun x0 X => entry_newI (H := x0 :: .map 123 (entsI ps) :: X) (id := 1) rfl hl
    have he2 := fun x0 X w => store_newI (H := x0 :: .map 123 (entsI (ps ++ [(v, 0)])) :: X) (id := 1) (es := ps) (k := v) (x := w) rfl
    cases b with
    | true =>
      refine .inl ?_
      simp only [id_eq, cond_true, Nat.add_zero] at hp
      simp only [loopR_succ, ht]
      simp only [a0, a1, a10, a11, a12, hc', hc0, hw, hel, hx, loopR_succ, loopOf, findLoop, firstRegion, Option.some_or, Option.none_or, Option.getD_some, Option.some.injEq, Try.f84, FT, Int.reduceEq, Int.reduceToNat, Int.reduceLE, Int.reduceLT, Int.reduceAdd, Int.reduceMul, Int.reduceSub, Int.reduceNeg, Nat.reduceAdd, Nat.reduceSub, Nat.reduceMul, Nat.reduceLT, Nat.reduceBEq, Nat.reduceEqDiff, Nat.reduceLeDiff]
      rw [evalCode_drawn Try.f84 5 dr84_5]; rotate_left; rfl
      simp only [a0, a1, a10, a11, a12, hc', hc0, hw, hel, hx, he1, he2, entsI_under, encB_set, if_pos hc, EVd, List.getElem?_nil, Nat.reducePow, Nat.reduceDiv, Nat.reduceMod, FT, Int.reduceEq, Int.reduceToNat, Int.reduceLE, Int.reduceLT, Int.reduceAdd, Int.reduceMul, Int.reduceSub, Int.reduceNeg, Nat.reduceAdd, Nat.reduceSub, Nat.reduceMul, Nat.reduceLT, Nat.reduceBEq, Nat.reduceEqDiff, Nat.reduceLeDiff]
      rw [hp]
      exact ⟨_, .inr ⟨rfl, (by rfl), hc⟩⟩
    | false =>
      simp only [id_eq, cond_false] at hp
      have hp2 : fl.findIdx id = i + 1 + (fl.drop (i + 1)).findIdx id := by omega
      simp only [loopR_succ, ht]
      simp only [a0, a1, a10, a11, a12, hc', hc0, hw, hel, hx, loopR_succ, loopOf, findLoop, firstRegion, Option.some_or, Option.none_or, Option.getD_some, Option.some.injEq, Try.f84, FT, Int.reduceEq, Int.reduceToNat, Int.reduceLE, Int.reduceLT, Int.reduceAdd, Int.reduceMul, Int.reduceSub, Int.reduceNeg, Nat.reduceAdd, Nat.reduceSub, Nat.reduceMul, Nat.reduceLT, Nat.reduceBEq, Nat.reduceEqDiff, Nat.reduceLeDiff]
      exact .inr ⟨_, _, hc, rfl, (by rfl), (by rfl), (by rfl), (by rfl), (by rfl), hp2, [], by rfl⟩
  · refine .inl ?_
    obtain rfl : i = fl.length := by omega
    have hc' : ¬ (((fl.length : Nat) : Int) < ((fl.length : Nat) : Int)) := by omega
    simp only [loopR_succ, ht]
    simp only [a0, a1, a10, a11, a12, hc', loopR_succ, loopOf, findLoop, firstRegion, Option.some_or, Option.none_or, Option.getD_some, Option.some.injEq, Try.f84, FT, Int.reduceEq, Int.reduceToNat, Int.reduceLE, Int.reduceLT, Int.reduceAdd, Int.reduceMul, Int.reduceSub, Int.reduceNeg, Nat.reduceAdd, Nat.reduceSub, Nat.reduceMul, Nat.reduceLT, Nat.reduceBEq, Nat.reduceEqDiff, Nat.reduceLeDiff]
    rw [List.drop_length] at hp
    exact ⟨_, .inl ⟨rfl, (by rfl), (by rfl), by simpa using hp⟩⟩
theorem apO_hB {l : List Bool} {s : Nat} {sl : Option Nat} {H : Heap} {cs : List IV} (hH : H[s]? = some (rB l)) (hb : l.length ≤ 1000000) :
    apO 4 1 1 sl (hI s l.length) H (some (cs, 1)) = some (hI s (l.length + 1), H.set s (.row false 4 (encB l ++ cs))) := by
  have := apO_row (e := 4) (sz := 1) (by_ := 1) (m := 1) (sl := sl) (len := l.length) (cs := cs) (by decide) (Nat.le_trans (Nat.mul_le_mul_right 1 (show l.length + 1 ≤ 1000001 by omega)) (by decide)) (by decide) hH (by rw [encB_length, Nat.mul_one])
  rw [Nat.mul_one, Nat.mul_one] at this
  exact this
theorem give_ev (k : Nat) (ps : List (Int × Int)) (fl : List Bool) (v : Int) (hl : lookI v ps = none) (hn : fl.length ≤ 100000) (h0 : fl ≠ []) (hk : fl.length < k) :
    ∃ G, evalT Try.prog (mkHints tab) (k+1) (.fn 84) [.ptr 0 0, ii v] [.cells 125 [.hmap 1, hI 2 fl.length], .map 123 (entsI ps), rB fl] =
      some (ii (leastM fl), .cells 125 [.hmap 1, hI 2 (giveF fl).length] :: .map 123 (entsI (ps ++ [(v, (leastM fl : Int))])) :: rB (giveF fl) :: G) := by
  have hlp : 0 < fl.length := List.length_pos_iff.2 h0
  rw [ev84]
  simp only [Try.f84, ii, FT, Int.reduceEq, Int.reduceToNat, Int.reduceLE, Int.reduceLT, Int.reduceAdd, Int.reduceMul, Int.reduceSub, Int.reduceNeg, Nat.reduceAdd, Nat.reduceSub, Nat.reduceMul, Nat.reduceLT, Nat.reduceBEq, Nat.reduceEqDiff, Nat.reduceLeDiff]
  rw [evalCode_loopB LB84_2 lp84_2]; rotate_left; rfl; rfl; rfl
  generalize hz : loopR _ _ _ _ _ _ _ _ _ _ _ _ = z
  obtain ⟨l', ⟨rfl, e0, e1, hx⟩ | ⟨rfl, e4, hx⟩⟩ := loop_give k ps fl v hl hn _ _ z hz hk (by rfl) (by rfl) (by rfl) (by rfl) (by rfl)
  · clear hz
    have hu := fun x0 X w => upd_newI (H := x0 :: .map 123 (entsI ps) :: X) (id := 1) (v := w) rfl hl
    have hap := fun x0 x1 X cs => apO_hB (l := fl) (s := 2) (sl := none) (H := x0 :: x1 :: rB fl :: X) (cs := cs) rfl (by omega)
    have hw : IntKind.wrap .i64 (((fl.length + 1 : Nat) : Int) - 1) = fl.length := by rw [wrap64 (by omega) (by omega)]; omega
    have hlm : leastM fl = fl.length := hx
    have hgf : giveF fl = fl ++ [false] := by unfold giveF; rw [if_neg (by omega)]
    simp only [e0, e1, FT, Int.reduceEq, Int.reduceToNat, Int.reduceLE, Int.reduceLT, Int.reduceAdd, Int.reduceMul, Int.reduceSub, Int.reduceNeg, Nat.reduceAdd, Nat.reduceSub, Nat.reduceMul, Nat.reduceLT, Nat.reduceBEq, Nat.reduceEqDiff, Nat.reduceLeDiff]
    rw [evalCode_drawn Try.f84 8 dr84_8]; rotate_left; rfl
    simp only [e0, e1, hu, hap, hw, entsI_under, EVd, List.getElem?_nil, Nat.reducePow, Nat.reduceDiv, Nat.reduceMod, FT, Int.reduceEq, Int.reduceToNat, Int.reduceLE, Int.reduceLT, Int.reduceAdd, Int.reduceMul, Int.reduceSub, Int.reduceNeg, Nat.reduceAdd, Nat.reduceSub, Nat.reduceMul, Nat.reduceLT, Nat.reduceBEq, Nat.reduceEqDiff, Nat.reduceLeDiff]
    rw [hlm, hgf]
    simp only [List.length_append, List.length_cons, List.length_nil, Nat.zero_add]
    exact ⟨_, by simp only [rB, encB_append]; rfl⟩
  · clear hz
    have hlm : fl.findIdx id = leastM fl := rfl
    have hgf : giveF fl = fl.set (leastM fl) false := by unfold giveF; exact if_pos hx
    rw [hlm] at e4
    simp only [e4, hlm, entsI_under, FT, Int.reduceEq, Int.reduceToNat, Int.reduceLE, Int.reduceLT, Int.reduceAdd, Int.reduceMul, Int.reduceSub, Int.reduceNeg, Nat.reduceAdd, Nat.reduceSub, Nat.reduceMul, Nat.reduceLT, Nat.reduceBEq, Nat.reduceEqDiff, Nat.reduceLeDiff]
    rw [hgf]
    simp only [List.length_set]
    exact ⟨[], rfl⟩
end Go.Proofs.Sw
namespace Go.Proofs.Sw
open Go.Ab
variable [Globals]
theorem lookI_none {k : Int} : ∀ {es : List (Int × Int)}, (∀ e ∈ es, e.1 ≠ k) → lookI k es = none
  | [], _ => rfl
  | e :: es, h => by
    rw [lookI, if_neg (fun hk => h e (by simp) hk.symm), lookI_none (fun e he => h e (by simp [he]))]
    rfl
def layF (unt : List Int) (i : Nat) : List Bool := (unt.take i).map fun u => decide (u < 0)
def layP (i : Nat) : List (Int × Int) := (List.range i).map fun (v : Nat) => ((v : Int), (v : Int))
theorem layP_succ (i : Nat) : layP (i + 1) = layP i ++ [((i : Int), (i : Int))] := by simp [layP, List.range_succ]
theorem layP_none (i : Nat) : lookI i (layP i) = none := lookI_none (by
  intro e he
  simp only [layP, List.mem_map, List.mem_range] at he
  obtain ⟨v, hv, rfl⟩ := he
  simp only
  omega)
theorem layF_length {unt : List Int} {i : Nat} (h : i ≤ unt.length) : (layF unt i).length = i := by simp [layF]; omega
theorem layF_succ {unt : List Int} {i : Nat} (h : i < unt.length) : layF unt (i + 1) = layF unt i ++ [decide (unt.getD i 0 < 0)] := by
  rw [layF, List.take_succ_eq_append_getElem h, List.map_append, List.getD_eq_getElem?_getD, List.getElem?_eq_getElem h]; rfl
abbrev lifeC (y0 y1 y2 y3 y4 : IV) (c no m : Nat) : List AV := [.c y0, .c y1, .c y2, .c y3, .c y4, hI 6 c, hI 7 c, hI 8 c, hI 9 no, hI 10 m]
theorem loop_Pack6 (kf : Nat) (x0 x1 x2 x3 z0 z1 z2 z3 y0 y1 y2 y3 y4 : IV) (c no : Nat) (c6 c7 c8 c9 : List IV) (unt : List Int) (g : Nat) (hg : g < unt.length) (hu : unt.length ≤ 100000) (k : Nat) (l : Ass) (z : Option Out) (hz : loopR Try.prog tab (kf + 1) none LB44_6 44 208 [1, 2, 4, 6, 29, 30] 13 k l ([.slot, .slot, lo 4 0 (encB (layF unt 0)), .cells 25 [.c x0, .c x1, .c x2, .c x3], .cells 25 [.c z0, .c z1, .c z2, .c z3], .cells 128 (lifeC y0 y1 y2 y3 y4 c no unt.length), .row false 3 c6, .row false 3 c7, .row false 3 c8, .row false 3 c9, rI unt, .map 123 (entsI (layP 0)), .cells 125 [.hmap 11, lv 2 1 0]]) = z) (hk : g < k) (a1 : asc l 1 = .ptr 3 0) (a2 : asc l 2 = .ptr 4 0) (a4 : asc l 4 = .ptr 5 0) (a6 : asc l 6 = .ptr 12 0) (a29 : asc l 29 = ii g) (a30 : asc l 30 = ii 0) :
    ∃ l', z = some (.exit 0 (fr 208 l') ([.slot, .slot, lo 4 g (encB (layF unt g)), .cells 25 [.c x0, .c x1, .c x2, .c x3], .cells 25 [.c z0, .c z1, .c z2, .c z3], .cells 128 (lifeC y0 y1 y2 y3 y4 c no unt.length), .row false 3 c6, .row false 3 c7, .row false 3 c8, .row false 3 c9, rI unt, .map 123 (entsI (layP g)), .cells 125 [.hmap 11, lv 2 1 g]])) ∧ asc l' 1 = .ptr 3 0 ∧ asc l' 2 = .ptr 4 0 ∧ asc l' 4 = .ptr 5 0 ∧ asc l' 6 = .ptr 12 0 ∧ asc l' 29 = ii g ∧ asc l' 30 = ii g := by
  subst hz
  refine loop_nat g (fun k l H => loopR Try.prog tab (kf + 1) none LB44_6 44 208 [1, 2, 4, 6, 29, 30] 13 k l H)
    (fun i l H => asc l 1 = .ptr 3 0 ∧ asc l 2 = .ptr 4 0 ∧ asc l 4 = .ptr 5 0 ∧ asc l 6 = .ptr 12 0 ∧ asc l 29 = ii g ∧ asc l 30 = ii i ∧ ∃ G, H = ([.slot, .slot, lo 4 i (encB (layF unt i)), .cells 25 [.c x0, .c x1, .c x2, .c x3], .cells 25 [.c z0, .c z1, .c z2, .c z3], .cells 128 (lifeC y0 y1 y2 y3 y4 c no unt.length), .row false 3 c6, .row false 3 c7, .row false 3 c8, .row false 3 c9, rI unt, .map 123 (entsI (layP i)), .cells 125 [.hmap 11, lv 2 1 i]]) ++ G)
    (fun z => ∃ l', z = some (.exit 0 (fr 208 l') ([.slot, .slot, lo 4 g (encB (layF unt g)), .cells 25 [.c x0, .c x1, .c x2, .c x3], .cells 25 [.c z0, .c z1, .c z2, .c z3], .cells 128 (lifeC y0 y1 y2 y3 y4 c no unt.length), .row false 3 c6, .row false 3 c7, .row false 3 c8, .row false 3 c9, rI unt, .map 123 (entsI (layP g)), .cells 125 [.hmap 11, lv 2 1 g]])) ∧ asc l' 1 = .ptr 3 0 ∧ asc l' 2 = .ptr 4 0 ∧ asc l' 4 = .ptr 5 0 ∧ asc l' 6 = .ptr 12 0 ∧ asc l' 29 = ii g ∧ asc l' 30 = ii g) ?_ g 0 k l _ (by omega) hk ⟨a1, a2, a4, a6, a29, a30, [], by rw [List.append_nil]⟩
  clear hk a1 a2 a4 a6 a29 a30
  rintro i k l H hi ⟨a1, a2, a4, a6, a29, a30, G, rfl⟩
  have ht : trim 13 (fr 208 (keep l [1, 2, 4, 6, 29, 30])) (([.slot, .slot, lo 4 i (encB (layF unt i)), .cells 25 [.c x0, .c x1, .c x2, .c x3], .cells 25 [.c z0, .c z1, .c z2, .c z3], .cells 128 (lifeC y0 y1 y2 y3 y4 c no unt.length), .row false 3 c6, .row false 3 c7, .row false 3 c8, .row false 3 c9, rI unt, .map 123 (entsI (layP i)), .cells 125 [.hmap 11, lv 2 1 i]]) ++ G) = ([.slot, .slot, lo 4 i (encB (layF unt i)), .cells 25 [.c x0, .c x1, .c x2, .c x3], .cells 25 [.c z0, .c z1, .c z2, .c z3], .cells 128 (lifeC y0 y1 y2 y3 y4 c no unt.length), .row false 3 c6, .row false 3 c7, .row false 3 c8, .row false 3 c9, rI unt, .map 123 (entsI (layP i)), .cells 125 [.hmap 11, lv 2 1 i]]) := trim_app (by simp) (by simp only [a1, a2, a4, a6, a29, a30, entsI_under, EVb, EVc, Int.reduceEq, Int.reduceToNat, Int.reduceLE, Int.reduceLT, Int.reduceAdd, Int.reduceMul, Int.reduceSub, Int.reduceNeg, Nat.reduceAdd, Nat.reduceSub, Nat.reduceMul, Nat.reduceLT, Nat.reduceBEq, Nat.reduceEqDiff, Nat.reduceLeDiff]) (by simp only [entsI_under, EVb, EVc, Int.reduceEq, Int.reduceToNat, Int.reduceLE, Int.reduceLT, Int.reduceAdd, Int.reduceMul, Int.reduceSub, Int.reduceNeg, Nat.reduceAdd, Nat.reduceSub, Nat.reduceMul, Nat.reduceLT, Nat.reduceBEq, Nat.reduceEqDiff, Nat.reduceLeDiff])
  by_cases hc : i < g
  · have hc' : (i : Int) < ((g : Nat) : Int) := by omega
    have hc0 : (0 : Int) ≤ i := by omega
    have hw : IntKind.wrap .i64 ((i : Int) + 1) = ((i + 1 : Nat) : Int) := by rw [wrap64 (by omega) (by omega)]; omega
    have hul : (encInts unt).length = unt.length := encInts_length _
    have hx := encInts_getD (l := unt) (r := (i : Int)) hc0 (by omega)
    rw [Int.toNat_natCast] at hx
    have hiu : (i : Int) < unt.length := by omega
    have hfl := layF_length (unt := unt) (i := i) (by omega)
    rw [layP_succ, layF_succ (by omega)]
    obtain ⟨u, hU⟩ : ∃ u, u = unt.getD i 0 := ⟨_, rfl⟩
    rw [← hU] at hx ⊢
    by_cases hi0 : i = 0
    · have hlv : lv 2 1 i = .c (.slice [] 0 true (some 0)) := by rw [hi0]; rfl
      have hlo : lo 4 i (encB (layF unt i)) = .slot := by rw [hi0]; rfl
      obtain ⟨G2, hL⟩ := lay_evA kf (layP i) (layF unt i) i u (by rw [hi0]; rfl) (layP_none i) (by omega)
      simp only [hfl, ii, hlv] at hL
      simp only [loopR_succ, ht]
      simp only [a1, a2, a4, a6, a29, a30, hc', hc0, hw, hul, hx, hiu, entsI_ids, entsI_ren, hL, hlv, hlo, loopR_succ, loopOf, findLoop, firstRegion, Option.some_or, Option.none_or, Option.getD_some, Option.some.injEq, Try.f44, FT, Int.reduceEq, Int.reduceToNat, Int.reduceLE, Int.reduceLT, Int.reduceAdd, Int.reduceMul, Int.reduceSub, Int.reduceNeg, Nat.reduceAdd, Nat.reduceSub, Nat.reduceMul, Nat.reduceLT, Nat.reduceBEq, Nat.reduceEqDiff, Nat.reduceLeDiff]
      refine .inr ⟨_, _, hc, rfl, (by rfl), (by rfl), (by rfl), (by rfl), (by rfl), (by rfl), ?_⟩
      rw [lv_pos (s := 2) (sz := 1) (Nat.succ_pos i), lo_pos (e := 4) (Nat.succ_pos i), Nat.mul_one]
      exact ⟨_, by rfl⟩
    · have hip : 0 < i := by omega
      have hlv : lv 2 1 i = hI 2 i := by rw [lv_pos hip, Nat.mul_one]
      have hlo : lo 4 i (encB (layF unt i)) = rB (layF unt i) := by rw [lo_pos hip]
      obtain ⟨G2, hL⟩ := lay_evB kf (layP i) (layF unt i) i u (by intro h; rw [h] at hfl; simp at hfl; omega) (layP_none i) (by omega)
      simp only [hfl, ii, hlv] at hL
      simp only [loopR_succ, ht]
      simp only [a1, a2, a4, a6, a29, a30, hc', hc0, hw, hul, hx, hiu, entsI_ids, entsI_ren, hL, hlv, hlo, loopR_succ, loopOf, findLoop, firstRegion, Option.some_or, Option.none_or, Option.getD_some, Option.some.injEq, Try.f44, FT, Int.reduceEq, Int.reduceToNat, Int.reduceLE, Int.reduceLT, Int.reduceAdd, Int.reduceMul, Int.reduceSub, Int.reduceNeg, Nat.reduceAdd, Nat.reduceSub, Nat.reduceMul, Nat.reduceLT, Nat.reduceBEq, Nat.reduceEqDiff, Nat.reduceLeDiff]
      refine .inr ⟨_, _, hc, rfl, (by rfl), (by rfl), (by rfl), (by rfl), (by rfl), (by rfl), ?_⟩
      rw [lv_pos (s := 2) (sz := 1) (Nat.succ_pos i), lo_pos (e := 4) (Nat.succ_pos i), Nat.mul_one]
      exact ⟨_, by rfl⟩
  · refine .inl ?_
    obtain rfl : i = g := by omega
    have hc' : ¬ (((i : Nat) : Int) < ((i : Nat) : Int)) := by omega
    simp only [loopR_succ, ht]
    simp only [a1, a2, a4, a6, a29, a30, hc', loopR_succ, loopOf, findLoop, firstRegion, Option.some_or, Option.none_or, Option.getD_some, Option.some.injEq, Try.f44, FT, Int.reduceEq, Int.reduceToNat, Int.reduceLE, Int.reduceLT, Int.reduceAdd, Int.reduceMul, Int.reduceSub, Int.reduceNeg, Nat.reduceAdd, Nat.reduceSub, Nat.reduceMul, Nat.reduceLT, Nat.reduceBEq, Nat.reduceEqDiff, Nat.reduceLeDiff]
    exact ⟨_, rfl, (by rfl), (by rfl), (by rfl), (by rfl), (by rfl), (by rfl)⟩
end Go.Proofs.Sw
namespace Go.Proofs.Sw
open Go.Ab
variable [Globals]
structure Pk where
  at_ : List (Int × Int)
  free : List Bool
  code : List Ins
  regs : Int
def freeOne (at_ : List (Int × Int)) (unt : List Int) (k : Nat) (f : List Bool) (v : Int) : List Bool := if unt.getD v.toNat 0 = k then f.set (atI at_ v).toNat true else f
def pkStep (L : Lv) (unt : List Int) (q : Pk) (k : Nat) (x : Ins) : Pk :=
  let f2 := freeOne q.at_ unt k (freeOne q.at_ unt k q.free (L.a.getD k 0)) (L.b.getD k 0)
  ⟨q.at_ ++ [(L.sets.getD k 0, (leastM f2 : Int))], giveF f2, q.code ++ [⟨x.op, leastM f2, atI q.at_ (L.a.getD k 0), if x.op = 3 ∨ x.op = 4 then atI q.at_ (L.b.getD k 0) else x.b, x.c⟩],
    if ((leastM f2 : Nat) : Int) + 1 > q.regs then ((leastM f2 : Nat) : Int) + 1 else q.regs⟩
def pkAt (L : Lv) (unt : List Int) (q0 : Pk) (need : List Bool) (code : List Ins) : Nat → Pk
  | 0 => q0
  | i + 1 => match code[i]? with
    | some x => if need.getD i false = true then pkStep L unt (pkAt L unt q0 need code i) i x else pkAt L unt q0 need code i
    | none => pkAt L unt q0 need code i
theorem pkAt_succ {L : Lv} {unt : List Int} {q0 : Pk} {need : List Bool} {code : List Ins} {i : Nat} (h : i < code.length) : pkAt L unt q0 need code (i + 1) = if need.getD i false = true then pkStep L unt (pkAt L unt q0 need code i) i code[i] else pkAt L unt q0 need code i := by
  rw [pkAt, List.getElem?_eq_getElem h]
structure PkOk (q : Pk) : Prop where
  pos : 0 < q.free.length
  at_ : ∀ e ∈ q.at_, 0 ≤ e.2 ∧ e.2 < q.free.length
theorem lookI_mem {k : Int} : ∀ {es : List (Int × Int)} {p : Nat × Int}, lookI k es = some p → (k, p.2) ∈ es
  | [], _, h => by cases h
  | e :: es, p, h => by
    rw [lookI] at h
    split at h
    · rename_i hk
      injection h with h
      subst h
      rw [hk]
      exact List.mem_cons_self ..
    · obtain ⟨q, hq, rfl⟩ := Option.map_eq_some_iff.1 h
      have := lookI_mem hq
      exact List.mem_cons_of_mem _ this
theorem PkOk.at_lt {q : Pk} (h : PkOk q) (v : Int) : 0 ≤ atI q.at_ v ∧ atI q.at_ v < q.free.length := by
  unfold atI
  cases hl : lookI v q.at_ with
  | none => have := h.pos; simp only; omega
  | some p => exact h.at_ _ (lookI_mem hl)
theorem freeOne_length {a : List (Int × Int)} {unt : List Int} {k : Nat} {f : List Bool} {v : Int} : (freeOne a unt k f v).length = f.length := by
  unfold freeOne; split <;> simp
theorem giveF_length (f : List Bool) : (giveF f).length = max f.length (leastM f + 1) := by
  have := leastM_le f
  unfold giveF
  split <;> simp <;> omega
theorem pkStep_ok {L : Lv} {unt : List Int} {q : Pk} {k : Nat} {x : Ins} (h : PkOk q) : PkOk (pkStep L unt q k x) := by
  have hp := h.pos
  have hl := giveF_length (freeOne q.at_ unt k (freeOne q.at_ unt k q.free (L.a.getD k 0)) (L.b.getD k 0))
  rw [freeOne_length, freeOne_length] at hl
  refine ⟨by simp only [pkStep]; omega, fun e he => ?_⟩
  simp only [pkStep, List.mem_append, List.mem_singleton] at he ⊢
  rcases he with he | rfl
  · have := h.at_ e he; omega
  · simp only; omega
theorem idx62 (a b : Int) {i : Nat} (h : i < 2) : indexA Try.prog 62 (.agg [.c (.int .i64 a), .c (.int .i64 b)]) (.c (.int .i64 (i : Int))) = some (.c (.int .i64 (if i = 0 then a else b))) := by
  obtain rfl | rfl : i = 0 ∨ i = 1 := by omega
  · kernel_rfl
  · kernel_rfl
end Go.Proofs.Sw
namespace Go.Proofs.Sw
open Go.Ab
variable [Globals]
theorem look11 {o0 o1 o2 o3 o4 o5 o6 o7 o8 o9 o10 : AObj} {X : Heap} {es : List (Int × Int)} {k : Int} :
    lookupA Try.prog (o0 :: o1 :: o2 :: o3 :: o4 :: o5 :: o6 :: o7 :: o8 :: o9 :: o10 :: .map 123 (entsI es) :: X) 123 (.hmap 11) (.c (.int .i64 k)) false = some (.c (.int .i64 (atI es k))) := look_valI rfl
def freeAt (at_ : List (Int × Int)) (unt : List Int) (k : Nat) (f : List Bool) (a b : Int) : Nat → List Bool
  | 0 => f
  | 1 => freeOne at_ unt k f a
  | _ => freeOne at_ unt k (freeOne at_ unt k f a) b
theorem freeAt_succ {at_ : List (Int × Int)} {unt : List Int} {k : Nat} {f : List Bool} {a b : Int} {i : Nat} (h : i < 2) : freeAt at_ unt k f a b (i + 1) = freeOne at_ unt k (freeAt at_ unt k f a b i) (if i = 0 then a else b) := by
  obtain rfl | rfl : i = 0 ∨ i = 1 := by omega
  · rfl
  · rfl
theorem freeAt_length {at_ : List (Int × Int)} {unt : List Int} {k : Nat} {f : List Bool} {a b : Int} {i : Nat} : (freeAt at_ unt k f a b i).length = f.length := by
  unfold freeAt
  split <;> simp [freeOne_length]
theorem loop_Pack22 (kf : Nat) (o0 o1 o3 o4 o6 o7 o8 o9 o13 o14 : AObj) (uo0 : AObj.under 15 o0 = true) (uo1 : AObj.under 15 o1 = true) (uo3 : AObj.under 15 o3 = true) (uo4 : AObj.under 15 o4 = true) (uo6 : AObj.under 15 o6 = true) (uo7 : AObj.under 15 o7 = true) (uo8 : AObj.under 15 o8 = true) (uo9 : AObj.under 15 o9 = true) (uo13 : AObj.under 15 o13 = true) (uo14 : AObj.under 15 o14 = true) (y0 y1 y2 y3 y4 : IV) (c no : Nat) (unt : List Int) (q : Pk) (hq : PkOk q) (kk : Nat) (a b : Int) (ha : 0 ≤ a ∧ a < unt.length) (hb : 0 ≤ b ∧ b < unt.length) (cl : Int) (sc : IV) (k : Nat) (l : Ass) (z : Option Out) (hz : loopR Try.prog tab kf none LB44_22 44 208 [2, 4, 6, 8, 9, 10, 77, 78, 79, 137, 138] 15 k l ([o0, o1, rB (freeAt q.at_ unt kk q.free a b 0), o3, o4, .cells 128 (lifeC y0 y1 y2 y3 y4 c no unt.length), o6, o7, o8, o9, rI unt, .map 123 (entsI q.at_), .cells 125 [.hmap 11, hI 2 q.free.length], o13, o14]) = z) (hk : 2 < k) (a2 : asc l 2 = .ptr 4 0) (a4 : asc l 4 = .ptr 5 0) (a6 : asc l 6 = .ptr 12 0) (a8 : asc l 8 = .ptr 13 0) (a9 : asc l 9 = ii kk) (a10 : asc l 10 = .ptr 14 0) (a77 : asc l 77 = .c sc) (a78 : asc l 78 = ii cl) (a79 : asc l 79 = ii kk) (a137 : asc l 137 = .agg [ii a, ii b]) (a138 : asc l 138 = ii 0) :
    ∃ l', z = some (.exit 4 (fr 208 l') ([o0, o1, rB (freeAt q.at_ unt kk q.free a b 2), o3, o4, .cells 128 (lifeC y0 y1 y2 y3 y4 c no unt.length), o6, o7, o8, o9, rI unt, .map 123 (entsI q.at_), .cells 125 [.hmap 11, hI 2 q.free.length], o13, o14])) ∧ asc l' 2 = .ptr 4 0 ∧ asc l' 4 = .ptr 5 0 ∧ asc l' 6 = .ptr 12 0 ∧ asc l' 8 = .ptr 13 0 ∧ asc l' 9 = ii kk ∧ asc l' 10 = .ptr 14 0 ∧ asc l' 77 = .c sc ∧ asc l' 78 = ii cl ∧ asc l' 79 = ii kk ∧ asc l' 137 = .agg [ii a, ii b] ∧ asc l' 138 = ii 2 := by
  subst hz
  refine loop_nat 2 (fun k l H => loopR Try.prog tab kf none LB44_22 44 208 [2, 4, 6, 8, 9, 10, 77, 78, 79, 137, 138] 15 k l H)
    (fun i l H => asc l 2 = .ptr 4 0 ∧ asc l 4 = .ptr 5 0 ∧ asc l 6 = .ptr 12 0 ∧ asc l 8 = .ptr 13 0 ∧ asc l 9 = ii kk ∧ asc l 10 = .ptr 14 0 ∧ asc l 77 = .c sc ∧ asc l 78 = ii cl ∧ asc l 79 = ii kk ∧ asc l 137 = .agg [ii a, ii b] ∧ asc l 138 = ii i ∧ ∃ G, H = ([o0, o1, rB (freeAt q.at_ unt kk q.free a b i), o3, o4, .cells 128 (lifeC y0 y1 y2 y3 y4 c no unt.length), o6, o7, o8, o9, rI unt, .map 123 (entsI q.at_), .cells 125 [.hmap 11, hI 2 q.free.length], o13, o14]) ++ G)
    (fun z => ∃ l', z = some (.exit 4 (fr 208 l') ([o0, o1, rB (freeAt q.at_ unt kk q.free a b 2), o3, o4, .cells 128 (lifeC y0 y1 y2 y3 y4 c no unt.length), o6, o7, o8, o9, rI unt, .map 123 (entsI q.at_), .cells 125 [.hmap 11, hI 2 q.free.length], o13, o14])) ∧ asc l' 2 = .ptr 4 0 ∧ asc l' 4 = .ptr 5 0 ∧ asc l' 6 = .ptr 12 0 ∧ asc l' 8 = .ptr 13 0 ∧ asc l' 9 = ii kk ∧ asc l' 10 = .ptr 14 0 ∧ asc l' 77 = .c sc ∧ asc l' 78 = ii cl ∧ asc l' 79 = ii kk ∧ asc l' 137 = .agg [ii a, ii b] ∧ asc l' 138 = ii 2) ?_ 2 0 k l _ (by omega) hk ⟨a2, a4, a6, a8, a9, a10, a77, a78, a79, a137, a138, [], by rw [List.append_nil]⟩
  clear hk a2 a4 a6 a8 a9 a10 a77 a78 a79 a137 a138
  rintro i k l H hi ⟨a2, a4, a6, a8, a9, a10, a77, a78, a79, a137, a138, G, rfl⟩
  have ht : trim 15 (fr 208 (keep l [2, 4, 6, 8, 9, 10, 77, 78, 79, 137, 138])) (([o0, o1, rB (freeAt q.at_ unt kk q.free a b i), o3, o4, .cells 128 (lifeC y0 y1 y2 y3 y4 c no unt.length), o6, o7, o8, o9, rI unt, .map 123 (entsI q.at_), .cells 125 [.hmap 11, hI 2 q.free.length], o13, o14]) ++ G) = ([o0, o1, rB (freeAt q.at_ unt kk q.free a b i), o3, o4, .cells 128 (lifeC y0 y1 y2 y3 y4 c no unt.length), o6, o7, o8, o9, rI unt, .map 123 (entsI q.at_), .cells 125 [.hmap 11, hI 2 q.free.length], o13, o14]) := trim_app (by simp) (by simp only [a2, a4, a6, a8, a9, a10, a77, a78, a79, a137, a138, entsI_under, uo0, uo1, uo3, uo4, uo6, uo7, uo8, uo9, uo13, uo14, EVb, EVc, Int.reduceEq, Int.reduceToNat, Int.reduceLE, Int.reduceLT, Int.reduceAdd, Int.reduceMul, Int.reduceSub, Int.reduceNeg, Nat.reduceAdd, Nat.reduceSub, Nat.reduceMul, Nat.reduceLT, Nat.reduceBEq, Nat.reduceEqDiff, Nat.reduceLeDiff]) (by simp only [entsI_under, uo0, uo1, uo3, uo4, uo6, uo7, uo8, uo9, uo13, uo14, EVb, EVc, Int.reduceEq, Int.reduceToNat, Int.reduceLE, Int.reduceLT, Int.reduceAdd, Int.reduceMul, Int.reduceSub, Int.reduceNeg, Nat.reduceAdd, Nat.reduceSub, Nat.reduceMul, Nat.reduceLT, Nat.reduceBEq, Nat.reduceEqDiff, Nat.reduceLeDiff])
  by_cases hc : i < 2
  · have hc' : (i : Int) < ((2 : Nat) : Int) := by omega
    have hc0 : (0 : Int) ≤ i := by omega
    have hw : IntKind.wrap .i64 ((i : Int) + 1) = ((i + 1 : Nat) : Int) := by rw [wrap64 (by omega) (by omega)]; omega
    have hc2 : (i : Int) < 2 := by omega
    have hix := idx62 a b hc
    obtain ⟨v, hv⟩ : ∃ v, v = if i = 0 then a else b := ⟨_, rfl⟩
    rw [freeAt_succ hc]
    rw [← hv] at hix ⊢
    have hvb : 0 ≤ v ∧ v < unt.length := by rw [hv]; split <;> assumption
    obtain ⟨v0, v1⟩ := hvb
    have hul := encInts_length unt
    have hx := encInts_getD v0 v1
    have hfl := freeAt_length (at_ := q.at_) (unt := unt) (k := kk) (f := q.free) (a := a) (b := b) (i := i)
    obtain ⟨f, hf⟩ : ∃ f, f = freeAt q.at_ unt kk q.free a b i := ⟨_, rfl⟩
    rw [← hf] at hfl ht ⊢
    have hbl := encB_length f
    obtain ⟨r0, r1⟩ := hq.at_lt v
    have r2 : (atI q.at_ v).toNat < q.free.length := by omega
    by_cases hk : unt.getD v.toNat 0 = kk
    · have hfo : freeOne q.at_ unt kk f v = f.set (atI q.at_ v).toNat true := by unfold freeOne; rw [if_pos hk]
      simp only [loopR_succ, ht]
      simp only [a2, a4, a6, a8, a9, a10, a77, a78, a79, a137, a138, hc', hc0, hw, hix, hc2, hul, hx, v0, v1, hk, loopR_succ, loopOf, findLoop, firstRegion, Option.some_or, Option.none_or, Option.getD_some, Option.some.injEq, Try.f44, FT, Int.reduceEq, Int.reduceToNat, Int.reduceLE, Int.reduceLT, Int.reduceAdd, Int.reduceMul, Int.reduceSub, Int.reduceNeg, Nat.reduceAdd, Nat.reduceSub, Nat.reduceMul, Nat.reduceLT, Nat.reduceBEq, Nat.reduceEqDiff, Nat.reduceLeDiff]
      rw [evalCode_drawn Try.f44 25 dr44_25]; rotate_left; rfl
      simp only [a2, a4, a6, a8, a9, a10, a77, a78, a79, a137, a138, hc', hc0, hw, look11, hbl, hfl, r0, r1, r2, encB_set, EVd, List.getElem?_nil, Nat.reducePow, Nat.reduceDiv, Nat.reduceMod, FT, Int.reduceEq, Int.reduceToNat, Int.reduceLE, Int.reduceLT, Int.reduceAdd, Int.reduceMul, Int.reduceSub, Int.reduceNeg, Nat.reduceAdd, Nat.reduceSub, Nat.reduceMul, Nat.reduceLT, Nat.reduceBEq, Nat.reduceEqDiff, Nat.reduceLeDiff]
      rw [hfo]
      refine .inr ⟨_, _, hc, rfl, (by rfl), (by rfl), (by rfl), (by rfl), (by rfl), (by rfl), (by rfl), (by rfl), (by rfl), (by rfl), (by rfl), ?_⟩
      exact ⟨_, by rfl⟩
    · have hfo : freeOne q.at_ unt kk f v = f := by unfold freeOne; rw [if_neg hk]
      rw [hfo]
      simp only [loopR_succ, ht]
      simp only [a2, a4, a6, a8, a9, a10, a77, a78, a79, a137, a138, hc', hc0, hw, hix, hc2, hul, hx, v0, v1, hk, loopR_succ, loopOf, findLoop, firstRegion, Option.some_or, Option.none_or, Option.getD_some, Option.some.injEq, Try.f44, FT, Int.reduceEq, Int.reduceToNat, Int.reduceLE, Int.reduceLT, Int.reduceAdd, Int.reduceMul, Int.reduceSub, Int.reduceNeg, Nat.reduceAdd, Nat.reduceSub, Nat.reduceMul, Nat.reduceLT, Nat.reduceBEq, Nat.reduceEqDiff, Nat.reduceLeDiff]
      refine .inr ⟨_, _, hc, rfl, (by rfl), (by rfl), (by rfl), (by rfl), (by rfl), (by rfl), (by rfl), (by rfl), (by rfl), (by rfl), (by rfl), ?_⟩
      exact ⟨_, by rfl⟩
  · refine .inl ?_
    obtain rfl : i = 2 := by omega
    have hc' : ¬ (((2 : Nat) : Int) < ((2 : Nat) : Int)) := by omega
    simp only [loopR_succ, ht]
    simp only [a2, a4, a6, a8, a9, a10, a77, a78, a79, a137, a138, hc', loopR_succ, loopOf, findLoop, firstRegion, Option.some_or, Option.none_or, Option.getD_some, Option.some.injEq, Try.f44, FT, Int.reduceEq, Int.reduceToNat, Int.reduceLE, Int.reduceLT, Int.reduceAdd, Int.reduceMul, Int.reduceSub, Int.reduceNeg, Nat.reduceAdd, Nat.reduceSub, Nat.reduceMul, Nat.reduceLT, Nat.reduceBEq, Nat.reduceEqDiff, Nat.reduceLeDiff]
    exact ⟨_, rfl, (by rfl), (by rfl), (by rfl), (by rfl), (by rfl), (by rfl), (by rfl), (by rfl), (by rfl), (by rfl), (by rfl)⟩
end Go.Proofs.Sw
