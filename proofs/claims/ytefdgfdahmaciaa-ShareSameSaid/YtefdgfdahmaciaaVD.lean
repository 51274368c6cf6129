/- A part of the proof: what functions of the program answer; conditions stand in each theorem. -/
import Derived.Test.YtefdgfdahmaciaaVC
import Derived.Test.YtefdgfdahmaciaaVA
set_option linter.unusedVariables false
set_option linter.unusedSimpArgs false
set_option linter.unusedSectionVars false
namespace Go.Proofs.Sw.W
open Go.Ab
section
variable [Globals]
theorem getD_small {R : List RI} {i m : Nat} (h : ∀ r ∈ R, (nD r.v).length ≤ m) : (nD (R.getD i zN).v).length ≤ m := by
  by_cases hi : i < R.length
  · rw [List.getD_eq_getElem?_getD, List.getElem?_eq_getElem hi]
    exact h _ (List.getElem_mem hi)
  · rw [List.getD_eq_getElem?_getD, List.getElem?_eq_none (by omega)]
    simp [nD, dig_zero]
theorem nD_small {c : Int} (h : c.natAbs ≤ 1000) : (nD c).length ≤ 1 := dig_len (k := 1) (by omega)
theorem nD_pow {n : Nat} (h : n ≤ 64) : (nD ((2 ^ n : Nat) : Int)).length ≤ 3 := by
  refine dig_len (k := 3) ?_
  rw [Int.natAbs_natCast]
  exact Nat.lt_of_le_of_lt (Nat.pow_le_pow_right (by omega) h) (by decide)
theorem do_ev (k : Nat) (R : List RI) (n : Nat) (o t a b c : Int) (hn : R.length = n) (hn6 : n ≤ 1000000) (h18 : 1 ≤ o ∧ o ≤ 8) (ha : 0 ≤ a ∧ a < n) (hb : 0 ≤ b ∧ b < n) (hc : (o = 5 ∨ o = 6 → c ≠ 0 ∧ -512 ≤ c ∧ c ≤ 512) ∧ (o = 7 ∨ o = 8 → 1 ≤ c ∧ c ≤ 64)) (hR : ∀ r ∈ R, (nD r.v).length ≤ 30000) (hk : 70000 ≤ k) :
    ∃ (z : RI) (ok : Bool), numF o c (R.getD a.toNat zN).v (R.getD b.toNat zN).v = (if ok = true then some z.v else none) ∧
      evalT Try.prog (mkHints tab) (k+9) (.fn 113) [fnsV, .hsl 0 0 n (n * 2) 2, aI o t a b c] [rN R] = some (.tup [aW z, bb ok], [rN R]) := by
  have hx := encN_two (l := R) (i := a.toNat) (by omega)
  have hy := encN_two (l := R) (i := b.toNat) (by omega)
  have hla := getD_small (i := a.toNat) hR
  have hlb := getD_small (i := b.toNat) hR
  have hel := encN_length R
  rw [hn] at hel
  obtain ⟨A, hA⟩ : ∃ A, A = R.getD a.toNat zN := ⟨_, rfl⟩
  obtain ⟨B, hB⟩ : ∃ B, B = R.getD b.toNat zN := ⟨_, rfl⟩
  rw [← hA] at hx hla ⊢
  rw [← hB] at hy hlb ⊢
  have ha2 : a.toNat * 2 + 2 ≤ n * 2 := by omega
  have hb2 : b.toNat * 2 + 2 ≤ n * 2 := by omega
  obtain ⟨ha0, ha1⟩ := ha
  obtain ⟨hb0, hb1⟩ := hb
  obtain ho | ho | ho | ho | ho | ho | ho | ho : o = 1 ∨ o = 2 ∨ o = 3 ∨ o = 4 ∨ o = 5 ∨ o = 6 ∨ o = 7 ∨ o = 8 := by omega
  · refine ⟨A, true, by rw [ho]; rfl, ?_⟩
    subst ho
    rw [ev113]
    simp only [Try.f113, fnsV, aI, aW, bb, FT, Int.reduceEq, Int.reduceToNat, Int.reduceLE, Int.reduceLT, Int.reduceAdd, Int.reduceMul, Int.reduceSub, Int.reduceNeg, Nat.reduceAdd, Nat.reduceSub, Nat.reduceMul, Nat.reduceLT, Nat.reduceBEq, Nat.reduceEqDiff, Nat.reduceLeDiff]
    rw [evalCode_drawn Try.f113 1 dr113_1]; rotate_left; rfl
    simp (config := { maxSteps := 4000000 }) only [hel, ha0, ha1, hb0, hb1, ha2, hb2, hx, hy, EVd, List.getElem?_nil, Nat.reducePow, Nat.reduceDiv, Nat.reduceMod, FT, Int.reduceEq, Int.reduceToNat, Int.reduceLE, Int.reduceLT, Int.reduceAdd, Int.reduceMul, Int.reduceSub, Int.reduceNeg, Nat.reduceAdd, Nat.reduceSub, Nat.reduceMul, Nat.reduceLT, Nat.reduceBEq, Nat.reduceEqDiff, Nat.reduceLeDiff]
  · obtain ⟨z, hz, h⟩ := Neg_ev (k + 6) A
    simp only [run, aW, bb, ii] at h
    refine ⟨z, true, by rw [ho, hz]; rfl, ?_⟩
    subst ho
    rw [ev113]
    simp only [Try.f113, fnsV, aI, aW, bb, FT, Int.reduceEq, Int.reduceToNat, Int.reduceLE, Int.reduceLT, Int.reduceAdd, Int.reduceMul, Int.reduceSub, Int.reduceNeg, Nat.reduceAdd, Nat.reduceSub, Nat.reduceMul, Nat.reduceLT, Nat.reduceBEq, Nat.reduceEqDiff, Nat.reduceLeDiff]
    rw [evalCode_drawn Try.f113 1 dr113_1]; rotate_left; rfl
    simp (config := { maxSteps := 4000000 }) only [hel, ha0, ha1, hb0, hb1, ha2, hb2, hx, hy, h, EVd, List.getElem?_nil, Nat.reducePow, Nat.reduceDiv, Nat.reduceMod, FT, Int.reduceEq, Int.reduceToNat, Int.reduceLE, Int.reduceLT, Int.reduceAdd, Int.reduceMul, Int.reduceSub, Int.reduceNeg, Nat.reduceAdd, Nat.reduceSub, Nat.reduceMul, Nat.reduceLT, Nat.reduceBEq, Nat.reduceEqDiff, Nat.reduceLeDiff]
  · obtain ⟨z, hz, h⟩ := Add_ev (k + 4) A B (by omega) (by omega) (by omega)
    simp only [run, aW, bb, ii] at h
    refine ⟨z, true, by rw [ho, hz]; rfl, ?_⟩
    subst ho
    rw [ev113]
    simp only [Try.f113, fnsV, aI, aW, bb, FT, Int.reduceEq, Int.reduceToNat, Int.reduceLE, Int.reduceLT, Int.reduceAdd, Int.reduceMul, Int.reduceSub, Int.reduceNeg, Nat.reduceAdd, Nat.reduceSub, Nat.reduceMul, Nat.reduceLT, Nat.reduceBEq, Nat.reduceEqDiff, Nat.reduceLeDiff]
    rw [evalCode_drawn Try.f113 1 dr113_1]; rotate_left; rfl
    simp (config := { maxSteps := 4000000 }) only [hel, ha0, ha1, hb0, hb1, ha2, hb2, hx, hy, h, EVd, List.getElem?_nil, Nat.reducePow, Nat.reduceDiv, Nat.reduceMod, FT, Int.reduceEq, Int.reduceToNat, Int.reduceLE, Int.reduceLT, Int.reduceAdd, Int.reduceMul, Int.reduceSub, Int.reduceNeg, Nat.reduceAdd, Nat.reduceSub, Nat.reduceMul, Nat.reduceLT, Nat.reduceBEq, Nat.reduceEqDiff, Nat.reduceLeDiff]
  · obtain ⟨z, hz, h⟩ := Sub_ev (k + 3) A B (by omega) (by omega) (by omega)
    simp only [run, aW, bb, ii] at h
    refine ⟨z, true, by rw [ho, hz]; rfl, ?_⟩
    subst ho
    rw [ev113]
    simp only [Try.f113, fnsV, aI, aW, bb, FT, Int.reduceEq, Int.reduceToNat, Int.reduceLE, Int.reduceLT, Int.reduceAdd, Int.reduceMul, Int.reduceSub, Int.reduceNeg, Nat.reduceAdd, Nat.reduceSub, Nat.reduceMul, Nat.reduceLT, Nat.reduceBEq, Nat.reduceEqDiff, Nat.reduceLeDiff]
    rw [evalCode_drawn Try.f113 1 dr113_1]; rotate_left; rfl
    simp (config := { maxSteps := 4000000 }) only [hel, ha0, ha1, hb0, hb1, ha2, hb2, hx, hy, h, EVd, List.getElem?_nil, Nat.reducePow, Nat.reduceDiv, Nat.reduceMod, FT, Int.reduceEq, Int.reduceToNat, Int.reduceLE, Int.reduceLT, Int.reduceAdd, Int.reduceMul, Int.reduceSub, Int.reduceNeg, Nat.reduceAdd, Nat.reduceSub, Nat.reduceMul, Nat.reduceLT, Nat.reduceBEq, Nat.reduceEqDiff, Nat.reduceLeDiff]
  · obtain ⟨hc1, hc2, hc3⟩ := hc.1 (.inl ho)
    obtain ⟨w, hw, h1⟩ := Of_ev (k + 4) c (by omega) (by omega) (by omega)
    have hwl := nD_small (c := w.v) (by omega)
    obtain ⟨z, hz, h⟩ := Mul_ev (k + 4) A w (by omega) (by omega) (by omega)
    have hcw : IntKind.wrap .i64 c = c := wrap64 (by omega) (by omega)
    simp only [run, aW, bb, ii] at h h1
    refine ⟨z, true, by rw [ho, hz, hw]; rfl, ?_⟩
    subst ho
    rw [ev113]
    simp only [Try.f113, fnsV, aI, aW, bb, FT, Int.reduceEq, Int.reduceToNat, Int.reduceLE, Int.reduceLT, Int.reduceAdd, Int.reduceMul, Int.reduceSub, Int.reduceNeg, Nat.reduceAdd, Nat.reduceSub, Nat.reduceMul, Nat.reduceLT, Nat.reduceBEq, Nat.reduceEqDiff, Nat.reduceLeDiff]
    rw [evalCode_drawn Try.f113 1 dr113_1]; rotate_left; rfl
    simp (config := { maxSteps := 4000000 }) only [hel, ha0, ha1, hb0, hb1, ha2, hb2, hx, hy, EVd, List.getElem?_nil, Nat.reducePow, Nat.reduceDiv, Nat.reduceMod, FT, Int.reduceEq, Int.reduceToNat, Int.reduceLE, Int.reduceLT, Int.reduceAdd, Int.reduceMul, Int.reduceSub, Int.reduceNeg, Nat.reduceAdd, Nat.reduceSub, Nat.reduceMul, Nat.reduceLT, Nat.reduceBEq, Nat.reduceEqDiff, Nat.reduceLeDiff]
    rw [evalCode_drawn Try.f113 10 dr113_10]; rotate_left; rfl
    simp (config := { maxSteps := 4000000 }) only [h1, h, hcw, EVd, List.getElem?_nil, Nat.reducePow, Nat.reduceDiv, Nat.reduceMod, FT, Int.reduceEq, Int.reduceToNat, Int.reduceLE, Int.reduceLT, Int.reduceAdd, Int.reduceMul, Int.reduceSub, Int.reduceNeg, Nat.reduceAdd, Nat.reduceSub, Nat.reduceMul, Nat.reduceLT, Nat.reduceBEq, Nat.reduceEqDiff, Nat.reduceLeDiff]
  · obtain ⟨hc1, hc2, hc3⟩ := hc.1 (.inr ho)
    obtain ⟨w, hw, h1⟩ := Of_ev (k + 4) c (by omega) (by omega) (by omega)
    have hwl := nD_small (c := w.v) (by omega)
    obtain ⟨z, hz, h⟩ := over_ev k A w (by omega) (by omega) (by omega) (by omega)
    have hcw : IntKind.wrap .i64 c = c := wrap64 (by omega) (by omega)
    simp only [run, aW, bb, ii] at h h1
    refine ⟨z, decide (A.v % w.v = 0), ?_, ?_⟩
    · rw [ho, hz, hw]
      by_cases hd : A.v % c = 0 <;> simp [numF, hd]
    subst ho
    rw [ev113]
    simp only [Try.f113, fnsV, aI, aW, bb, FT, Int.reduceEq, Int.reduceToNat, Int.reduceLE, Int.reduceLT, Int.reduceAdd, Int.reduceMul, Int.reduceSub, Int.reduceNeg, Nat.reduceAdd, Nat.reduceSub, Nat.reduceMul, Nat.reduceLT, Nat.reduceBEq, Nat.reduceEqDiff, Nat.reduceLeDiff]
    rw [evalCode_drawn Try.f113 1 dr113_1]; rotate_left; rfl
    simp (config := { maxSteps := 4000000 }) only [hel, ha0, ha1, hb0, hb1, ha2, hb2, hx, hy, EVd, List.getElem?_nil, Nat.reducePow, Nat.reduceDiv, Nat.reduceMod, FT, Int.reduceEq, Int.reduceToNat, Int.reduceLE, Int.reduceLT, Int.reduceAdd, Int.reduceMul, Int.reduceSub, Int.reduceNeg, Nat.reduceAdd, Nat.reduceSub, Nat.reduceMul, Nat.reduceLT, Nat.reduceBEq, Nat.reduceEqDiff, Nat.reduceLeDiff]
    rw [evalCode_drawn Try.f113 14 dr113_14]; rotate_left; rfl
    simp (config := { maxSteps := 4000000 }) only [h1, h, hcw, EVd, List.getElem?_nil, Nat.reducePow, Nat.reduceDiv, Nat.reduceMod, FT, Int.reduceEq, Int.reduceToNat, Int.reduceLE, Int.reduceLT, Int.reduceAdd, Int.reduceMul, Int.reduceSub, Int.reduceNeg, Nat.reduceAdd, Nat.reduceSub, Nat.reduceMul, Nat.reduceLT, Nat.reduceBEq, Nat.reduceEqDiff, Nat.reduceLeDiff]
  · obtain ⟨hc1, hc2⟩ := hc.2 (.inl ho)
    have hcn : ((c.toNat : Nat) : Int) = c := by omega
    obtain ⟨w, hw, h1⟩ := power_ev (k + 2) c.toNat (by omega) (by omega)
    have hwl : (nD w.v).length ≤ 3 := by rw [hw]; exact nD_pow (by omega)
    obtain ⟨z, hz, h⟩ := Mul_ev (k + 4) A w (by omega) (by omega) (by omega)
    simp only [run, aW, bb, ii, hcn] at h h1
    refine ⟨z, true, by rw [ho, hz, hw]; rfl, ?_⟩
    subst ho
    rw [ev113]
    simp only [Try.f113, fnsV, aI, aW, bb, FT, Int.reduceEq, Int.reduceToNat, Int.reduceLE, Int.reduceLT, Int.reduceAdd, Int.reduceMul, Int.reduceSub, Int.reduceNeg, Nat.reduceAdd, Nat.reduceSub, Nat.reduceMul, Nat.reduceLT, Nat.reduceBEq, Nat.reduceEqDiff, Nat.reduceLeDiff]
    rw [evalCode_drawn Try.f113 1 dr113_1]; rotate_left; rfl
    simp (config := { maxSteps := 4000000 }) only [hel, ha0, ha1, hb0, hb1, ha2, hb2, hx, hy, EVd, List.getElem?_nil, Nat.reducePow, Nat.reduceDiv, Nat.reduceMod, FT, Int.reduceEq, Int.reduceToNat, Int.reduceLE, Int.reduceLT, Int.reduceAdd, Int.reduceMul, Int.reduceSub, Int.reduceNeg, Nat.reduceAdd, Nat.reduceSub, Nat.reduceMul, Nat.reduceLT, Nat.reduceBEq, Nat.reduceEqDiff, Nat.reduceLeDiff]
    rw [evalCode_drawn Try.f113 12 dr113_12]; rotate_left; rfl
    simp (config := { maxSteps := 4000000 }) only [h1, h, EVd, List.getElem?_nil, Nat.reducePow, Nat.reduceDiv, Nat.reduceMod, FT, Int.reduceEq, Int.reduceToNat, Int.reduceLE, Int.reduceLT, Int.reduceAdd, Int.reduceMul, Int.reduceSub, Int.reduceNeg, Nat.reduceAdd, Nat.reduceSub, Nat.reduceMul, Nat.reduceLT, Nat.reduceBEq, Nat.reduceEqDiff, Nat.reduceLeDiff]
  · obtain ⟨hc1, hc2⟩ := hc.2 (.inr ho)
    have hcn : ((c.toNat : Nat) : Int) = c := by omega
    obtain ⟨w, hw, h1⟩ := power_ev (k + 2) c.toNat (by omega) (by omega)
    have hwl : (nD w.v).length ≤ 3 := by rw [hw]; exact nD_pow (by omega)
    have hw0 : 0 < 2 ^ c.toNat := Nat.pow_pos (by omega)
    obtain ⟨z, hz, h⟩ := over_ev k A w (by omega) (by omega) (by omega) (by omega)
    simp only [run, aW, bb, ii, hcn] at h h1
    refine ⟨z, decide (A.v % w.v = 0), ?_, ?_⟩
    · rw [ho, hz, hw]
      by_cases hd : A.v % ((2 ^ c.toNat : Nat) : Int) = 0
      · rw [decide_eq_true hd, if_pos rfl]
        exact if_pos hd
      · rw [decide_eq_false hd, if_neg (by decide)]
        exact if_neg hd
    subst ho
    rw [ev113]
    simp only [Try.f113, fnsV, aI, aW, bb, FT, Int.reduceEq, Int.reduceToNat, Int.reduceLE, Int.reduceLT, Int.reduceAdd, Int.reduceMul, Int.reduceSub, Int.reduceNeg, Nat.reduceAdd, Nat.reduceSub, Nat.reduceMul, Nat.reduceLT, Nat.reduceBEq, Nat.reduceEqDiff, Nat.reduceLeDiff]
    rw [evalCode_drawn Try.f113 1 dr113_1]; rotate_left; rfl
    simp (config := { maxSteps := 4000000 }) only [hel, ha0, ha1, hb0, hb1, ha2, hb2, hx, hy, EVd, List.getElem?_nil, Nat.reducePow, Nat.reduceDiv, Nat.reduceMod, FT, Int.reduceEq, Int.reduceToNat, Int.reduceLE, Int.reduceLT, Int.reduceAdd, Int.reduceMul, Int.reduceSub, Int.reduceNeg, Nat.reduceAdd, Nat.reduceSub, Nat.reduceMul, Nat.reduceLT, Nat.reduceBEq, Nat.reduceEqDiff, Nat.reduceLeDiff]
    rw [evalCode_drawn Try.f113 16 dr113_16]; rotate_left; rfl
    simp (config := { maxSteps := 4000000 }) only [h1, h, EVd, List.getElem?_nil, Nat.reducePow, Nat.reduceDiv, Nat.reduceMod, FT, Int.reduceEq, Int.reduceToNat, Int.reduceLE, Int.reduceLT, Int.reduceAdd, Int.reduceMul, Int.reduceSub, Int.reduceNeg, Nat.reduceAdd, Nat.reduceSub, Nat.reduceMul, Nat.reduceLT, Nat.reduceBEq, Nat.reduceEqDiff, Nat.reduceLeDiff]
end
end Go.Proofs.Sw.W
namespace Go.Proofs.Sw.W
open Go.Ab
section
variable [Globals]
abbrev bxN : AObj := .cells 145 [.c (.fn 114), .c (.fn 115), .c (.fn 116), .c (.fn 117), .c (.fn 118)]
abbrev bxQ (ins : Int) (n : Nat) (code : List Ins) (nl : Bool) (cap : Option Nat) (outs : List Int) (nl2 : Bool) (cap2 : Option Nat) : AObj := .cells 25 [ii ins, ii n, sC code nl cap, sI outs nl2 cap2]
theorem Run1_ev (k : Nat) (j : Int) (z : RI) : run (k+1) 94 [ii j, aW z] = some (bb true) := by
  rw [run, ev94, ans_trim]
  simp only [Try.f94, aW, bb, ii, FT, Int.reduceEq, Int.reduceToNat, Int.reduceLE, Int.reduceLT, Int.reduceAdd, Int.reduceMul, Int.reduceSub, Int.reduceNeg, Nat.reduceAdd, Nat.reduceSub, Nat.reduceMul, Nat.reduceLT, Nat.reduceBEq, Nat.reduceEqDiff, Nat.reduceLeDiff]
theorem encN_put : ∀ {l : List RI} {i : Nat} (x : RI), i < l.length → (encN l).take (i * 2) ++ [.bool (decide (x.v < 0)), .slice (encD (dig x.v.natAbs)) (dig x.v.natAbs).length x.nl x.cap] ++ (encN l).drop (i * 2 + 2) = encN (l.set i x)
  | y :: l, 0, x, _ => rfl
  | y :: l, i + 1, x, h => by
    have ih := encN_put (l := l) (i := i) x (by simpa using h)
    rw [encN, show (i + 1) * 2 = i * 2 + 1 + 1 by omega, show i * 2 + 1 + 1 + 2 = i * 2 + 2 + 1 + 1 by omega, List.take_succ_cons, List.take_succ_cons, List.drop_succ_cons, List.drop_succ_cons, List.cons_append, List.cons_append, List.cons_append, List.cons_append, ih, List.set_cons_succ, encN]
theorem vals_getN {R : List RI} {r : Int} (h0 : 0 ≤ r) (h : r < R.length) (d : Int) : (R.map RI.v).getD r.toNat d = (R.getD r.toNat zN).v := by
  have : r.toNat < R.length := by omega
  simp [List.getD_eq_getElem?_getD, this]
theorem mayM_b {x : Ins} {n : Nat} (h : mayM x n = true) : 0 ≤ x.b ∧ x.b < (n : Int) := by
  obtain ⟨_, _, m6, m7⟩ := mayM_facts h
  by_cases e : x.op = 3 ∨ x.op = 4
  · exact m7 e
  · simp only [mayM, Bool.and_eq_true, decide_eq_true_eq] at h
    obtain ⟨⟨⟨⟨_, _, _, _, h5⟩, _⟩, _⟩, _⟩ := h
    omega
theorem mayM_c {x : Ins} {n : Int} (h : mayM x n = true) : (x.op = 5 ∨ x.op = 6 → x.c ≠ 0 ∧ -512 ≤ x.c ∧ x.c ≤ 512) ∧ (x.op = 7 ∨ x.op = 8 → 1 ≤ x.c ∧ x.c ≤ 64) := by
  simp only [mayM, Bool.and_eq_true] at h
  have hc := h.1.1.2
  unfold constant at hc
  constructor
  · intro e
    rw [if_pos e, decide_eq_true_eq] at hc
    exact hc
  · intro e
    rw [if_neg (by omega), if_pos e, decide_eq_true_eq] at hc
    exact hc
theorem stepE_num {R : List RI} {x : Ins} (h : mayM x R.length = true) : stepE numSem (R.map RI.v) x = (numF x.op x.c (R.getD x.a.toNat zN).v (R.getD x.b.toNat zN).v).map fun v => (R.map RI.v).set x.to.toNat v := by
  obtain ⟨_, _, ⟨a0, a1⟩, _⟩ := mayM_facts h
  obtain ⟨b0, b1⟩ := mayM_b h
  unfold stepE
  rw [vals_getN a0 a1, vals_getN b0 b1]
  rfl
theorem loop_run2 (kf : Nat) (ins : Int) (n : Nat) (code : List Ins) (nl : Bool) (cap : Option Nat) (outs : List Int) (nl2 : Bool) (cap2 : Option Nat) (hn : n ≤ 128) (R0 : List RI) (hR0 : R0.length = n) (hS0 : ∀ r ∈ R0, (nD r.v).length ≤ 4) (hcode : ∀ x ∈ code, mayM x n = true) (hcl : code.length ≤ 200) (hkf : 70000 ≤ kf) (k : Nat) (l : Ass) (z : Option Out) (hz : loopR Try.prog tab (kf + 9) none LB92_2 92 42 [2, 3, 4, 14, 15, 16] 3 k l ([rN R0, bxN, bxQ ins n code nl cap outs nl2 cap2]) = z) (hk : code.length < k) (a2 : asc l 2 = .hsl 0 0 n (n * 2) 2) (a3 : asc l 3 = .c (.fn 94)) (a4 : asc l 4 = .ptr 1 0) (a14 : asc l 14 = sC code nl cap) (a15 : asc l 15 = ii code.length) (a16 : asc l 16 = ii 0) :
    (∃ l' R, z = some (.exit 0 (fr 42 l') [rN R, bxN, bxQ ins n code nl cap outs nl2 cap2]) ∧ runE numSem code (R0.map RI.v) = some (R.map RI.v) ∧ R.length = n ∧ (∀ r ∈ R, (nD r.v).length ≤ 700)) ∨ (runE numSem code (R0.map RI.v) = none ∧ ∃ (l' : Ass) (R : List RI) (j : Nat) (X : Heap), z = some (.ret (fr 42 l') (rN R :: X)) ∧ asc l' 8 = ii j ∧ R.length = n) := by
  subst hz
  refine loop_nat code.length (fun k l H => loopR Try.prog tab (kf + 9) none LB92_2 92 42 [2, 3, 4, 14, 15, 16] 3 k l H)
    (fun i l H => ∃ (R : List RI), asc l 2 = .hsl 0 0 n (n * 2) 2 ∧ asc l 3 = .c (.fn 94) ∧ asc l 4 = .ptr 1 0 ∧ asc l 14 = sC code nl cap ∧ asc l 15 = ii code.length ∧ asc l 16 = ii i ∧ (runE numSem (code.take i) (R0.map RI.v) = some (R.map RI.v) ∧ R.length = n ∧ (∀ r ∈ R, (nD r.v).length ≤ 4 + 3 * i)) ∧ ∃ G, H = ([rN R, bxN, bxQ ins n code nl cap outs nl2 cap2]) ++ G)
    (fun z => (∃ l' R, z = some (.exit 0 (fr 42 l') [rN R, bxN, bxQ ins n code nl cap outs nl2 cap2]) ∧ runE numSem code (R0.map RI.v) = some (R.map RI.v) ∧ R.length = n ∧ (∀ r ∈ R, (nD r.v).length ≤ 700)) ∨ (runE numSem code (R0.map RI.v) = none ∧ ∃ (l' : Ass) (R : List RI) (j : Nat) (X : Heap), z = some (.ret (fr 42 l') (rN R :: X)) ∧ asc l' 8 = ii j ∧ R.length = n)) ?_ code.length 0 k l _ (by omega) hk ⟨R0, a2, a3, a4, a14, a15, a16, ⟨rfl, hR0, hS0⟩, [], by rw [List.append_nil]⟩
  clear hk a2 a3 a4 a14 a15 a16
  rintro i k l H hi ⟨R, a2, a3, a4, a14, a15, a16, hp, G, rfl⟩
  have ht : trim 3 (fr 42 (keep l [2, 3, 4, 14, 15, 16])) (([rN R, bxN, bxQ ins n code nl cap outs nl2 cap2]) ++ G) = ([rN R, bxN, bxQ ins n code nl cap outs nl2 cap2]) := trim_app (by simp) (by simp only [a2, a3, a4, a14, a15, a16, EVb, EVc, Int.reduceEq, Int.reduceToNat, Int.reduceLE, Int.reduceLT, Int.reduceAdd, Int.reduceMul, Int.reduceSub, Int.reduceNeg, Nat.reduceAdd, Nat.reduceSub, Nat.reduceMul, Nat.reduceLT, Nat.reduceBEq, Nat.reduceEqDiff, Nat.reduceLeDiff]) (by simp only [EVb, EVc, Int.reduceEq, Int.reduceToNat, Int.reduceLE, Int.reduceLT, Int.reduceAdd, Int.reduceMul, Int.reduceSub, Int.reduceNeg, Nat.reduceAdd, Nat.reduceSub, Nat.reduceMul, Nat.reduceLT, Nat.reduceBEq, Nat.reduceEqDiff, Nat.reduceLeDiff])
  by_cases hc : i < code.length
  · have hc' : (i : Int) < ((code.length : Nat) : Int) := by omega
    have hc0 : (0 : Int) ≤ i := by omega
    have hw : IntKind.wrap .i64 ((i : Int) + 1) = ((i + 1 : Nat) : Int) := by rw [wrap64 (by omega) (by omega)]; omega
    obtain ⟨hp, hRl, hRS⟩ := hp
    have hx := encCode_get hc
    obtain ⟨x, hX⟩ : ∃ x, x = code[i] := ⟨_, rfl⟩
    rw [← hX] at hx
    have hm := hcode x (by rw [hX]; exact List.getElem_mem hc)
    have hm2 := hm
    rw [← hRl] at hm2
    obtain ⟨h18, ⟨t0, t1⟩, hab, _⟩ := mayM_facts hm
    obtain ⟨y, ok, hq, hd⟩ := do_ev kf R n x.op x.to x.a x.b x.c hRl (by omega) h18 hab (mayM_b hm) (mayM_c hm) (fun r hr => Nat.le_trans (hRS r hr) (by omega)) hkf
    have hst := stepE_num hm2
    have hrun : runE numSem (code.take (i + 1)) (R0.map RI.v) = stepE numSem (R.map RI.v) x := by
      rw [List.take_succ_eq_append_getElem hc, runE_snoc, hp, ← hX]; rfl
    rw [hst, hq] at hrun
    have hel := encN_length R
    rw [hRl] at hel
    have htk : (encN R).take (n * 2) = encN R := List.take_of_length_le (by rw [hel]; exact Nat.le_refl _)
    have ht2 : x.to.toNat * 2 + 2 ≤ n * 2 := by omega
    have hset := encN_put (l := R) (i := x.to.toNat) y (by omega)
    have hn1 := Run1_ev (kf + 8) i y
    simp only [run, aI, aW, ii, bb] at hd hn1
    cases ok with
    | false =>
      refine .inl (.inr ⟨?_, ?_⟩)
      · have e := List.take_append_drop (i + 1) code
        rw [← e, runE_append, hrun]; rfl
      · simp only [loopR_succ, ht]
        simp only [a2, a3, a4, a14, a15, a16, hc', hc0, hw, hx, hel, htk, hd, loopR_succ, loopOf, findLoop, firstRegion, Option.some_or, Option.none_or, Option.getD_some, Option.some.injEq, Try.f92, FT, Int.reduceEq, Int.reduceToNat, Int.reduceLE, Int.reduceLT, Int.reduceAdd, Int.reduceMul, Int.reduceSub, Int.reduceNeg, Nat.reduceAdd, Nat.reduceSub, Nat.reduceMul, Nat.reduceLT, Nat.reduceBEq, Nat.reduceEqDiff, Nat.reduceLeDiff]
        exact ⟨_, R, i, _, rfl, (by rfl), hRl⟩
    | true =>
      simp only [loopR_succ, ht]
      simp only [a2, a3, a4, a14, a15, a16, hc', hc0, hw, hx, hel, htk, hd, t0, t1, ht2, hset, hn1, loopR_succ, loopOf, findLoop, firstRegion, Option.some_or, Option.none_or, Option.getD_some, Option.some.injEq, Try.f92, FT, Int.reduceEq, Int.reduceToNat, Int.reduceLE, Int.reduceLT, Int.reduceAdd, Int.reduceMul, Int.reduceSub, Int.reduceNeg, Nat.reduceAdd, Nat.reduceSub, Nat.reduceMul, Nat.reduceLT, Nat.reduceBEq, Nat.reduceEqDiff, Nat.reduceLeDiff]
      refine .inr ⟨_, _, hc, rfl, R.set x.to.toNat y, (by rfl), (by rfl), (by rfl), (by rfl), (by rfl), (by rfl), ⟨?_, by simp [hRl], ?_⟩, ⟨_, by rfl⟩⟩
      · rw [hrun, List.map_set]; rfl
      · intro r hr
        rcases List.mem_or_eq_of_mem_set hr with hr | rfl
        · have := hRS r hr; omega
        · have := numF_small (n := 4 + 3 * i) (fun _ => mayM_c hm) (getD_small (i := x.a.toNat) hRS) (getD_small (i := x.b.toNat) hRS) hq
          omega
  · refine .inl ?_
    obtain rfl : i = code.length := by omega
    have hc' : ¬ (((code.length : Nat) : Int) < ((code.length : Nat) : Int)) := by omega
    obtain ⟨hp, hRl, hRS⟩ := hp
    rw [List.take_of_length_le (Nat.le_refl _)] at hp
    simp only [loopR_succ, ht]
    simp only [a2, a3, a4, a14, a15, a16, hc', loopR_succ, loopOf, findLoop, firstRegion, Option.some_or, Option.none_or, Option.getD_some, Option.some.injEq, Try.f92, FT, Int.reduceEq, Int.reduceToNat, Int.reduceLE, Int.reduceLT, Int.reduceAdd, Int.reduceMul, Int.reduceSub, Int.reduceNeg, Nat.reduceAdd, Nat.reduceSub, Nat.reduceMul, Nat.reduceLT, Nat.reduceBEq, Nat.reduceEqDiff, Nat.reduceLeDiff]
    exact .inl ⟨_, R, rfl, hp, hRl, fun r hr => Nat.le_trans (hRS r hr) (by omega)⟩
end
end Go.Proofs.Sw.W
namespace Go.Proofs.Sw.W
open Go.Ab
section
variable [Globals]
abbrev sN (Z : List RI) (nl : Bool) (cap : Option Nat) : AV := .c (.slice (encN Z) Z.length nl cap)
theorem loop_of (kf : Nat) (D : List Int) (nl : Bool) (cap : Option Nat) (hl : D.length ≤ 20000) (hin : ∀ x ∈ D, -9223372036854775808 ≤ x ∧ x ≤ 9223372036854775807) (hkf : 20 < kf) (k : Nat) (l : Ass) (z : Option Out) (hz : loopR Try.prog tab (kf + 4) none LB56_3 56 19 [3, 6, 7, 8] 1 k l ([lo 140 0 (encN [])]) = z) (hk : D.length < k) (a3 : asc l 3 = lv 0 2 0) (a6 : asc l 6 = sI D nl cap) (a7 : asc l 7 = ii D.length) (a8 : asc l 8 = ii 0) :
    ∃ l' Z, z = some (.exit 0 (fr 19 l') [lo 140 D.length (encN Z)]) ∧ asc l' 3 = lv 0 2 D.length ∧ Z.map RI.v = D ∧ (∀ r ∈ Z, (nD r.v).length ≤ 4) := by
  subst hz
  refine loop_nat D.length (fun k l H => loopR Try.prog tab (kf + 4) none LB56_3 56 19 [3, 6, 7, 8] 1 k l H)
    (fun i l H => ∃ (Z : List RI), asc l 3 = lv 0 2 i ∧ asc l 6 = sI D nl cap ∧ asc l 7 = ii D.length ∧ asc l 8 = ii i ∧ (Z.map RI.v = D.take i ∧ (∀ r ∈ Z, (nD r.v).length ≤ 4)) ∧ ∃ G, H = ([lo 140 i (encN Z)]) ++ G)
    (fun z => ∃ l' Z, z = some (.exit 0 (fr 19 l') [lo 140 D.length (encN Z)]) ∧ asc l' 3 = lv 0 2 D.length ∧ Z.map RI.v = D ∧ (∀ r ∈ Z, (nD r.v).length ≤ 4)) ?_ D.length 0 k l _ (by omega) hk ⟨[], a3, a6, a7, a8, ⟨rfl, fun r h => by cases h⟩, [], by rw [List.append_nil]⟩
  clear hk a3 a6 a7 a8
  rintro i k l H hi ⟨Z, a3, a6, a7, a8, hp, G, rfl⟩
  have ht : trim 1 (fr 19 (keep l [3, 6, 7, 8])) (([lo 140 i (encN Z)]) ++ G) = ([lo 140 i (encN Z)]) := trim_app (by simp) (by simp only [a3, a6, a7, a8, lo_under, lv_under, EVb, EVc, Int.reduceEq, Int.reduceToNat, Int.reduceLE, Int.reduceLT, Int.reduceAdd, Int.reduceMul, Int.reduceSub, Int.reduceNeg, Nat.reduceAdd, Nat.reduceSub, Nat.reduceMul, Nat.reduceLT, Nat.reduceBEq, Nat.reduceEqDiff, Nat.reduceLeDiff]) (by simp only [lo_under, lv_under, EVb, EVc, Int.reduceEq, Int.reduceToNat, Int.reduceLE, Int.reduceLT, Int.reduceAdd, Int.reduceMul, Int.reduceSub, Int.reduceNeg, Nat.reduceAdd, Nat.reduceSub, Nat.reduceMul, Nat.reduceLT, Nat.reduceBEq, Nat.reduceEqDiff, Nat.reduceLeDiff])
  by_cases hc : i < D.length
  · have hc' : (i : Int) < ((D.length : Nat) : Int) := by omega
    have hc0 : (0 : Int) ≤ i := by omega
    have hw : IntKind.wrap .i64 ((i : Int) + 1) = ((i + 1 : Nat) : Int) := by rw [wrap64 (by omega) (by omega)]; omega
    obtain ⟨hp, hZs⟩ := hp
    have hx := encInts_get hc
    have hb := hin _ (List.getElem_mem hc)
    obtain ⟨y, hy, h1⟩ := Of_ev kf D[i] hb.1 hb.2 hkf
    have hyl : (nD y.v).length ≤ 4 := dig_len (k := 4) (by
      have : (4294967296 : Nat) ^ 4 = 340282366920938463463374607431768211456 := by decide
      omega)
    have hZl : Z.length = i := by
      have := congrArg List.length hp
      simpa [List.length_take, Nat.min_eq_left (show i ≤ D.length by omega)] using this
    have hell := encInts_length D
    have hap := fun (X : Heap) (y z : IV) => apO_lv (e := 140) (s := 0) (n := i) (m := 1) (sz := 2) (by_ := 32) (cells := encN Z) (cs := [y, z]) (H := lo 140 i (encN Z) :: X) (by decide) (Nat.le_trans (Nat.mul_le_mul_right 32 (show i + 1 ≤ 20001 by omega)) (by decide)) (by decide) (by rfl) (by rw [encN_length, hZl])
    simp only [run, aW, ii] at h1
    simp only [loopR_succ, ht]
    simp only [a3, a6, a7, a8, hc', hc0, hw, hx, hell, h1, hap, loopR_succ, loopOf, findLoop, firstRegion, Option.some_or, Option.none_or, Option.getD_some, Option.some.injEq, Try.f56, FT, Int.reduceEq, Int.reduceToNat, Int.reduceLE, Int.reduceLT, Int.reduceAdd, Int.reduceMul, Int.reduceSub, Int.reduceNeg, Nat.reduceAdd, Nat.reduceSub, Nat.reduceMul, Nat.reduceLT, Nat.reduceBEq, Nat.reduceEqDiff, Nat.reduceLeDiff]
    refine .inr ⟨_, _, hc, rfl, Z ++ [y], (by rfl), (by rfl), (by rfl), (by rfl), ⟨?_, ?_⟩, ⟨_, by rw [encN_append]; exact rfl⟩⟩
    · rw [List.map_append, hp, List.take_succ_eq_append_getElem hc]
      simp [hy]
    · intro r hr
      rcases List.mem_append.1 hr with hr | hr
      · exact hZs r hr
      · rw [List.mem_singleton.1 hr]; exact hyl
  · refine .inl ?_
    obtain rfl : i = D.length := by omega
    have hc' : ¬ (((D.length : Nat) : Int) < ((D.length : Nat) : Int)) := by omega
    obtain ⟨hp, hZs⟩ := hp
    rw [List.take_of_length_le (Nat.le_refl _)] at hp
    simp only [loopR_succ, ht]
    simp only [a3, a6, a7, a8, hc', loopR_succ, loopOf, findLoop, firstRegion, Option.some_or, Option.none_or, Option.getD_some, Option.some.injEq, Try.f56, FT, Int.reduceEq, Int.reduceToNat, Int.reduceLE, Int.reduceLT, Int.reduceAdd, Int.reduceMul, Int.reduceSub, Int.reduceNeg, Nat.reduceAdd, Nat.reduceSub, Nat.reduceMul, Nat.reduceLT, Nat.reduceBEq, Nat.reduceEqDiff, Nat.reduceLeDiff]
    exact ⟨_, Z, rfl, (by rfl), hp, hZs⟩
theorem rowOf_ev (k : Nat) (l : List Int) (nl : Bool) (cap : Option Nat) (hl : l.length ≤ 20000) (hin : ∀ x ∈ l, -9223372036854775808 ≤ x ∧ x ≤ 9223372036854775807) (hk : l.length + 20 < k) :
    ∃ (Z : List RI) (nl3 : Bool) (cap3 : Option Nat), Z.map RI.v = l ∧ (∀ r ∈ Z, (nD r.v).length ≤ 4) ∧ run (k+5) 56 [sI l nl cap] = some (sN Z nl3 cap3) := by
  rw [run, ev56, ans_trim]
  simp only [Try.f56, FT, Int.reduceEq, Int.reduceToNat, Int.reduceLE, Int.reduceLT, Int.reduceAdd, Int.reduceMul, Int.reduceSub, Int.reduceNeg, Nat.reduceAdd, Nat.reduceSub, Nat.reduceMul, Nat.reduceLT, Nat.reduceBEq, Nat.reduceEqDiff, Nat.reduceLeDiff]
  rw [evalCode_loopB LB56_3 lp56_3]; rotate_left; rfl; rfl; rfl
  generalize hz : loopR _ _ _ _ _ _ _ _ _ _ _ _ = z
  obtain ⟨l', Z, rfl, e3, hp, hZs⟩ := loop_of k l nl cap hl hin (by omega) _ _ z hz (by omega) (by rfl) (by rfl) (by rfl) (by rfl)
  clear hz
  have hZl : Z.length = l.length := by rw [← hp]; simp
  have hel := encN_length Z
  rw [hZl] at hel
  refine ⟨Z, decide (l.length = 0), if l.length = 0 then some 0 else none, hp, hZs, ?_⟩
  simp only [e3, hel, FT, Int.reduceEq, Int.reduceToNat, Int.reduceLE, Int.reduceLT, Int.reduceAdd, Int.reduceMul, Int.reduceSub, Int.reduceNeg, Nat.reduceAdd, Nat.reduceSub, Nat.reduceMul, Nat.reduceLT, Nat.reduceBEq, Nat.reduceEqDiff, Nat.reduceLeDiff]
  rw [sN, hZl]
  try rfl
theorem take_vN {A : List RI} {i : Nat} (h : i < A.length) : (A.map RI.v).take (i + 1) = (A.map RI.v).take i ++ [(A.getD i zN).v] := by
  rw [List.take_succ_eq_append_getElem (by simpa using h), List.getElem_map, List.getD_eq_getElem?_getD, List.getElem?_eq_getElem h]
  rfl
theorem loop_rcmp (kf : Nat) (A B : List RI) (nl nl2 : Bool) (cap cap2 : Option Nat) (hAB : A.length = B.length) (hA : A.length ≤ 20000) (hAl : ∀ r ∈ A, (nD r.v).length ≤ 20000) (hBl : ∀ r ∈ B, (nD r.v).length ≤ 20000) (hkf : 50000 ≤ kf) (k : Nat) (l : Ass) (z : Option Out) (hz : loopR Try.prog tab (kf + 3) none LB96_6 96 37 [1, 20, 21, 22] 0 k l ([]) = z) (hk : A.length < k) (a1 : asc l 1 = sN B nl2 cap2) (a20 : asc l 20 = sN A nl cap) (a21 : asc l 21 = ii A.length) (a22 : asc l 22 = ii 0) :
    ∃ (l' : Ass) (H : Heap) (c : Int), (z = some (.exit 1 (fr 37 l') H) ∧ A.map RI.v = B.map RI.v) ∨ (z = some (.ret (fr 37 l') H) ∧ A.map RI.v ≠ B.map RI.v ∧ asc l' 4 = ii c ∧ c ≠ 0) := by
  subst hz
  refine loop_nat A.length (fun k l H => loopR Try.prog tab (kf + 3) none LB96_6 96 37 [1, 20, 21, 22] 0 k l H)
    (fun i l H => asc l 1 = sN B nl2 cap2 ∧ asc l 20 = sN A nl cap ∧ asc l 21 = ii A.length ∧ asc l 22 = ii i ∧ (((A.map RI.v).take i = (B.map RI.v).take i)) ∧ ∃ G, H = ([]) ++ G)
    (fun z => ∃ (l' : Ass) (H : Heap) (c : Int), (z = some (.exit 1 (fr 37 l') H) ∧ A.map RI.v = B.map RI.v) ∨ (z = some (.ret (fr 37 l') H) ∧ A.map RI.v ≠ B.map RI.v ∧ asc l' 4 = ii c ∧ c ≠ 0)) ?_ A.length 0 k l _ (by omega) hk ⟨a1, a20, a21, a22, rfl, [], by rw [List.append_nil]⟩
  clear hk a1 a20 a21 a22
  rintro i k l H hi ⟨a1, a20, a21, a22, hp, G, rfl⟩
  have ht : trim 0 (fr 37 (keep l [1, 20, 21, 22])) (([]) ++ H) = ([]) := trim_app (by simp) (by simp only [a1, a20, a21, a22, EVb, EVc, Int.reduceEq, Int.reduceToNat, Int.reduceLE, Int.reduceLT, Int.reduceAdd, Int.reduceMul, Int.reduceSub, Int.reduceNeg, Nat.reduceAdd, Nat.reduceSub, Nat.reduceMul, Nat.reduceLT, Nat.reduceBEq, Nat.reduceEqDiff, Nat.reduceLeDiff]) (by simp only [EVb, EVc, Int.reduceEq, Int.reduceToNat, Int.reduceLE, Int.reduceLT, Int.reduceAdd, Int.reduceMul, Int.reduceSub, Int.reduceNeg, Nat.reduceAdd, Nat.reduceSub, Nat.reduceMul, Nat.reduceLT, Nat.reduceBEq, Nat.reduceEqDiff, Nat.reduceLeDiff])
  by_cases hc : i < A.length
  · have hc' : (i : Int) < ((A.length : Nat) : Int) := by omega
    have hc0 : (0 : Int) ≤ i := by omega
    have hw : IntKind.wrap .i64 ((i : Int) + 1) = ((i + 1 : Nat) : Int) := by rw [wrap64 (by omega) (by omega)]; omega
    have hcB : i < B.length := by omega
    have hx := encN_two hc
    have hy := encN_two hcB
    have hla := getD_small (i := i) hAl
    have hlb := getD_small (i := i) hBl
    have hta := take_vN hc
    have htb := take_vN hcB
    obtain ⟨a, ha⟩ : ∃ a, a = A.getD i zN := ⟨_, rfl⟩
    obtain ⟨b, hb⟩ : ∃ b, b = B.getD i zN := ⟨_, rfl⟩
    rw [← ha] at hx hla hta
    rw [← hb] at hy hlb htb
    obtain ⟨q, hq, hqe⟩ := Cmp_ev kf a b (by omega) (by omega) (by omega)
    have hx2 : i * 2 + 2 ≤ A.length * 2 := by omega
    have hy2 : i * 2 + 2 ≤ B.length * 2 := by omega
    have hiB : (i : Int) < B.length := by omega
    have hela := encN_length A
    have helb := encN_length B
    simp only [run, aW, ii] at hq
    by_cases he : q = 0
    · have hev := hqe.1 he
      rw [he] at hq
      simp only [loopR_succ, ht]
      simp only [a1, a20, a21, a22, hc', hc0, hw, hx, hx2, hela, loopR_succ, loopOf, findLoop, firstRegion, Option.some_or, Option.none_or, Option.getD_some, Option.some.injEq, Try.f96, FT, Int.reduceEq, Int.reduceToNat, Int.reduceLE, Int.reduceLT, Int.reduceAdd, Int.reduceMul, Int.reduceSub, Int.reduceNeg, Nat.reduceAdd, Nat.reduceSub, Nat.reduceMul, Nat.reduceLT, Nat.reduceBEq, Nat.reduceEqDiff, Nat.reduceLeDiff]
      rw [evalCode_drawn Try.f96 8 dr96_8]; rotate_left; rfl
      simp only [a1, a20, a21, a22, hc', hc0, hw, hy, hy2, hiB, helb, hq, EVd, List.getElem?_nil, Nat.reducePow, Nat.reduceDiv, Nat.reduceMod, FT, Int.reduceEq, Int.reduceToNat, Int.reduceLE, Int.reduceLT, Int.reduceAdd, Int.reduceMul, Int.reduceSub, Int.reduceNeg, Nat.reduceAdd, Nat.reduceSub, Nat.reduceMul, Nat.reduceLT, Nat.reduceBEq, Nat.reduceEqDiff, Nat.reduceLeDiff]
      exact .inr ⟨_, _, hc, rfl, (by rfl), (by rfl), (by rfl), (by rfl), by rw [hta, htb, hp, hev], ⟨_, by rfl⟩⟩
    · have hne : a.v ≠ b.v := fun h => he (hqe.2 h)
      refine .inl ?_
      simp only [loopR_succ, ht]
      simp only [a1, a20, a21, a22, hc', hc0, hw, hx, hx2, hela, loopR_succ, loopOf, findLoop, firstRegion, Option.some_or, Option.none_or, Option.getD_some, Option.some.injEq, Try.f96, FT, Int.reduceEq, Int.reduceToNat, Int.reduceLE, Int.reduceLT, Int.reduceAdd, Int.reduceMul, Int.reduceSub, Int.reduceNeg, Nat.reduceAdd, Nat.reduceSub, Nat.reduceMul, Nat.reduceLT, Nat.reduceBEq, Nat.reduceEqDiff, Nat.reduceLeDiff]
      rw [evalCode_drawn Try.f96 8 dr96_8]; rotate_left; rfl
      simp only [a1, a20, a21, a22, hc', hc0, hw, hy, hy2, hiB, helb, hq, he, EVd, List.getElem?_nil, Nat.reducePow, Nat.reduceDiv, Nat.reduceMod, FT, Int.reduceEq, Int.reduceToNat, Int.reduceLE, Int.reduceLT, Int.reduceAdd, Int.reduceMul, Int.reduceSub, Int.reduceNeg, Nat.reduceAdd, Nat.reduceSub, Nat.reduceMul, Nat.reduceLT, Nat.reduceBEq, Nat.reduceEqDiff, Nat.reduceLeDiff]
      refine ⟨_, _, q, .inr ⟨rfl, fun e => hne ?_, (by rfl), he⟩⟩
      have := congrArg (fun l => l.take (i + 1)) e
      simp only [hta, htb, hp] at this
      simpa using this
  · refine .inl ?_
    obtain rfl : i = A.length := by omega
    have hc' : ¬ (((A.length : Nat) : Int) < ((A.length : Nat) : Int)) := by omega
    rw [List.take_of_length_le (by simp), List.take_of_length_le (by simp [hAB])] at hp
    simp only [loopR_succ, ht]
    simp only [a1, a20, a21, a22, hc', loopR_succ, loopOf, findLoop, firstRegion, Option.some_or, Option.none_or, Option.getD_some, Option.some.injEq, Try.f96, FT, Int.reduceEq, Int.reduceToNat, Int.reduceLE, Int.reduceLT, Int.reduceAdd, Int.reduceMul, Int.reduceSub, Int.reduceNeg, Nat.reduceAdd, Nat.reduceSub, Nat.reduceMul, Nat.reduceLT, Nat.reduceBEq, Nat.reduceEqDiff, Nat.reduceLeDiff]
    exact ⟨_, _, 0, .inl ⟨rfl, hp⟩⟩
theorem rowSame_ev (k : Nat) (A B : List RI) (nl nl2 : Bool) (cap cap2 : Option Nat) (hA : A.length ≤ 20000) (hAl : ∀ r ∈ A, (nD r.v).length ≤ 20000) (hBl : ∀ r ∈ B, (nD r.v).length ≤ 20000) (hk : 50000 ≤ k) :
    run (k+5) 58 [sN A nl cap, sN B nl2 cap2] = some (bb (decide (A.map RI.v = B.map RI.v))) := by
  have hcm : ∃ c : Int, run (k+4) 96 [sN A nl cap, sN B nl2 cap2] = some (ii c) ∧ (c = 0 ↔ A.map RI.v = B.map RI.v) := by
    have hne : A.length ≠ B.length → A.map RI.v ≠ B.map RI.v := fun h e => h (by simpa using congrArg List.length e)
    by_cases h1 : A.length < B.length
    · have h1' : (A.length : Int) < B.length := by omega
      refine ⟨-1, ?_, ⟨fun h => by omega, fun h => absurd h (hne (by omega))⟩⟩
      rw [run, ev96, ans_trim]
      simp only [Try.f96, h1', FT, Int.reduceEq, Int.reduceToNat, Int.reduceLE, Int.reduceLT, Int.reduceAdd, Int.reduceMul, Int.reduceSub, Int.reduceNeg, Nat.reduceAdd, Nat.reduceSub, Nat.reduceMul, Nat.reduceLT, Nat.reduceBEq, Nat.reduceEqDiff, Nat.reduceLeDiff]
    · have h1' : ¬ (A.length : Int) < B.length := by omega
      by_cases h2 : B.length < A.length
      · have h2' : (B.length : Int) < A.length := by omega
        refine ⟨1, ?_, ⟨fun h => by omega, fun h => absurd h (hne (by omega))⟩⟩
        rw [run, ev96, ans_trim]
        simp only [Try.f96, h1', h2', FT, Int.reduceEq, Int.reduceToNat, Int.reduceLE, Int.reduceLT, Int.reduceAdd, Int.reduceMul, Int.reduceSub, Int.reduceNeg, Nat.reduceAdd, Nat.reduceSub, Nat.reduceMul, Nat.reduceLT, Nat.reduceBEq, Nat.reduceEqDiff, Nat.reduceLeDiff]
      · have h2' : ¬ (B.length : Int) < A.length := by omega
        rw [run, ev96, ans_trim]
        simp only [Try.f96, h1', h2', FT, Int.reduceEq, Int.reduceToNat, Int.reduceLE, Int.reduceLT, Int.reduceAdd, Int.reduceMul, Int.reduceSub, Int.reduceNeg, Nat.reduceAdd, Nat.reduceSub, Nat.reduceMul, Nat.reduceLT, Nat.reduceBEq, Nat.reduceEqDiff, Nat.reduceLeDiff]
        rw [evalCode_loopB LB96_6 lp96_6]; rotate_left; rfl; rfl; rfl
        generalize hz : loopR _ _ _ _ _ _ _ _ _ _ _ _ = z
        obtain ⟨l', H, c, ⟨rfl, he⟩ | ⟨rfl, hn, e4, hc⟩⟩ := loop_rcmp k A B nl nl2 cap cap2 (by omega) hA hAl hBl hk _ _ z hz (by omega) (by rfl) (by rfl) (by rfl) (by rfl)
        · clear hz
          refine ⟨0, ?_, ⟨fun _ => he, fun _ => rfl⟩⟩
          simp only [FT, Int.reduceEq, Int.reduceToNat, Int.reduceLE, Int.reduceLT, Int.reduceAdd, Int.reduceMul, Int.reduceSub, Int.reduceNeg, Nat.reduceAdd, Nat.reduceSub, Nat.reduceMul, Nat.reduceLT, Nat.reduceBEq, Nat.reduceEqDiff, Nat.reduceLeDiff]
        · clear hz
          refine ⟨c, ?_, ⟨fun h => absurd h hc, fun h => absurd h hn⟩⟩
          simp only [e4, FT, Int.reduceEq, Int.reduceToNat, Int.reduceLE, Int.reduceLT, Int.reduceAdd, Int.reduceMul, Int.reduceSub, Int.reduceNeg, Nat.reduceAdd, Nat.reduceSub, Nat.reduceMul, Nat.reduceLT, Nat.reduceBEq, Nat.reduceEqDiff, Nat.reduceLeDiff]
  obtain ⟨c, h1, h2⟩ := hcm
  have h3 : decide (c = 0) = decide (A.map RI.v = B.map RI.v) := by rw [decide_eq_decide]; exact h2
  simp only [run, ii] at h1
  rw [run, ev58, ans_trim]
  simp only [Try.f58, h1, h3, FT, Int.reduceEq, Int.reduceToNat, Int.reduceLE, Int.reduceLT, Int.reduceAdd, Int.reduceMul, Int.reduceSub, Int.reduceNeg, Nat.reduceAdd, Nat.reduceSub, Nat.reduceMul, Nat.reduceLT, Nat.reduceBEq, Nat.reduceEqDiff, Nat.reduceLeDiff]
end
end Go.Proofs.Sw.W
namespace Go.Proofs.Sw.W
open Go.Ab
section
variable [Globals]
theorem eRight_ev (k : Nat) (p : Pg) (nl : Bool) (cap : Option Nat) (nl2 : Bool) (cap2 : Option Nat) (hr : rightM p = true) (hk : p.outs.length + p.code.length + 10 ≤ k) :
    run (k+2) 91 [aP p nl cap nl2 cap2, ii p.ins] = some (ii 0) := by
  obtain ⟨n, hc⟩ := check_ev k p nl cap nl2 cap2 hk
  rw [checkE, if_pos hr] at hc
  simp only [run, aP, ii] at hc
  rw [run, ev91, ans_trim]
  simp only [Try.f91, aP, ii, hc, FT, Int.reduceEq, Int.reduceToNat, Int.reduceLE, Int.reduceLT, Int.reduceAdd, Int.reduceMul, Int.reduceSub, Int.reduceNeg, Nat.reduceAdd, Nat.reduceSub, Nat.reduceMul, Nat.reduceLT, Nat.reduceBEq, Nat.reduceEqDiff, Nat.reduceLeDiff]
theorem eRunI_ev (k : Nat) (ins : Int) (n : Nat) (code : List Ins) (nl : Bool) (cap : Option Nat) (outs : List Int) (nl2 : Bool) (cap2 : Option Nat) (hn : n ≤ 128) (R0 : List RI) (hR0 : R0.length = n) (hS0 : ∀ r ∈ R0, (nD r.v).length ≤ 4) (hcode : ∀ x ∈ code, mayM x n = true) (hcl : code.length ≤ 200) (hk : 70000 ≤ k) :
    ∃ (R : List RI) (j : Int), R.length = n ∧ ((runE numSem code (R0.map RI.v) = some (R.map RI.v) ∧ j = -1 ∧ (∀ r ∈ R, (nD r.v).length ≤ 700)) ∨ (runE numSem code (R0.map RI.v) = none ∧ 0 ≤ j)) ∧
      evalT Try.prog (mkHints tab) (k+10) (.fn 92) [fnsV, aP ⟨ins, n, code, outs⟩ nl cap nl2 cap2, .hsl 0 0 n (n * 2) 2, .c (.fn 94)] [rN R0] = some (ii j, [rN R]) := by
  rw [ev92]
  simp only [Try.f92, fnsV, aP, ii, FT, Int.reduceEq, Int.reduceToNat, Int.reduceLE, Int.reduceLT, Int.reduceAdd, Int.reduceMul, Int.reduceSub, Int.reduceNeg, Nat.reduceAdd, Nat.reduceSub, Nat.reduceMul, Nat.reduceLT, Nat.reduceBEq, Nat.reduceEqDiff, Nat.reduceLeDiff]
  rw [evalCode_loopB LB92_2 lp92_2]; rotate_left; rfl; rfl; rfl
  generalize hz : loopR _ _ _ _ _ _ _ _ _ _ _ _ = z
  obtain ⟨l', R, rfl, hrun, hRl, hRS⟩ | ⟨hrun, l', R, j, X, rfl, e8, hRl⟩ := loop_run2 k ins n code nl cap outs nl2 cap2 hn R0 hR0 hS0 hcode hcl hk _ _ z hz (by omega) (by rfl) (by rfl) (by rfl) (by rfl) (by rfl) (by rfl)
  · clear hz
    refine ⟨R, -1, hRl, .inl ⟨hrun, rfl, hRS⟩, ?_⟩
    simp only [FT, Int.reduceEq, Int.reduceToNat, Int.reduceLE, Int.reduceLT, Int.reduceAdd, Int.reduceMul, Int.reduceSub, Int.reduceNeg, Nat.reduceAdd, Nat.reduceSub, Nat.reduceMul, Nat.reduceLT, Nat.reduceBEq, Nat.reduceEqDiff, Nat.reduceLeDiff]
  · clear hz
    refine ⟨R, j, hRl, .inr ⟨hrun, by omega⟩, ?_⟩
    simp only [e8, FT, Int.reduceEq, Int.reduceToNat, Int.reduceLE, Int.reduceLT, Int.reduceAdd, Int.reduceMul, Int.reduceSub, Int.reduceNeg, Nat.reduceAdd, Nat.reduceSub, Nat.reduceMul, Nat.reduceLT, Nat.reduceBEq, Nat.reduceEqDiff, Nat.reduceLeDiff]
theorem encN_rep (n : Nat) : (List.replicate n [IV.bool false, IV.slice [] 0 true (some 0)]).flatten = encN (List.replicate n zN) := by
  induction n with
  | zero => rfl
  | succ n ih =>
    rw [List.replicate_succ, List.flatten_cons, ih, List.replicate_succ, encN]
    simp [dig_zero, encD]
def iniN (Z : List RI) (n : Nat) : List RI := Z ++ List.replicate (n - Z.length) zN
def outN (R : List RI) (outs : List Int) (i : Nat) : List RI := (outs.take i).map fun r => R.getD r.toNat zN
theorem outN_succ {R : List RI} {outs : List Int} {i : Nat} (h : i < outs.length) : outN R outs (i + 1) = outN R outs i ++ [R.getD outs[i].toNat zN] := by
  unfold outN
  rw [List.take_succ_eq_append_getElem h, List.map_append]; rfl
theorem outN_length {R : List RI} {outs : List Int} {i : Nat} (h : i ≤ outs.length) : (outN R outs i).length = i := by
  unfold outN
  rw [List.length_map, List.length_take]; omega
theorem outN_full (R : List RI) (outs : List Int) : outN R outs outs.length = outs.map fun r => R.getD r.toNat zN := by
  unfold outN
  rw [List.take_of_length_le (Nat.le_refl _)]
theorem loop_Run11 (kf : Nat) (ins : Int) (n : Nat) (code : List Ins) (nl : Bool) (cap : Option Nat) (outs : List Int) (nl2 : Bool) (cap2 : Option Nat) (R : List RI) (hR : R.length = n) (hout : ∀ r ∈ outs, 0 ≤ r ∧ r < (n : Int)) (ho : outs.length ≤ 200) (k : Nat) (l : Ass) (z : Option Out) (hz : loopR Try.prog tab kf none LB55_11 55 49 [8, 10, 34, 35, 36] 3 k l ([lo 140 0 (encN (outN R outs 0)), bxQ ins n code nl cap outs nl2 cap2, rN R]) = z) (hk : outs.length < k) (a8 : asc l 8 = .hsl 2 0 n (n * 2) 2) (a10 : asc l 10 = lv 0 2 0) (a34 : asc l 34 = sI outs nl2 cap2) (a35 : asc l 35 = ii outs.length) (a36 : asc l 36 = ii 0) :
    ∃ l', z = some (.exit 0 (fr 49 l') ([lo 140 outs.length (encN (outN R outs outs.length)), bxQ ins n code nl cap outs nl2 cap2, rN R])) ∧ asc l' 8 = .hsl 2 0 n (n * 2) 2 ∧ asc l' 10 = lv 0 2 outs.length ∧ asc l' 34 = sI outs nl2 cap2 ∧ asc l' 35 = ii outs.length ∧ asc l' 36 = ii outs.length := by
  subst hz
  refine loop_nat outs.length (fun k l H => loopR Try.prog tab kf none LB55_11 55 49 [8, 10, 34, 35, 36] 3 k l H)
    (fun i l H => asc l 8 = .hsl 2 0 n (n * 2) 2 ∧ asc l 10 = lv 0 2 i ∧ asc l 34 = sI outs nl2 cap2 ∧ asc l 35 = ii outs.length ∧ asc l 36 = ii i ∧ ∃ G, H = ([lo 140 i (encN (outN R outs i)), bxQ ins n code nl cap outs nl2 cap2, rN R]) ++ G)
    (fun z => ∃ l', z = some (.exit 0 (fr 49 l') ([lo 140 outs.length (encN (outN R outs outs.length)), bxQ ins n code nl cap outs nl2 cap2, rN R])) ∧ asc l' 8 = .hsl 2 0 n (n * 2) 2 ∧ asc l' 10 = lv 0 2 outs.length ∧ asc l' 34 = sI outs nl2 cap2 ∧ asc l' 35 = ii outs.length ∧ asc l' 36 = ii outs.length) ?_ outs.length 0 k l _ (by omega) hk ⟨a8, a10, a34, a35, a36, [], by rw [List.append_nil]⟩
  clear hk a8 a10 a34 a35 a36
  rintro i k l H hi ⟨a8, a10, a34, a35, a36, G, rfl⟩
  have ht : trim 3 (fr 49 (keep l [8, 10, 34, 35, 36])) (([lo 140 i (encN (outN R outs i)), bxQ ins n code nl cap outs nl2 cap2, rN R]) ++ G) = ([lo 140 i (encN (outN R outs i)), bxQ ins n code nl cap outs nl2 cap2, rN R]) := trim_app (by simp) (by simp only [a8, a10, a34, a35, a36, lo_under, lv_under, EVb, EVc, Int.reduceEq, Int.reduceToNat, Int.reduceLE, Int.reduceLT, Int.reduceAdd, Int.reduceMul, Int.reduceSub, Int.reduceNeg, Nat.reduceAdd, Nat.reduceSub, Nat.reduceMul, Nat.reduceLT, Nat.reduceBEq, Nat.reduceEqDiff, Nat.reduceLeDiff]) (by simp only [lo_under, lv_under, EVb, EVc, Int.reduceEq, Int.reduceToNat, Int.reduceLE, Int.reduceLT, Int.reduceAdd, Int.reduceMul, Int.reduceSub, Int.reduceNeg, Nat.reduceAdd, Nat.reduceSub, Nat.reduceMul, Nat.reduceLT, Nat.reduceBEq, Nat.reduceEqDiff, Nat.reduceLeDiff])
  by_cases hc : i < outs.length
  · have hc' : (i : Int) < ((outs.length : Nat) : Int) := by omega
    have hc0 : (0 : Int) ≤ i := by omega
    have hw : IntKind.wrap .i64 ((i : Int) + 1) = ((i + 1 : Nat) : Int) := by rw [wrap64 (by omega) (by omega)]; omega
    have hx := encInts_get hc
    obtain ⟨hb0, hb1⟩ := hout _ (List.getElem_mem hc)
    obtain ⟨r, hr⟩ : ∃ r, r = outs[i] := ⟨_, rfl⟩
    rw [← hr] at hx hb0 hb1
    have hxr := encN_two (l := R) (i := r.toNat) (by omega)
    have hol := outN_length (R := R) (Nat.le_of_lt hc)
    have hos := outN_succ (R := R) hc
    rw [← hr] at hos
    have hel := encN_length R
    rw [hR] at hel
    have hel2 := encInts_length outs
    have hr2 : r.toNat * 2 + 2 ≤ n * 2 := by omega
    have hap := fun (X : Heap) (y z : IV) => apO_lv (e := 140) (s := 0) (n := i) (m := 1) (sz := 2) (by_ := 32) (cells := encN (outN R outs i)) (cs := [y, z]) (H := lo 140 i (encN (outN R outs i)) :: X) (by decide) (Nat.le_trans (Nat.mul_le_mul_right 32 (show i + 1 ≤ 20001 by omega)) (by decide)) (by decide) (by rfl) (by rw [encN_length, hol])
    have happ : encN (outN R outs i) ++ [.bool (decide ((R.getD r.toNat zN).v < 0)), .slice (encD (dig (R.getD r.toNat zN).v.natAbs)) (dig (R.getD r.toNat zN).v.natAbs).length (R.getD r.toNat zN).nl (R.getD r.toNat zN).cap] = encN (outN R outs (i + 1)) := by rw [hos, encN_append]; rfl
    simp only [loopR_succ, ht]
    simp only [a8, a10, a34, a35, a36, hc', hc0, hw, hx, hb0, hb1, hr2, hxr, hel, hel2, hap, happ, loopR_succ, loopOf, findLoop, firstRegion, Option.some_or, Option.none_or, Option.getD_some, Option.some.injEq, Try.f55, FT, Int.reduceEq, Int.reduceToNat, Int.reduceLE, Int.reduceLT, Int.reduceAdd, Int.reduceMul, Int.reduceSub, Int.reduceNeg, Nat.reduceAdd, Nat.reduceSub, Nat.reduceMul, Nat.reduceLT, Nat.reduceBEq, Nat.reduceEqDiff, Nat.reduceLeDiff]
    exact .inr ⟨_, _, hc, rfl, (by rfl), (by rfl), (by rfl), (by rfl), (by rfl), ⟨_, by rfl⟩⟩
  · refine .inl ?_
    obtain rfl : i = outs.length := by omega
    have hc' : ¬ (((outs.length : Nat) : Int) < ((outs.length : Nat) : Int)) := by omega
    simp only [loopR_succ, ht]
    simp only [a8, a10, a34, a35, a36, hc', loopR_succ, loopOf, findLoop, firstRegion, Option.some_or, Option.none_or, Option.getD_some, Option.some.injEq, Try.f55, FT, Int.reduceEq, Int.reduceToNat, Int.reduceLE, Int.reduceLT, Int.reduceAdd, Int.reduceMul, Int.reduceSub, Int.reduceNeg, Nat.reduceAdd, Nat.reduceSub, Nat.reduceMul, Nat.reduceLT, Nat.reduceBEq, Nat.reduceEqDiff, Nat.reduceLeDiff]
    exact ⟨_, rfl, (by rfl), (by rfl), (by rfl), (by rfl), (by rfl)⟩
end
end Go.Proofs.Sw.W
namespace Go.Proofs.Sw.W
open Go.Ab
section
variable [Globals]
theorem iniN_length {Z : List RI} {n : Nat} (h : Z.length ≤ n) : (iniN Z n).length = n := by simp [iniN]; omega
theorem iniN_cells {Z : List RI} {n : Nat} (h : Z.length ≤ n) : (encN (List.replicate n zN)).take 0 ++ (encN Z).take (Z.length * 2) ++ (encN (List.replicate n zN)).drop (0 + Z.length * 2) = encN (iniN Z n) := by
  have e : List.replicate n zN = List.replicate Z.length zN ++ List.replicate (n - Z.length) zN := by rw [List.replicate_append_replicate]; congr 1; omega
  have hl : (encN (List.replicate Z.length zN)).length = Z.length * 2 := by rw [encN_length, List.length_replicate]
  rw [List.take_zero, List.nil_append, Nat.zero_add, e, encN_append, List.drop_append_of_le_length (by omega), List.drop_of_length_le (by omega), List.nil_append, iniN, encN_append, List.take_of_length_le (by rw [encN_length]; exact Nat.le_refl _)]
theorem cpN {Z : List RI} {n : Nat} (h : Z.length ≤ n) {a b : AObj} {X : Heap} : cpO 2 (.hsl 2 0 n (n * 2) 2) (a :: b :: .row false 140 (encN (List.replicate n zN)) :: X) (some (encN Z, Z.length)) = some (Z.length, a :: b :: rN (iniN Z n) :: X) := by
  have hrep : (encN (List.replicate n zN)).length = n * 2 := by rw [encN_length, List.length_replicate]
  have hr : rowOf (a :: b :: .row false 140 (encN (List.replicate n zN)) :: X) 2 (n * 2) = some (140, encN (List.replicate n zN)) := rowOf_eq (fz := false) rfl hrep
  unfold cpO
  simp only [Option.bind_some, hr]
  rw [if_pos ⟨by omega, trivial, rfl⟩, Nat.min_eq_left h, iniN_cells h]
  rfl
theorem Run_ev (k : Nat) (ins : Int) (n : Nat) (code : List Ins) (outs : List Int) (nl : Bool) (cap : Option Nat) (nl2 : Bool) (cap2 : Option Nat) (Z : List RI) (nl3 : Bool) (cap3 : Option Nat) (hr : rightM ⟨ins, n, code, outs⟩ = true) (hZ : (Z.length : Int) = ins) (hZs : ∀ r ∈ Z, (nD r.v).length ≤ 4) (hcl : code.length ≤ 200) (hk : 70000 ≤ k) :
    (runE numSem code ((iniN Z n).map RI.v) = none ∧ ∃ j : Int, run (k+11) 55 [aP ⟨ins, n, code, outs⟩ nl cap nl2 cap2, sN Z nl3 cap3] = some (.tup [.c (.slice [] 0 true (some 0)), ii j, ii 20])) ∨
    ∃ (R : List RI) (nl4 : Bool) (cap4 : Option Nat), runE numSem code ((iniN Z n).map RI.v) = some (R.map RI.v) ∧ R.length = n ∧ (∀ r ∈ R, (nD r.v).length ≤ 700) ∧ run (k+11) 55 [aP ⟨ins, n, code, outs⟩ nl cap nl2 cap2, sN Z nl3 cap3] = some (.tup [sN (outs.map fun r => R.getD r.toNat zN) nl4 cap4, ii 0, ii 0]) := by
  have hr' := hr
  simp only [rightM, headM, codeM, outsM, Bool.and_eq_true, decide_eq_true_eq, List.all_eq_true] at hr'
  obtain ⟨⟨⟨h1, h2, h3, h4, h5, h6⟩, ho⟩, hcd⟩ := hr'
  have q1 : (0 : Int) ≤ (n : Int) := by omega
  have q2 : n * 32 ≤ roomBytes := Nat.le_trans (show n * 32 ≤ 4096 by omega) (by decide)
  have q3 : n ≤ roomBytes := Nat.le_trans (show n ≤ 128 by omega) (by decide)
  have hZn : Z.length ≤ n := by omega
  have hcell := fun (a b : AObj) (X : Heap) => cpN (Z := Z) (n := n) hZn (a := a) (b := b) (X := X)
  have heZ := encN_length Z
  have hrep : (encN (List.replicate n zN)).length = n * 2 := by rw [encN_length, List.length_replicate]
  have hri := eRight_ev (k + 8) ⟨ins, n, code, outs⟩ nl cap nl2 cap2 hr (by simp only; omega)
  rw [show ((⟨ins, n, code, outs⟩ : Pg).ins) = (Z.length : Int) from hZ.symm] at hri
  have hnum := numbers_ev (k + 9)
  have hiS : ∀ r ∈ iniN Z n, (nD r.v).length ≤ 4 := by
    intro r hr
    rcases List.mem_append.1 hr with hr | hr
    · exact hZs r hr
    · rw [List.eq_of_mem_replicate hr]; simp [nD, dig_zero]
  obtain ⟨R, j, hRl, hcase, hrn⟩ := eRunI_ev k ins n code nl cap outs nl2 cap2 (by omega) (iniN Z n) (iniN_length hZn) hiS hcd hcl hk
  have hel := encN_length (iniN Z n)
  rw [iniN_length hZn] at hel
  have htk : (encN (iniN Z n)).take (n * 2) = encN (iniN Z n) := List.take_of_length_le (by rw [hel]; exact Nat.le_refl _)
  have heR := encN_length R
  rw [hRl] at heR
  simp only [run, aP, ii] at hri hnum
  simp only [aP, ii] at hrn
  rcases hcase with ⟨hrun, rfl, hRS⟩ | ⟨hrun, hj⟩
  · refine .inr ⟨R, decide (outs.length = 0), if outs.length = 0 then some 0 else none, hrun, hRl, hRS, ?_⟩
    rw [run, ev55, ans_trim]
    simp only [Try.f55, aP, ii, hri, q1, q2, q3, encN_rep, hcell, heZ, hrep, FT, Int.reduceEq, Int.reduceToNat, Int.reduceLE, Int.reduceLT, Int.reduceAdd, Int.reduceMul, Int.reduceSub, Int.reduceNeg, Nat.reduceAdd, Nat.reduceSub, Nat.reduceMul, Nat.reduceLT, Nat.reduceBEq, Nat.reduceEqDiff, Nat.reduceLeDiff]
    rw [evalCode_drawn Try.f55 6 dr55_6]; rotate_left; rfl
    simp (config := { maxSteps := 4000000 }) only [hnum, hrn, hel, htk, heR, EVd, List.getElem?_nil, Nat.reducePow, Nat.reduceDiv, Nat.reduceMod, FT, Int.reduceEq, Int.reduceToNat, Int.reduceLE, Int.reduceLT, Int.reduceAdd, Int.reduceMul, Int.reduceSub, Int.reduceNeg, Nat.reduceAdd, Nat.reduceSub, Nat.reduceMul, Nat.reduceLT, Nat.reduceBEq, Nat.reduceEqDiff, Nat.reduceLeDiff]
    rw [evalCode_loopB LB55_11 lp55_11]; rotate_left; rfl; rfl; rfl
    generalize hz : loopR _ _ _ _ _ _ _ _ _ _ _ _ = z
    obtain ⟨l', rfl, e8, e10, e34, e35, e36⟩ := loop_Run11 (k + 10) ins n code nl cap outs nl2 cap2 R hRl ho (by omega) _ _ z hz (by omega) (by rfl) (by rfl) (by rfl) (by rfl) (by rfl)
    clear hz
    rw [outN_full]
    have hOe : (encN (outs.map fun r => R.getD r.toNat zN)).length = outs.length * 2 := by rw [encN_length, List.length_map]
    simp only [e10, hOe, sN, List.length_map, FT, Int.reduceEq, Int.reduceToNat, Int.reduceLE, Int.reduceLT, Int.reduceAdd, Int.reduceMul, Int.reduceSub, Int.reduceNeg, Nat.reduceAdd, Nat.reduceSub, Nat.reduceMul, Nat.reduceLT, Nat.reduceBEq, Nat.reduceEqDiff, Nat.reduceLeDiff]
    try rfl
  · refine .inl ⟨hrun, j, ?_⟩
    rw [run, ev55, ans_trim]
    simp only [Try.f55, aP, ii, hri, q1, q2, q3, encN_rep, hcell, heZ, hrep, FT, Int.reduceEq, Int.reduceToNat, Int.reduceLE, Int.reduceLT, Int.reduceAdd, Int.reduceMul, Int.reduceSub, Int.reduceNeg, Nat.reduceAdd, Nat.reduceSub, Nat.reduceMul, Nat.reduceLT, Nat.reduceBEq, Nat.reduceEqDiff, Nat.reduceLeDiff]
    rw [evalCode_drawn Try.f55 6 dr55_6]; rotate_left; rfl
    simp (config := { maxSteps := 4000000 }) only [hnum, hrn, hel, htk, heR, EVd, List.getElem?_nil, Nat.reducePow, Nat.reduceDiv, Nat.reduceMod, FT, Int.reduceEq, Int.reduceToNat, Int.reduceLE, Int.reduceLT, Int.reduceAdd, Int.reduceMul, Int.reduceSub, Int.reduceNeg, Nat.reduceAdd, Nat.reduceSub, Nat.reduceMul, Nat.reduceLT, Nat.reduceBEq, Nat.reduceEqDiff, Nat.reduceLeDiff]
    simp only [hj, FT, Int.reduceEq, Int.reduceToNat, Int.reduceLE, Int.reduceLT, Int.reduceAdd, Int.reduceMul, Int.reduceSub, Int.reduceNeg, Nat.reduceAdd, Nat.reduceSub, Nat.reduceMul, Nat.reduceLT, Nat.reduceBEq, Nat.reduceEqDiff, Nat.reduceLeDiff]
end
end Go.Proofs.Sw.W
namespace Go.Proofs.Sw
open Go.Ab
variable [Globals]
theorem vd_take (l : List Nat) (i : Nat) : vd (l.take (i + 1)) = vd (l.take i) + 65536 ^ i * l.getD i 0 := by
  by_cases h : i < l.length
  · rw [List.take_succ_eq_append_getElem h, vd_snoc, List.length_take, List.getD_eq_getElem?_getD, List.getElem?_eq_getElem h]
    rw [show min i l.length = i by omega]; rfl
  · rw [List.take_of_length_le (by omega), List.take_of_length_le (by omega), List.getD_eq_getElem?_getD, List.getElem?_eq_none (by omega)]; simp
theorem getD_out {l : List Nat} {i : Nat} (h : l.length ≤ i) : l.getD i 0 = 0 := by
  rw [List.getD_eq_getElem?_getD, List.getElem?_eq_none h]; rfl
end Go.Proofs.Sw
namespace Go.Proofs.Sw
open Go.Ab
variable [Globals]
theorem vd_ge {b : List Nat} (hb : Can b) (h : b ≠ []) : 65536 ^ (b.length - 1) ≤ vd b := by
  obtain ⟨l, x, hx⟩ : ∃ l x, b = l ++ [x] := ⟨b.dropLast, b.getLast h, (List.dropLast_concat_getLast h).symm⟩
  have hx0 : x ≠ 0 := fun e => by
    subst e
    have := hb.tr
    rw [hx, trim_app0] at this
    have h2 := trim_len l
    have h3 := congrArg List.length this
    simp at h3
    omega
  rw [hx, vd_snoc, List.length_append]
  simp only [List.length_cons, List.length_nil, Nat.zero_add, Nat.add_sub_cancel]
  have : 65536 ^ l.length * 1 ≤ 65536 ^ l.length * x := Nat.mul_le_mul_left _ (by omega)
  omega
theorem can_len {a b : List Nat} (ha : okD a) (hb : Can b) (h : a.length < b.length) : vd a < vd b := by
  have h1 := vd_lt ha
  have h2 := vd_ge hb (fun e => by rw [e] at h; simp at h)
  have h3 : 65536 ^ a.length ≤ 65536 ^ (b.length - 1) := Nat.pow_le_pow_right (by omega) (by omega)
  omega
theorem vd_split (l : List Nat) (j : Nat) (h : j < l.length) : vd l = vd (l.take j) + 65536 ^ j * (l.getD j 0 + 65536 * vd (l.drop (j + 1))) := by
  have h1 : l = l.take j ++ l.drop j := (List.take_append_drop j l).symm
  have h2 : l.drop j = l.getD j 0 :: l.drop (j + 1) := by
    rw [List.drop_eq_getElem_cons h, List.getD_eq_getElem?_getD, List.getElem?_eq_getElem h]; rfl
  have h3 : (l.take j).length = j := by rw [List.length_take]; omega
  calc vd l = vd (l.take j ++ l.drop j) := by rw [← h1]
    _ = _ := by rw [vd_append, h3, h2, vd]
theorem vd_lt_at {a b : List Nat} (ha : okD a) {j : Nat} (hja : j < a.length) (hjb : j < b.length) (hd : a.drop (j + 1) = b.drop (j + 1)) (h : a.getD j 0 < b.getD j 0) : vd a < vd b := by
  have h1 : vd (a.take j) < 65536 ^ j := by
    have := vd_lt (l := a.take j) (fun d hd => ha d (List.mem_of_mem_take hd))
    rwa [List.length_take, show min j a.length = j by omega] at this
  rw [vd_split a j hja, vd_split b j hjb, hd]
  have h2 : 65536 ^ j * (a.getD j 0 + 65536 * vd (b.drop (j + 1)) + 1) ≤ 65536 ^ j * (b.getD j 0 + 65536 * vd (b.drop (j + 1))) := Nat.mul_le_mul_left _ (by omega)
  rw [Nat.mul_add, Nat.mul_one] at h2
  omega
def cmpN (m n : Nat) : Int := if m < n then -1 else if n < m then 1 else 0
end Go.Proofs.Sw
namespace Go.Proofs.Sw
open Go.Ab
variable [Globals]
abbrev nD (x : Int) : List Nat := dig x.natAbs
theorem dig_len_mono {m n : Nat} (h : m ≤ n) : (dig m).length ≤ (dig n).length := by
  by_cases hlt : (dig n).length < (dig m).length
  · have := can_len (can_dig n).ok (can_dig m) hlt
    rw [vd_dig, vd_dig] at this
    omega
  · omega
theorem eqBool (k : Bool) (a b : Bool) : (a == b) = decide (a = b) := by cases a <;> cases b <;> rfl
end Go.Proofs.Sw
namespace Go.Proofs.Sw
open Go.Ab
variable [Globals]
theorem vd_set : ∀ (l : List Nat) (k v : Nat), k < l.length → vd (l.set k v) + 65536 ^ k * l.getD k 0 = vd l + 65536 ^ k * v
  | [], k, v, h => by simp at h
  | d :: l, 0, v, _ => by simp [vd]; omega
  | d :: l, k + 1, v, h => by
    have ih := vd_set l k v (by simpa using h)
    rw [List.set_cons_succ, vd, vd, Nat.pow_succ]
    have e1 : (d :: l).getD (k + 1) 0 = l.getD k 0 := by simp
    rw [e1, Nat.mul_comm (65536 ^ k) 65536, Nat.mul_assoc, Nat.mul_assoc]
    omega
theorem okD_set {l : List Nat} {k v : Nat} (h : okD l) (hv : v < 65536) : okD (l.set k v) := fun d hd => by
  rcases List.mem_or_eq_of_mem_set hd with hd | rfl
  · exact h d hd
  · exact hv
theorem vd_rep (L : Nat) : vd (List.replicate L 0) = 0 := by
  induction L with
  | zero => rfl
  | succ n ih => rw [List.replicate_succ, vd, ih]
end Go.Proofs.Sw
namespace Go.Proofs.Sw
open Go.Ab
variable [Globals]
def rv (o : Option (Nat × List Nat)) (n : Nat) : AV := match o with
  | none => .c (.slice [] 0 true (some 0))
  | some (id, T) => .hsl id 0 n (n + T.length) 1
end Go.Proofs.Sw
namespace Go.Proofs.Sw
open Go.Ab
variable [Globals]
theorem nD_one {y : Int} (h : (nD y).length = 1) : 0 < (nD y).getD 0 0 := by
  have hc := (can_dig y.natAbs).tr
  obtain ⟨x, hx⟩ : ∃ x, nD y = [x] := by
    cases hl : nD y with
    | nil => rw [hl] at h; cases h
    | cons x t =>
      cases t with
      | nil => exact ⟨x, rfl⟩
      | cons y t => rw [hl] at h; simp at h
  rw [show dig y.natAbs = [x] from hx] at hc
  rw [hx]
  by_cases h0 : x = 0
  · subst h0; cases hc
  · simp; omega
theorem nD_sgn (b : Bool) (n : Nat) : nD (sgn b n) = dig n := by rw [nD, sgn_abs]
end Go.Proofs.Sw
namespace Go.Proofs.Sw
open Go.Ab
variable [Globals]
theorem nD_lt (x : Int) : x.natAbs < 65536 ^ (nD x).length := by
  have := vd_lt (can_dig x.natAbs).ok
  rwa [vd_dig] at this
theorem nD_mul (x y : Int) : (nD (x * y)).length ≤ (nD x).length + (nD y).length := by
  refine dig_len ?_
  rw [Int.natAbs_mul, Nat.pow_add]
  exact Nat.mul_lt_mul'' (nD_lt x) (nD_lt y)
theorem nD_add (x y : Int) {n : Nat} (hx : (nD x).length ≤ n) (hy : (nD y).length ≤ n) : (nD (x + y)).length ≤ n + 1 := by
  refine dig_len ?_
  have h1 := nD_lt x
  have h2 := nD_lt y
  have h3 : 65536 ^ (nD x).length ≤ 65536 ^ n := Nat.pow_le_pow_right (by omega) hx
  have h4 : 65536 ^ (nD y).length ≤ 65536 ^ n := Nat.pow_le_pow_right (by omega) hy
  have h5 : 65536 ^ (n + 1) = 65536 ^ n * 65536 := Nat.pow_succ ..
  omega
end Go.Proofs.Sw
namespace Go.Proofs.Sw
open Go.Ab
variable [Globals]
theorem nD_neg (x : Int) : nD (-x) = nD x := by simp [nD]
end Go.Proofs.Sw
namespace Go.Proofs.Sw
open Go.Ab
variable [Globals]
structure Rw where
  l : List RI
  nl : Bool
  cap : Option Nat
def Rw.vals (r : Rw) : List Int := r.l.map RI.v
def dR : Rw := ⟨[], true, some 0⟩
structure SzR (L n : Nat) (r : Rw) : Prop where
  len : r.l.length = L
  sz : ∀ x ∈ r.l, (nD x.v).length ≤ n
theorem SzR.mono {L n m : Nat} {r : Rw} (h : SzR L n r) (hm : n ≤ m) : SzR L m r := ⟨h.len, fun x hx => Nat.le_trans (h.sz x hx) hm⟩
theorem getD_rw {R : List Rw} {r : Int} (h0 : 0 ≤ r) (h : r < R.length) : R.getD r.toNat dR ∈ R := by
  have : r.toNat < R.length := by omega
  rw [List.getD_eq_getElem?_getD, List.getElem?_eq_getElem this]
  exact List.getElem_mem this
theorem Rw.small {L n : Nat} {r : Rw} (h : SzR L n r) : ∀ x ∈ r.vals, (nD x).length ≤ n := by
  intro x hx
  obtain ⟨y, hy, rfl⟩ := List.mem_map.1 hx
  exact h.sz y hy
end Go.Proofs.Sw
namespace Go.Proofs.Sw
open Go.Ab
variable [Globals]
theorem mayM_b {x : Ins} {n : Nat} (h : mayM x n = true) : 0 ≤ x.b ∧ x.b < (n : Int) := by
  obtain ⟨_, _, m6, m7⟩ := mayM_facts h
  by_cases e : x.op = 3 ∨ x.op = 4
  · exact m7 e
  · simp only [mayM, Bool.and_eq_true, decide_eq_true_eq] at h
    obtain ⟨⟨⟨⟨_, _, _, _, h5⟩, _⟩, _⟩, _⟩ := h
    omega
theorem encCode_cell {l : List Ins} {i : Nat} (h : i < l.length) : (encCode l)[i * 5]? = some (.int .i64 l[i].op) ∧ (encCode l)[i * 5 + 1]? = some (.int .i64 l[i].to) := by
  have hd := encCode_drop l i
  rw [List.drop_eq_getElem_cons h, encCode] at hd
  constructor
  · have := congrArg (·[0]?) hd
    simpa [List.getElem?_drop] using this
  · have := congrArg (·[1]?) hd
    simpa [List.getElem?_drop] using this
end Go.Proofs.Sw
namespace Go.Proofs.Sw
open Go.Ab
variable [Globals]
def in64 (x : Int) : Prop := -9223372036854775808 ≤ x ∧ x ≤ 9223372036854775807
def shN (code : List Ins) : Nat → Nat
  | 0 => 0
  | i + 1 => if (code.getD i ⟨0, 0, 0, 0, 0⟩).op = 7 then shN code i + 1 else shN code i
theorem shN_le (code : List Ins) : ∀ i, shN code i ≤ i
  | 0 => Nat.le_refl _
  | i + 1 => by have := shN_le code i; rw [shN]; split <;> omega
theorem loop_l14shifts (kf : Nat) (x0 x1 x3 : IV) (code : List Ins) (nl : Bool) (cap : Option Nat) (hlen : code.length ≤ 4611686018427387904) (k : Nat) (l : Ass) (z : Option Out) (hz : loopR Try.prog tab kf none LB21_3 21 22 [1, 3, 4] 1 k l ([.cells 25 [.c x0, .c x1, sC code nl cap, .c x3]]) = z) (hk : code.length < k) (a1 : asc l 1 = .ptr 0 0) (a3 : asc l 3 = ii (shN code 0)) (a4 : asc l 4 = ii 0) :
    ∃ l', z = some (.exit 0 (fr 22 l') ([.cells 25 [.c x0, .c x1, sC code nl cap, .c x3]])) ∧ asc l' 1 = .ptr 0 0 ∧ asc l' 3 = ii (shN code code.length) ∧ asc l' 4 = ii code.length := by
  subst hz
  refine loop_nat code.length (fun k l H => loopR Try.prog tab kf none LB21_3 21 22 [1, 3, 4] 1 k l H)
    (fun i l H => asc l 1 = .ptr 0 0 ∧ asc l 3 = ii (shN code i) ∧ asc l 4 = ii i ∧ ∃ G, H = ([.cells 25 [.c x0, .c x1, sC code nl cap, .c x3]]) ++ G)
    (fun z => ∃ l', z = some (.exit 0 (fr 22 l') ([.cells 25 [.c x0, .c x1, sC code nl cap, .c x3]])) ∧ asc l' 1 = .ptr 0 0 ∧ asc l' 3 = ii (shN code code.length) ∧ asc l' 4 = ii code.length) ?_ code.length 0 k l _ (by omega) hk ⟨a1, a3, a4, [], by rw [List.append_nil]⟩
  clear hk a1 a3 a4
  rintro i k l H hi ⟨a1, a3, a4, G, rfl⟩
  have ht : trim 1 (fr 22 (keep l [1, 3, 4])) (([.cells 25 [.c x0, .c x1, sC code nl cap, .c x3]]) ++ G) = ([.cells 25 [.c x0, .c x1, sC code nl cap, .c x3]]) := trim_app (by simp) (by simp only [a1, a3, a4, EVb, EVc, Int.reduceEq, Int.reduceToNat, Int.reduceLE, Int.reduceLT, Int.reduceAdd, Int.reduceMul, Int.reduceSub, Int.reduceNeg, Nat.reduceAdd, Nat.reduceSub, Nat.reduceMul, Nat.reduceLT, Nat.reduceBEq, Nat.reduceEqDiff, Nat.reduceLeDiff]) (by simp only [EVb, EVc, Int.reduceEq, Int.reduceToNat, Int.reduceLE, Int.reduceLT, Int.reduceAdd, Int.reduceMul, Int.reduceSub, Int.reduceNeg, Nat.reduceAdd, Nat.reduceSub, Nat.reduceMul, Nat.reduceLT, Nat.reduceBEq, Nat.reduceEqDiff, Nat.reduceLeDiff])
  by_cases hc : i < code.length
  · have hc' : (i : Int) < ((code.length : Nat) : Int) := by omega
    have hc0 : (0 : Int) ≤ i := by omega
    have hw : IntKind.wrap .i64 ((i : Int) + 1) = ((i + 1 : Nat) : Int) := by rw [wrap64 (by omega) (by omega)]; omega
    have hx := (encCode_cell hc).1
    have hsl := shN_le code i
    have hw2 : IntKind.wrap .i64 ((shN code i : Int) + 1) = ((shN code i + 1 : Nat) : Int) := by rw [wrap64 (by omega) (by omega)]; omega
    have hg : (code.getD i ⟨0, 0, 0, 0, 0⟩) = code[i] := by rw [List.getD_eq_getElem?_getD, List.getElem?_eq_getElem hc]; rfl
    have hst : shN code (i + 1) = if code[i].op = 7 then shN code i + 1 else shN code i := by rw [shN, hg]
    rw [hst]
    by_cases h7 : code[i].op = 7
    · rw [if_pos h7]
      simp only [loopR_succ, ht]
      simp only [a1, a3, a4, hc', hc0, hw, hx, h7, hw2, loopR_succ, loopOf, findLoop, firstRegion, Option.some_or, Option.none_or, Option.getD_some, Option.some.injEq, Try.f21, FT, Int.reduceEq, Int.reduceToNat, Int.reduceLE, Int.reduceLT, Int.reduceAdd, Int.reduceMul, Int.reduceSub, Int.reduceNeg, Nat.reduceAdd, Nat.reduceSub, Nat.reduceMul, Nat.reduceLT, Nat.reduceBEq, Nat.reduceEqDiff, Nat.reduceLeDiff]
      exact .inr ⟨_, _, hc, rfl, (by rfl), (by rfl), (by rfl), ⟨_, by rfl⟩⟩
    · rw [if_neg h7]
      simp only [loopR_succ, ht]
      simp only [a1, a3, a4, hc', hc0, hw, hx, h7, loopR_succ, loopOf, findLoop, firstRegion, Option.some_or, Option.none_or, Option.getD_some, Option.some.injEq, Try.f21, FT, Int.reduceEq, Int.reduceToNat, Int.reduceLE, Int.reduceLT, Int.reduceAdd, Int.reduceMul, Int.reduceSub, Int.reduceNeg, Nat.reduceAdd, Nat.reduceSub, Nat.reduceMul, Nat.reduceLT, Nat.reduceBEq, Nat.reduceEqDiff, Nat.reduceLeDiff]
      exact .inr ⟨_, _, hc, rfl, (by rfl), (by rfl), (by rfl), ⟨_, by rfl⟩⟩
  · refine .inl ?_
    obtain rfl : i = code.length := by omega
    have hc' : ¬ (((code.length : Nat) : Int) < ((code.length : Nat) : Int)) := by omega
    simp only [loopR_succ, ht]
    simp only [a1, a3, a4, hc', loopR_succ, loopOf, findLoop, firstRegion, Option.some_or, Option.none_or, Option.getD_some, Option.some.injEq, Try.f21, FT, Int.reduceEq, Int.reduceToNat, Int.reduceLE, Int.reduceLT, Int.reduceAdd, Int.reduceMul, Int.reduceSub, Int.reduceNeg, Nat.reduceAdd, Nat.reduceSub, Nat.reduceMul, Nat.reduceLT, Nat.reduceBEq, Nat.reduceEqDiff, Nat.reduceLeDiff]
    exact ⟨_, rfl, (by rfl), (by rfl), (by rfl)⟩
theorem l14shifts_ev (k : Nat) (p : Pg) (nl nl2 : Bool) (cap cap2 : Option Nat) (hlen : p.code.length ≤ 4611686018427387904) (hk : p.code.length < k) : run (k+1) 21 [aP p nl cap nl2 cap2] = some (ii (shN p.code p.code.length)) := by
  rw [run, ev21, ans_trim]
  simp only [Try.f21, aP, ii, FT, Int.reduceEq, Int.reduceToNat, Int.reduceLE, Int.reduceLT, Int.reduceAdd, Int.reduceMul, Int.reduceSub, Int.reduceNeg, Nat.reduceAdd, Nat.reduceSub, Nat.reduceMul, Nat.reduceLT, Nat.reduceBEq, Nat.reduceEqDiff, Nat.reduceLeDiff]
  rw [evalCode_loopB LB21_3 lp21_3]; rotate_left; rfl; rfl; rfl
  generalize hz : loopR _ _ _ _ _ _ _ _ _ _ _ _ = z
  obtain ⟨l', rfl, e1, e3, e4⟩ := loop_l14shifts k _ _ _ p.code nl cap hlen _ _ z hz (by omega) (by rfl) (by rfl) (by rfl)
  clear hz
  simp only [e3, FT, Int.reduceEq, Int.reduceToNat, Int.reduceLE, Int.reduceLT, Int.reduceAdd, Int.reduceMul, Int.reduceSub, Int.reduceNeg, Nat.reduceAdd, Nat.reduceSub, Nat.reduceMul, Nat.reduceLT, Nat.reduceBEq, Nat.reduceEqDiff, Nat.reduceLeDiff]
end Go.Proofs.Sw
namespace Go.Proofs.Sw
open Go.Ab
variable [Globals]
structure Key where
  op : Int
  a : Int
  b : Int
  c : Int
  deriving DecidableEq
abbrev Ent := Key × Int × Int
structure St where
  held : List Int
  keys : List Ent
  next : Int
abbrev encK (k : Key) : AV := .agg [ii k.op, ii k.a, ii k.b, ii k.c]
def lookK (k : Key) : List Ent → Option (Nat × Ent)
  | [] => none
  | e :: es => if k = e.1 then some (0, e) else (lookK k es).map fun p => (p.1 + 1, p.2)
theorem lookK_at {k : Key} : ∀ {es : List Ent} {p : Nat × Ent}, lookK k es = some p → es[p.1]? = some p.2 ∧ p.2.1 = k
  | [], _, h => by cases h
  | e :: es, p, h => by
    rw [lookK] at h
    split at h
    · rename_i hk
      injection h with h
      subst h
      exact ⟨rfl, hk.symm⟩
    · obtain ⟨q, hq, rfl⟩ := Option.map_eq_some_iff.1 h
      obtain ⟨h1, h2⟩ := lookK_at hq
      exact ⟨by simpa using h1, h2⟩
theorem keyEq155 (o a b c o' a' b' c' : Int) : keyEqA Try.prog 155 (.agg [.c (.int .i64 o), .c (.int .i64 a), .c (.int .i64 b), .c (.int .i64 c)]) (.agg [.c (.int .i64 o'), .c (.int .i64 a'), .c (.int .i64 b'), .c (.int .i64 c')]) = some ((o == o') && ((a == a') && ((b == b') && ((c == c') && true)))) := by kernel_rfl
theorem keyEqK (k k' : Key) : keyEqA Try.prog 155 (encK k) (encK k') = some (decide (k = k')) := by
  obtain ⟨o, a, b, c⟩ := k
  obtain ⟨o', a', b', c'⟩ := k'
  rw [encK, encK, keyEq155]
  congr 1
  rw [Bool.eq_iff_iff]
  simp [and_assoc]
abbrev entsM (f : Ent → Int) (es : List Ent) : List (AV × AV) := es.map fun e => (encK e.1, ii (f e))
theorem findA_K (f : Ent → Int) (k : Key) : ∀ es : List Ent, findA Try.prog 155 (encK k) (entsM f es) = some ((lookK k es).map fun p => (p.1, ii (f p.2)))
  | [] => rfl
  | e :: es => by
    rw [entsM, List.map_cons, findA, keyEqK, Option.bind_some]
    by_cases h : k = e.1
    · simp [lookK, h]
    · rw [decide_eq_false h, if_neg (by simp), show (es.map fun e => (encK e.1, ii (f e))) = entsM f es from rfl, findA_K f k es, lookK, if_neg h]
      cases lookK k es <;> rfl
theorem mapT95 : mapT Try.prog 95 = some (155, 3) := by kernel_rfl
theorem keyOk155 (o a b c : Int) : keyOkA Try.prog 155 (.agg [.c (.int .i64 o), .c (.int .i64 a), .c (.int .i64 b), .c (.int .i64 c)]) = true := by kernel_rfl
theorem zeroV3 : zeroV Try.prog 3 = some (ii 0) := by kernel_rfl
theorem lookup_yes {H : Heap} {id : Nat} {t : TypeId} {f : Ent → Int} {es : List Ent} {k : Key} {p : Nat × Ent} (h : H[id]? = some (.map t (entsM f es))) (hl : lookK k es = some p) :
    lookupA Try.prog H 95 (.hmap id) (encK k) true = some (.tup [ii (f p.2), bb true]) := by
  unfold lookupA
  rw [mapT95, Option.bind_some, if_pos (keyOk155 _ _ _ _)]
  simp only [h, Option.bind_some, findA_K, hl, Option.map_some, if_true]
theorem lookup_no {H : Heap} {id : Nat} {t : TypeId} {f : Ent → Int} {es : List Ent} {k : Key} (h : H[id]? = some (.map t (entsM f es))) (hl : lookK k es = none) :
    lookupA Try.prog H 95 (.hmap id) (encK k) true = some (.tup [ii 0, bb false]) := by
  unfold lookupA
  rw [mapT95, Option.bind_some, if_pos (keyOk155 _ _ _ _)]
  simp only [h, Option.bind_some, findA_K, hl, Option.map_none, if_true, zeroV3, Option.map_some]
theorem lookup_val {H : Heap} {id : Nat} {t : TypeId} {f : Ent → Int} {es : List Ent} {k : Key} {p : Nat × Ent} (h : H[id]? = some (.map t (entsM f es))) (hl : lookK k es = some p) :
    lookupA Try.prog H 95 (.hmap id) (encK k) false = some (ii (f p.2)) := by
  unfold lookupA
  rw [mapT95, Option.bind_some, if_pos (keyOk155 _ _ _ _)]
  simp only [h, Option.bind_some, findA_K, hl, Option.map_some, Bool.false_eq_true, if_false]
theorem entry_new {H : Heap} {id : Nat} {t : TypeId} {f : Ent → Int} {es : List Ent} {k : Key} (h : H[id]? = some (.map t (entsM f es))) (hl : lookK k es = none) :
    mapEntryA Try.prog H 95 (.hmap id) (encK k) = some (.tup [ii 0, ii es.length], H.set id (.map t (entsM f es ++ [(encK k, ii 0)]))) := by
  unfold mapEntryA
  rw [mapT95, Option.bind_some, if_pos (keyOk155 _ _ _ _)]
  simp only [h, Option.bind_some, findA_K, hl, Option.map_none, zeroV3, Option.map_some, List.length_map]
theorem store_new {H : Heap} {id : Nat} {t : TypeId} {f : Ent → Int} {es : List Ent} {k : Key} {x : Int} (h : H[id]? = some (.map t (entsM f es ++ [(encK k, ii 0)]))) :
    entryStoreA H (.hmap id) (ii es.length) (ii x) = some (H.set id (.map t (entsM f es ++ [(encK k, ii x)]))) := by
  have hl : (entsM f es).length = es.length := by simp
  unfold entryStoreA
  simp only [h]
  rw [if_pos (by omega), Int.toNat_natCast, ← hl, List.getElem?_concat_length, Option.map_some, List.set_append_right _ _ (Nat.le_refl _), Nat.sub_self]
  rfl
end Go.Proofs.Sw
namespace Go.Proofs.Sw
open Go.Ab
variable [Globals]
def keyM (held : List Int) (i : Ins) : Key :=
  let a := held.getD i.a.toNat 0
  let b := if i.op = 3 ∨ i.op = 4 then held.getD i.b.toNat 0 else -1
  if i.op = 3 ∧ b < a then ⟨i.op, b, a, i.c⟩ else ⟨i.op, a, b, i.c⟩
theorem keyM_swap {held : List Int} {i : Ins} (h3 : i.op = 3) (hlt : held.getD i.b.toNat 0 < held.getD i.a.toNat 0) : keyM held i = ⟨i.op, held.getD i.b.toNat 0, held.getD i.a.toNat 0, i.c⟩ := by
  unfold keyM
  simp only [h3, true_or, if_true, hlt, and_self]
theorem keyM_two {held : List Int} {i : Ins} (h : i.op = 3 ∨ i.op = 4) (hn : ¬ (i.op = 3 ∧ held.getD i.b.toNat 0 < held.getD i.a.toNat 0)) : keyM held i = ⟨i.op, held.getD i.a.toNat 0, held.getD i.b.toNat 0, i.c⟩ := by
  unfold keyM
  simp only [h, if_true]
  rw [if_neg hn]
theorem keyM_one {held : List Int} {i : Ins} (h : ¬ (i.op = 3 ∨ i.op = 4)) : keyM held i = ⟨i.op, held.getD i.a.toNat 0, -1, i.c⟩ := by
  unfold keyM
  simp only [h, if_false]
  rw [if_neg (fun h' => h (.inl h'.1))]
theorem ents_under (m : Nat) (f : Ent → Int) (es : List Ent) : ((entsM f es).all fun e => AV.under m e.1 && AV.under m e.2) = true := by
  induction es with
  | nil => rfl
  | cons e es ih => rw [entsM, List.map_cons, List.all_cons, ih]; rfl
theorem ents_ids (f : Ent → Int) : ∀ es : List Ent, entIds (entsM f es) = []
  | [] => rfl
  | e :: es => by rw [entsM, List.map_cons, entIds, show es.map (fun e => (encK e.1, ii (f e))) = entsM f es from rfl, ents_ids f es]; rfl
theorem ents_ren (ρ : Nat → Option Nat) (f : Ent → Int) : ∀ es : List Ent, renEs ρ (entsM f es) = some (entsM f es)
  | [] => rfl
  | e :: es => by rw [entsM, List.map_cons, renEs, show es.map (fun e => (encK e.1, ii (f e))) = entsM f es from rfl, ents_ren ρ f es]; rfl
abbrev tabO (S : St) : AObj := .cells 97 [.hsl 1 0 S.held.length S.held.length 1, .hmap 2, .hmap 3, ii S.next]
abbrev knO (es : List Ent) : AObj := .map 95 (entsM (fun e => e.2.1) es)
abbrev fsO (es : List Ent) : AObj := .map 95 (entsM (fun e => e.2.2) es)
abbrev tabH (S : St) : Heap := [tabO S, rI S.held, knO S.keys, fsO S.keys]
theorem tKeyed_ev (k : Nat) (S : St) (o t a b c : Int) (ha : 0 ≤ a ∧ a < S.held.length) (hb : o = 3 ∨ o = 4 → 0 ≤ b ∧ b < S.held.length) :
    evalT Try.prog (mkHints tab) (k+2) (.fn 101) [.ptr 0 0, aI o t a b c] (tabH S) = some (encK (keyM S.held ⟨o, t, a, b, c⟩), tabH S) := by
  obtain ⟨a0, a1⟩ := ha
  have hel := encInts_length S.held
  have hxa := encInts_getD a0 a1
  have hA := asks_ev k o t a b c
  simp only [run, aI, ii] at hA
  rw [ev101]
  simp only [Try.f101, aI, ii, FT, Int.reduceEq, Int.reduceToNat, Int.reduceLE, Int.reduceLT, Int.reduceAdd, Int.reduceMul, Int.reduceSub, Int.reduceNeg, Nat.reduceAdd, Nat.reduceSub, Nat.reduceMul, Nat.reduceLT, Nat.reduceBEq, Nat.reduceEqDiff, Nat.reduceLeDiff]
  rw [evalCode_drawn Try.f101 1 dr101_1]; rotate_left; rfl
  simp only [a0, a1, hel, hxa, hA, EVd, List.getElem?_nil, Nat.reducePow, Nat.reduceDiv, Nat.reduceMod, FT, Int.reduceEq, Int.reduceToNat, Int.reduceLE, Int.reduceLT, Int.reduceAdd, Int.reduceMul, Int.reduceSub, Int.reduceNeg, Nat.reduceAdd, Nat.reduceSub, Nat.reduceMul, Nat.reduceLT, Nat.reduceBEq, Nat.reduceEqDiff, Nat.reduceLeDiff]
  by_cases h34 : o = 3 ∨ o = 4
  · obtain ⟨b0, b1⟩ := hb h34
    have hxb := encInts_getD b0 b1
    have hl2 : (asks ⟨o, t, a, b, c⟩).length = 2 := by rw [asks_two h34]; rfl
    have h12 : (1 : Int) < ((2 : Nat) : Int) := by decide
    simp only [hl2, h12, FT, Int.reduceEq, Int.reduceToNat, Int.reduceLE, Int.reduceLT, Int.reduceAdd, Int.reduceMul, Int.reduceSub, Int.reduceNeg, Nat.reduceAdd, Nat.reduceSub, Nat.reduceMul, Nat.reduceLT, Nat.reduceBEq, Nat.reduceEqDiff, Nat.reduceLeDiff]
    rw [evalCode_drawn Try.f101 3 dr101_3]; rotate_left; rfl
    simp only [a0, a1, b0, b1, hel, hxa, hxb, EVd, List.getElem?_nil, Nat.reducePow, Nat.reduceDiv, Nat.reduceMod, FT, Int.reduceEq, Int.reduceToNat, Int.reduceLE, Int.reduceLT, Int.reduceAdd, Int.reduceMul, Int.reduceSub, Int.reduceNeg, Nat.reduceAdd, Nat.reduceSub, Nat.reduceMul, Nat.reduceLT, Nat.reduceBEq, Nat.reduceEqDiff, Nat.reduceLeDiff]
    by_cases h3 : o = 3
    · subst h3
      by_cases hlt : S.held.getD b.toNat 0 < S.held.getD a.toNat 0
      · simp only [hlt, keyM_swap (held := S.held) (i := ⟨3, t, a, b, c⟩) rfl hlt, ents_under, FT, Int.reduceEq, Int.reduceToNat, Int.reduceLE, Int.reduceLT, Int.reduceAdd, Int.reduceMul, Int.reduceSub, Int.reduceNeg, Nat.reduceAdd, Nat.reduceSub, Nat.reduceMul, Nat.reduceLT, Nat.reduceBEq, Nat.reduceEqDiff, Nat.reduceLeDiff]
      · simp only [hlt, keyM_two (held := S.held) (i := ⟨3, t, a, b, c⟩) (.inl rfl) (fun h => hlt h.2), ents_under, FT, Int.reduceEq, Int.reduceToNat, Int.reduceLE, Int.reduceLT, Int.reduceAdd, Int.reduceMul, Int.reduceSub, Int.reduceNeg, Nat.reduceAdd, Nat.reduceSub, Nat.reduceMul, Nat.reduceLT, Nat.reduceBEq, Nat.reduceEqDiff, Nat.reduceLeDiff]
    · simp only [h3, keyM_two (held := S.held) (i := ⟨o, t, a, b, c⟩) h34 (fun h => h3 h.1), ents_under, FT, Int.reduceEq, Int.reduceToNat, Int.reduceLE, Int.reduceLT, Int.reduceAdd, Int.reduceMul, Int.reduceSub, Int.reduceNeg, Nat.reduceAdd, Nat.reduceSub, Nat.reduceMul, Nat.reduceLT, Nat.reduceBEq, Nat.reduceEqDiff, Nat.reduceLeDiff]
  · have hl1 : ¬ (1 : Int) < ((asks ⟨o, t, a, b, c⟩).length : Int) := by
      unfold asks
      rw [if_neg h34]
      split <;> simp
    have h3 : ¬ o = 3 := fun h => h34 (.inl h)
    simp only [hl1, h3, keyM_one (held := S.held) (i := ⟨o, t, a, b, c⟩) h34, ents_under, FT, Int.reduceEq, Int.reduceToNat, Int.reduceLE, Int.reduceLT, Int.reduceAdd, Int.reduceMul, Int.reduceSub, Int.reduceNeg, Nat.reduceAdd, Nat.reduceSub, Nat.reduceMul, Nat.reduceLT, Nat.reduceBEq, Nat.reduceEqDiff, Nat.reduceLeDiff]
end Go.Proofs.Sw
namespace Go.Proofs.Sw
open Go.Ab
variable [Globals]
def reckonM (S : St) (n : Int) (i : Ins) : Int × Int × St :=
  if i.op = 1 then (S.held.getD i.a.toNat 0, -1, S) else
  match lookK (keyM S.held i) S.keys with
  | some p => (p.2.2.1, p.2.2.2, S)
  | none => (S.next, n, { S with keys := S.keys ++ [(keyM S.held i, S.next, n)], next := S.next + 1 })
theorem lookK_snoc {k : Key} {v n : Int} : ∀ {es : List Ent}, lookK k es = none → lookK k (es ++ [(k, v, n)]) = some (es.length, (k, v, n))
  | [], _ => by simp [lookK]
  | e :: es, h => by
    rw [lookK] at h
    split at h
    · cases h
    · rename_i hk
      have h' : lookK k es = none := by cases hh : lookK k es with | none => rfl | some p => rw [hh] at h; cases h
      rw [List.cons_append, lookK, if_neg hk, lookK_snoc h']
      simp
theorem ents_snoc (f : Ent → Int) (es : List Ent) (e : Ent) : entsM f es ++ [(encK e.1, ii (f e))] = entsM f (es ++ [e]) := by simp [entsM]
theorem lookup_yes' {x0 x1 : AObj} {t : TypeId} {f : Ent → Int} {es : List Ent} {k : Key} {p : Nat × Ent} {X : Heap} (hl : lookK k es = some p) :
    lookupA Try.prog (x0 :: x1 :: .map t (entsM f es) :: X) 95 (.hmap 2) (encK k) true = some (.tup [ii (f p.2), bb true]) := lookup_yes rfl hl
theorem lookup_no' {x0 x1 : AObj} {t : TypeId} {f : Ent → Int} {es : List Ent} {k : Key} {X : Heap} (hl : lookK k es = none) :
    lookupA Try.prog (x0 :: x1 :: .map t (entsM f es) :: X) 95 (.hmap 2) (encK k) true = some (.tup [ii 0, bb false]) := lookup_no rfl hl
theorem lookup_val2 {x0 x1 : AObj} {t : TypeId} {f : Ent → Int} {es : List Ent} {k : Key} {p : Nat × Ent} {X : Heap} (hl : lookK k es = some p) :
    lookupA Try.prog (x0 :: x1 :: .map t (entsM f es) :: X) 95 (.hmap 2) (encK k) false = some (ii (f p.2)) := lookup_val rfl hl
theorem lookup_val3 {x0 x1 x2 : AObj} {t : TypeId} {f : Ent → Int} {es : List Ent} {k : Key} {p : Nat × Ent} {X : Heap} (hl : lookK k es = some p) :
    lookupA Try.prog (x0 :: x1 :: x2 :: .map t (entsM f es) :: X) 95 (.hmap 3) (encK k) false = some (ii (f p.2)) := lookup_val rfl hl
theorem entry_new2 {x0 x1 : AObj} {f : Ent → Int} {es : List Ent} {k : Key} {X : Heap} (hl : lookK k es = none) :
    mapEntryA Try.prog (x0 :: x1 :: .map 95 (entsM f es) :: X) 95 (.hmap 2) (encK k) = some (.tup [ii 0, ii es.length], x0 :: x1 :: .map 95 (entsM f es ++ [(encK k, ii 0)]) :: X) := by rw [entry_new rfl hl]; rfl
theorem entry_new3 {x0 x1 x2 : AObj} {f : Ent → Int} {es : List Ent} {k : Key} {X : Heap} (hl : lookK k es = none) :
    mapEntryA Try.prog (x0 :: x1 :: x2 :: .map 95 (entsM f es) :: X) 95 (.hmap 3) (encK k) = some (.tup [ii 0, ii es.length], x0 :: x1 :: x2 :: .map 95 (entsM f es ++ [(encK k, ii 0)]) :: X) := by rw [entry_new rfl hl]; rfl
theorem store_new2 {x0 x1 : AObj} {f : Ent → Int} {es : List Ent} {k : Key} {x : Int} {X : Heap} :
    entryStoreA (x0 :: x1 :: .map 95 (entsM f es ++ [(encK k, ii 0)]) :: X) (.hmap 2) (ii es.length) (ii x) = some (x0 :: x1 :: .map 95 (entsM f es ++ [(encK k, ii x)]) :: X) := by rw [store_new rfl]; rfl
theorem store_new3 {x0 x1 x2 : AObj} {f : Ent → Int} {es : List Ent} {k : Key} {x : Int} {X : Heap} :
    entryStoreA (x0 :: x1 :: x2 :: .map 95 (entsM f es ++ [(encK k, ii 0)]) :: X) (.hmap 3) (ii es.length) (ii x) = some (x0 :: x1 :: x2 :: .map 95 (entsM f es ++ [(encK k, ii x)]) :: X) := by rw [store_new rfl]; rfl
theorem tReckon_ev (k : Nat) (S : St) (n : Int) (o t a b c : Int)
    (ha : 0 ≤ a ∧ a < S.held.length) (hb : o = 3 ∨ o = 4 → 0 ≤ b ∧ b < S.held.length) (hn : 0 ≤ S.next ∧ S.next < 1000000) :
    evalT Try.prog (mkHints tab) (k+3) (.fn 64) [.ptr 0 0, ii n, aI o t a b c] (tabH S) = some (.tup [ii (reckonM S n ⟨o, t, a, b, c⟩).1, ii (reckonM S n ⟨o, t, a, b, c⟩).2.1], tabH (reckonM S n ⟨o, t, a, b, c⟩).2.2) := by
  obtain ⟨a0, a1⟩ := ha
  have hel := encInts_length S.held
  have hxa := encInts_getD a0 a1
  by_cases h1 : o = 1
  · subst h1
    have hrk : reckonM S n ⟨1, t, a, b, c⟩ = (S.held.getD a.toNat 0, -1, S) := by simp [reckonM]
    rw [hrk]
    rw [ev64]
    simp only [Try.f64, aI, ii, FT, Int.reduceEq, Int.reduceToNat, Int.reduceLE, Int.reduceLT, Int.reduceAdd, Int.reduceMul, Int.reduceSub, Int.reduceNeg, Nat.reduceAdd, Nat.reduceSub, Nat.reduceMul, Nat.reduceLT, Nat.reduceBEq, Nat.reduceEqDiff, Nat.reduceLeDiff]
    rw [evalCode_drawn Try.f64 2 dr64_2]; rotate_left; rfl
    simp only [a0, a1, hel, hxa, ents_under, EVd, List.getElem?_nil, Nat.reducePow, Nat.reduceDiv, Nat.reduceMod, FT, Int.reduceEq, Int.reduceToNat, Int.reduceLE, Int.reduceLT, Int.reduceAdd, Int.reduceMul, Int.reduceSub, Int.reduceNeg, Nat.reduceAdd, Nat.reduceSub, Nat.reduceMul, Nat.reduceLT, Nat.reduceBEq, Nat.reduceEqDiff, Nat.reduceLeDiff]
  · have hK := tKeyed_ev k S o t a b c ⟨a0, a1⟩ hb
    have hrk : reckonM S n ⟨o, t, a, b, c⟩ = match lookK (keyM S.held ⟨o, t, a, b, c⟩) S.keys with
      | some p => (p.2.2.1, p.2.2.2, S)
      | none => (S.next, n, { S with keys := S.keys ++ [(keyM S.held ⟨o, t, a, b, c⟩, S.next, n)], next := S.next + 1 }) := by
      rw [reckonM, if_neg h1]
    obtain ⟨key, hkey⟩ : ∃ key, key = keyM S.held ⟨o, t, a, b, c⟩ := ⟨_, rfl⟩
    rw [← hkey] at hK hrk
    simp only [aI, ii, encK] at hK
    rw [hrk]
    rw [ev64]
    simp only [Try.f64, aI, ii, h1, hK, ents_ids, ents_ren, FT, Int.reduceEq, Int.reduceToNat, Int.reduceLE, Int.reduceLT, Int.reduceAdd, Int.reduceMul, Int.reduceSub, Int.reduceNeg, Nat.reduceAdd, Nat.reduceSub, Nat.reduceMul, Nat.reduceLT, Nat.reduceBEq, Nat.reduceEqDiff, Nat.reduceLeDiff]
    cases hlk : lookK key S.keys with
    | some p =>
      have hl1 := fun x0 x1 X => lookup_yes' (x0 := x0) (x1 := x1) (X := X) (t := 95) (f := fun e => e.2.1) hlk
      have hl2 := fun x0 x1 X => lookup_val2 (x0 := x0) (x1 := x1) (X := X) (t := 95) (f := fun e => e.2.1) hlk
      have hl3 := fun x0 x1 x2 X => lookup_val3 (x0 := x0) (x1 := x1) (x2 := x2) (X := X) (t := 95) (f := fun e => e.2.2) hlk
      simp only [encK, ii, bb] at hl1 hl2 hl3
      rw [evalCode_drawn Try.f64 4 dr64_4]; rotate_left; rfl
      simp only [hl1, EVd, List.getElem?_nil, Nat.reducePow, Nat.reduceDiv, Nat.reduceMod, FT, Int.reduceEq, Int.reduceToNat, Int.reduceLE, Int.reduceLT, Int.reduceAdd, Int.reduceMul, Int.reduceSub, Int.reduceNeg, Nat.reduceAdd, Nat.reduceSub, Nat.reduceMul, Nat.reduceLT, Nat.reduceBEq, Nat.reduceEqDiff, Nat.reduceLeDiff]
      rw [evalCode_drawn Try.f64 8 dr64_8]; rotate_left; rfl
      simp only [hl1, hl2, hl3, ents_under, EVd, List.getElem?_nil, Nat.reducePow, Nat.reduceDiv, Nat.reduceMod, FT, Int.reduceEq, Int.reduceToNat, Int.reduceLE, Int.reduceLT, Int.reduceAdd, Int.reduceMul, Int.reduceSub, Int.reduceNeg, Nat.reduceAdd, Nat.reduceSub, Nat.reduceMul, Nat.reduceLT, Nat.reduceBEq, Nat.reduceEqDiff, Nat.reduceLeDiff]
    | none =>
      have hl1 := fun x0 x1 X => lookup_no' (x0 := x0) (x1 := x1) (X := X) (t := 95) (f := fun e => e.2.1) hlk
      have he1 := fun x0 x1 X => entry_new2 (x0 := x0) (x1 := x1) (X := X) (f := fun e => e.2.1) hlk
      have he2 := fun x0 x1 X => store_new2 (x0 := x0) (x1 := x1) (X := X) (f := fun e => e.2.1) (es := S.keys) (k := key) (x := S.next)
      have he3 := fun x0 x1 x2 X => entry_new3 (x0 := x0) (x1 := x1) (x2 := x2) (X := X) (f := fun e => e.2.2) hlk
      have he4 := fun x0 x1 x2 X => store_new3 (x0 := x0) (x1 := x1) (x2 := x2) (X := X) (f := fun e => e.2.2) (es := S.keys) (k := key) (x := n)
      have hw : IntKind.wrap .i64 (S.next + 1) = S.next + 1 := wrap64 (by omega) (by omega)
      have hlk2 := lookK_snoc (v := S.next) (n := n) hlk
      have hl5 := fun x0 x1 X => lookup_val2 (x0 := x0) (x1 := x1) (X := X) (t := 95) (f := fun e => e.2.1) hlk2
      have hl6 := fun x0 x1 x2 X => lookup_val3 (x0 := x0) (x1 := x1) (x2 := x2) (X := X) (t := 95) (f := fun e => e.2.2) hlk2
      have s1 := ents_snoc (fun e => e.2.1) S.keys (key, S.next, n)
      have s2 := ents_snoc (fun e => e.2.2) S.keys (key, S.next, n)
      simp only [encK, ii, bb] at hl1 he1 he2 he3 he4 hl5 hl6 s1 s2
      rw [evalCode_drawn Try.f64 4 dr64_4]; rotate_left; rfl
      simp only [hl1, EVd, List.getElem?_nil, Nat.reducePow, Nat.reduceDiv, Nat.reduceMod, FT, Int.reduceEq, Int.reduceToNat, Int.reduceLE, Int.reduceLT, Int.reduceAdd, Int.reduceMul, Int.reduceSub, Int.reduceNeg, Nat.reduceAdd, Nat.reduceSub, Nat.reduceMul, Nat.reduceLT, Nat.reduceBEq, Nat.reduceEqDiff, Nat.reduceLeDiff]
      rw [evalCode_drawn Try.f64 6 dr64_6]; rotate_left; rfl
      simp only [hw, he1, he2, he3, he4, s1, s2, EVd, List.getElem?_nil, Nat.reducePow, Nat.reduceDiv, Nat.reduceMod, FT, Int.reduceEq, Int.reduceToNat, Int.reduceLE, Int.reduceLT, Int.reduceAdd, Int.reduceMul, Int.reduceSub, Int.reduceNeg, Nat.reduceAdd, Nat.reduceSub, Nat.reduceMul, Nat.reduceLT, Nat.reduceBEq, Nat.reduceEqDiff, Nat.reduceLeDiff]
      rw [evalCode_drawn Try.f64 8 dr64_8]; rotate_left; rfl
      simp only [hl5, hl6, ents_under, EVd, List.getElem?_nil, Nat.reducePow, Nat.reduceDiv, Nat.reduceMod, FT, Int.reduceEq, Int.reduceToNat, Int.reduceLE, Int.reduceLT, Int.reduceAdd, Int.reduceMul, Int.reduceSub, Int.reduceNeg, Nat.reduceAdd, Nat.reduceSub, Nat.reduceMul, Nat.reduceLT, Nat.reduceBEq, Nat.reduceEqDiff, Nat.reduceLeDiff]
end Go.Proofs.Sw
namespace Go.Proofs.Sw
open Go.Ab
variable [Globals]
def holdM (v : Int) : List Int → Nat → Int
  | [], _ => -1
  | x :: l, j => if x = v then (j : Int) else holdM v l (j + 1)
theorem loop_holder (kf : Nat) (S : St) (v : Int) (hn : S.held.length ≤ 1000000) (k : Nat) (l : Ass) (z : Option Out) (hz : loopR Try.prog tab kf none LB66_2 66 22 [1, 10, 11, 12] 4 k l (tabH S) = z) (hk : S.held.length < k) (a1 : asc l 1 = ii v) (a10 : asc l 10 = hI 1 S.held.length) (a11 : asc l 11 = ii S.held.length) (a12 : asc l 12 = ii 0) :
    ∃ l', (z = some (.exit 0 (fr 22 l') (tabH S)) ∧ holdM v S.held 0 = -1) ∨ (z = some (.ret (fr 22 l') (tabH S)) ∧ asc l' 4 = ii (holdM v S.held 0)) := by
  subst hz
  have hel := encInts_length S.held
  refine loop_nat (S.held.length) (fun k l H => loopR Try.prog tab kf none LB66_2 66 22 [1, 10, 11, 12] 4 k l H)
    (fun i l H => asc l 1 = ii v ∧ asc l 10 = hI 1 S.held.length ∧ asc l 11 = ii S.held.length ∧ asc l 12 = ii i ∧ (holdM v S.held 0 = holdM v (S.held.drop i) i) ∧ ∃ G, H = (tabH S) ++ G)
    (fun z => ∃ l', (z = some (.exit 0 (fr 22 l') (tabH S)) ∧ holdM v S.held 0 = -1) ∨ (z = some (.ret (fr 22 l') (tabH S)) ∧ asc l' 4 = ii (holdM v S.held 0))) ?_ (S.held.length) 0 k l _ (by omega) hk ⟨a1, a10, a11, a12, rfl, [], by rw [List.append_nil]⟩
  clear hk a1 a10 a11 a12
  rintro i k l H hi ⟨a1, a10, a11, a12, hp, G, rfl⟩
  have ht : trim 4 (fr 22 (keep l [1, 10, 11, 12])) ((tabH S) ++ G) = (tabH S) := trim_app (by simp) (by simp only [a1, a10, a11, a12, ents_under, EVb, EVc, Int.reduceEq, Int.reduceToNat, Int.reduceLE, Int.reduceLT, Int.reduceAdd, Int.reduceMul, Int.reduceSub, Int.reduceNeg, Nat.reduceAdd, Nat.reduceSub, Nat.reduceMul, Nat.reduceLT, Nat.reduceBEq, Nat.reduceEqDiff, Nat.reduceLeDiff]) (by simp only [ents_under, EVb, EVc, Int.reduceEq, Int.reduceToNat, Int.reduceLE, Int.reduceLT, Int.reduceAdd, Int.reduceMul, Int.reduceSub, Int.reduceNeg, Nat.reduceAdd, Nat.reduceSub, Nat.reduceMul, Nat.reduceLT, Nat.reduceBEq, Nat.reduceEqDiff, Nat.reduceLeDiff])
  by_cases hc : i < (S.held.length)
  · have hc' : (i : Int) < ((S.held.length : Nat) : Int) := by omega
    have hc0 : (0 : Int) ≤ i := by omega
    have hw : IntKind.wrap .i64 ((i : Int) + 1) = ((i + 1 : Nat) : Int) := by rw [wrap64 (by omega) (by omega)]; omega
    have hx := encInts_get hc
    have hd := List.drop_eq_getElem_cons hc
    obtain ⟨x, hX⟩ : ∃ x, x = S.held[i] := ⟨_, rfl⟩
    rw [← hX] at hd hx
    rw [hd, holdM] at hp
    by_cases hxv : x = v
    · rw [if_pos hxv] at hp
      refine .inl ?_
      simp only [loopR_succ, ht]
      simp only [a1, a10, a11, a12, hc', hc0, hw, hel, hx, hxv, loopR_succ, loopOf, findLoop, firstRegion, Option.some_or, Option.none_or, Option.getD_some, Option.some.injEq, Try.f66, FT, Int.reduceEq, Int.reduceToNat, Int.reduceLE, Int.reduceLT, Int.reduceAdd, Int.reduceMul, Int.reduceSub, Int.reduceNeg, Nat.reduceAdd, Nat.reduceSub, Nat.reduceMul, Nat.reduceLT, Nat.reduceBEq, Nat.reduceEqDiff, Nat.reduceLeDiff]
      exact ⟨_, .inr ⟨rfl, by rw [hp]; rfl⟩⟩
    · rw [if_neg hxv] at hp
      simp only [loopR_succ, ht]
      simp only [a1, a10, a11, a12, hc', hc0, hw, hel, hx, hxv, loopR_succ, loopOf, findLoop, firstRegion, Option.some_or, Option.none_or, Option.getD_some, Option.some.injEq, Try.f66, FT, Int.reduceEq, Int.reduceToNat, Int.reduceLE, Int.reduceLT, Int.reduceAdd, Int.reduceMul, Int.reduceSub, Int.reduceNeg, Nat.reduceAdd, Nat.reduceSub, Nat.reduceMul, Nat.reduceLT, Nat.reduceBEq, Nat.reduceEqDiff, Nat.reduceLeDiff]
      exact .inr ⟨_, _, hc, rfl, (by rfl), (by rfl), (by rfl), (by rfl), hp, [], by rfl⟩
  · refine .inl ?_
    obtain rfl : i = (S.held.length) := by omega
    have hc' : ¬ ((((S.held.length) : Nat) : Int) < (((S.held.length) : Nat) : Int)) := by omega
    simp only [loopR_succ, ht]
    simp only [a1, a10, a11, a12, hc', loopR_succ, loopOf, findLoop, firstRegion, Option.some_or, Option.none_or, Option.getD_some, Option.some.injEq, Try.f66, FT, Int.reduceEq, Int.reduceToNat, Int.reduceLE, Int.reduceLT, Int.reduceAdd, Int.reduceMul, Int.reduceSub, Int.reduceNeg, Nat.reduceAdd, Nat.reduceSub, Nat.reduceMul, Nat.reduceLT, Nat.reduceBEq, Nat.reduceEqDiff, Nat.reduceLeDiff]
    exact ⟨_, .inl ⟨rfl, by rw [hp, List.drop_length]; rfl⟩⟩
theorem tHolder_ev (k : Nat) (S : St) (v : Int) (hn : S.held.length ≤ 1000000) (hk : S.held.length < k) :
    evalT Try.prog (mkHints tab) (k+1) (.fn 66) [.ptr 0 0, ii v] (tabH S) = some (ii (holdM v S.held 0), tabH S) := by
  rw [ev66]
  simp only [Try.f66, ii, FT, Int.reduceEq, Int.reduceToNat, Int.reduceLE, Int.reduceLT, Int.reduceAdd, Int.reduceMul, Int.reduceSub, Int.reduceNeg, Nat.reduceAdd, Nat.reduceSub, Nat.reduceMul, Nat.reduceLT, Nat.reduceBEq, Nat.reduceEqDiff, Nat.reduceLeDiff]
  rw [evalCode_loopB LB66_2 lp66_2]; rotate_left; rfl; rfl; rfl
  generalize hz : loopR _ _ _ _ _ _ _ _ _ _ _ _ = z
  obtain ⟨l', ⟨rfl, h⟩ | ⟨rfl, h⟩⟩ := loop_holder k S v hn _ _ z hz hk (by rfl) (by rfl) (by rfl) (by rfl)
  · simp only [h, ents_under, FT, Int.reduceEq, Int.reduceToNat, Int.reduceLE, Int.reduceLT, Int.reduceAdd, Int.reduceMul, Int.reduceSub, Int.reduceNeg, Nat.reduceAdd, Nat.reduceSub, Nat.reduceMul, Nat.reduceLT, Nat.reduceBEq, Nat.reduceEqDiff, Nat.reduceLeDiff]
  · simp only [h, ents_under, FT, Int.reduceEq, Int.reduceToNat, Int.reduceLE, Int.reduceLT, Int.reduceAdd, Int.reduceMul, Int.reduceSub, Int.reduceNeg, Nat.reduceAdd, Nat.reduceSub, Nat.reduceMul, Nat.reduceLT, Nat.reduceBEq, Nat.reduceEqDiff, Nat.reduceLeDiff]
def askM (held : List Int) (i : Ins) : Ins :=
  { i with a := holdM (held.getD i.a.toNat 0) held 0, b := if i.op = 3 ∨ i.op = 4 then holdM (held.getD i.b.toNat 0) held 0 else i.b }
theorem tAsked_ev (k : Nat) (S : St) (o t a b c : Int) (hn : S.held.length ≤ 1000000) (hk : S.held.length < k) (ha : 0 ≤ a ∧ a < S.held.length) (hb : o = 3 ∨ o = 4 → 0 ≤ b ∧ b < S.held.length) :
    evalT Try.prog (mkHints tab) (k+2) (.fn 65) [.ptr 0 0, aI o t a b c] (tabH S) = some (encI (askM S.held ⟨o, t, a, b, c⟩), tabH S) := by
  obtain ⟨a0, a1⟩ := ha
  have hel := encInts_length S.held
  have hxa := encInts_getD a0 a1
  have hA := asks_ev k o t a b c
  simp only [run, aI, ii] at hA
  have hh := fun v => tHolder_ev k S v hn hk
  simp only [ii] at hh
  rw [ev65]
  simp only [Try.f65, aI, ii, hA, FT, Int.reduceEq, Int.reduceToNat, Int.reduceLE, Int.reduceLT, Int.reduceAdd, Int.reduceMul, Int.reduceSub, Int.reduceNeg, Nat.reduceAdd, Nat.reduceSub, Nat.reduceMul, Nat.reduceLT, Nat.reduceBEq, Nat.reduceEqDiff, Nat.reduceLeDiff]
  rw [evalCode_drawn Try.f65 2 dr65_2]; rotate_left; rfl
  simp only [a0, a1, hel, hxa, hh, ents_ids, ents_ren, EVd, List.getElem?_nil, Nat.reducePow, Nat.reduceDiv, Nat.reduceMod, FT, Int.reduceEq, Int.reduceToNat, Int.reduceLE, Int.reduceLT, Int.reduceAdd, Int.reduceMul, Int.reduceSub, Int.reduceNeg, Nat.reduceAdd, Nat.reduceSub, Nat.reduceMul, Nat.reduceLT, Nat.reduceBEq, Nat.reduceEqDiff, Nat.reduceLeDiff]
  by_cases h34 : o = 3 ∨ o = 4
  · obtain ⟨b0, b1⟩ := hb h34
    have hxb := encInts_getD b0 b1
    have hl2 : (asks ⟨o, t, a, b, c⟩).length = 2 := by rw [asks_two h34]; rfl
    have h12 : (1 : Int) < ((2 : Nat) : Int) := by decide
    simp only [hl2, h12, FT, Int.reduceEq, Int.reduceToNat, Int.reduceLE, Int.reduceLT, Int.reduceAdd, Int.reduceMul, Int.reduceSub, Int.reduceNeg, Nat.reduceAdd, Nat.reduceSub, Nat.reduceMul, Nat.reduceLT, Nat.reduceBEq, Nat.reduceEqDiff, Nat.reduceLeDiff]
    rw [evalCode_drawn Try.f65 4 dr65_4]; rotate_left; rfl
    simp only [b0, b1, hel, hxb, hh, ents_ids, ents_ren, ents_under, EVd, List.getElem?_nil, Nat.reducePow, Nat.reduceDiv, Nat.reduceMod, FT, Int.reduceEq, Int.reduceToNat, Int.reduceLE, Int.reduceLT, Int.reduceAdd, Int.reduceMul, Int.reduceSub, Int.reduceNeg, Nat.reduceAdd, Nat.reduceSub, Nat.reduceMul, Nat.reduceLT, Nat.reduceBEq, Nat.reduceEqDiff, Nat.reduceLeDiff]
    simp only [askM, h34, if_true]
  · have hl1 : ¬ (1 : Int) < ((asks ⟨o, t, a, b, c⟩).length : Int) := by
      unfold asks
      rw [if_neg h34]
      split <;> simp
    simp only [hl1, ents_under, FT, Int.reduceEq, Int.reduceToNat, Int.reduceLE, Int.reduceLT, Int.reduceAdd, Int.reduceMul, Int.reduceSub, Int.reduceNeg, Nat.reduceAdd, Nat.reduceSub, Nat.reduceMul, Nat.reduceLT, Nat.reduceBEq, Nat.reduceEqDiff, Nat.reduceLeDiff]
    simp only [askM, h34, if_false]
end Go.Proofs.Sw
