/- A part of the proof: what functions of the program answer; conditions stand in each theorem. -/
import Derived.Test.YtefdgfdahmaciaaVC
import Derived.Test.YtefdgfdahmaciaaVA
set_option linter.unusedVariables false
set_option linter.unusedSimpArgs false
set_option linter.unusedSectionVars false
namespace Go.Proofs.Sw.W
open Go.Ab
section
variable [Globals]
theorem getD_small {R : List RI} {i m : Nat} (h : ∀ r ∈ R, (nD r.v).length ≤ m) : (nD (R.getD i zN).v).length ≤ m := by
  by_cases hi : i < R.length
  · rw [List.getD_eq_getElem?_getD, List.getElem?_eq_getElem hi]
    exact h _ (List.getElem_mem hi)
  · rw [List.getD_eq_getElem?_getD, List.getElem?_eq_none (by omega)]
    simp [nD, dig_zero]
theorem nD_small {c : Int} (h : c.natAbs ≤ 1000) : (nD c).length ≤ 1 := dig_len (k := 1) (by omega)
theorem nD_pow {n : Nat} (h : n ≤ 64) : (nD ((2 ^ n : Nat) : Int)).length ≤ 3 := by
  refine dig_len (k := 3) ?_
  rw [Int.natAbs_natCast]
  exact Nat.lt_of_le_of_lt (Nat.pow_le_pow_right (by omega) h) (by decide)
theorem do_ev (k : Nat) (R : List RI) (n : Nat) (o t a b c : Int) (hn : R.length = n) (hn6 : n ≤ 1000000) (h18 : 1 ≤ o ∧ o ≤ 8) (ha : 0 ≤ a ∧ a < n) (hb : 0 ≤ b ∧ b < n) (hc : (o = 5 ∨ o = 6 → c ≠ 0 ∧ -512 ≤ c ∧ c ≤ 512) ∧ (o = 7 ∨ o = 8 → 1 ≤ c ∧ c ≤ 64)) (hR : ∀ r ∈ R, (nD r.v).length ≤ 30000) (hk : 70000 ≤ k) :
    ∃ (z : RI) (ok : Bool), numF o c (R.getD a.toNat zN).v (R.getD b.toNat zN).v = (if ok = true then some z.v else none) ∧
      evalT Try.prog (mkHints tab) (k+9) (.fn 113) [fnsV, .hsl 0 0 n (n * 2) 2, aI o t a b c] [rN R] = some (.tup [aW z, bb ok], [rN R]) := by
  have hx := encN_two (l := R) (i := a.toNat) (by omega)
  have hy := encN_two (l := R) (i := b.toNat) (by omega)
  have hla := getD_small (i := a.toNat) hR
  have hlb := getD_small (i := b.toNat) hR
  have hel := encN_length R
  rw [hn] at hel
  obtain ⟨A, hA⟩ : ∃ A, A = R.getD a.toNat zN := ⟨_, rfl⟩
  obtain ⟨B, hB⟩ : ∃ B, B = R.getD b.toNat zN := ⟨_, rfl⟩
  rw [← hA] at hx hla ⊢
  rw [← hB] at hy hlb ⊢
  have ha2 : a.toNat * 2 + 2 ≤ n * 2 := by omega
  have hb2 : b.toNat * 2 + 2 ≤ n * 2 := by omega
  obtain ⟨ha0, ha1⟩ := ha
  obtain ⟨hb0, hb1⟩ := hb
  obtain ho | ho | ho | ho | ho | ho | ho | ho : o = 1 ∨ o = 2 ∨ o = 3 ∨ o = 4 ∨ o = 5 ∨ o = 6 ∨ o = 7 ∨ o = 8 := by omega
  · refine ⟨A, true, by rw [ho]; rfl, ?_⟩
    subst ho
    rw [ev113]
    simp only [Try.f113, fnsV, aI, aW, bb, FT, Int.reduceEq, Int.reduceToNat, Int.reduceLE, Int.reduceLT, Int.reduceAdd, Int.reduceMul, Int.reduceSub, Int.reduceNeg, Nat.reduceAdd, Nat.reduceSub, Nat.reduceMul, Nat.reduceLT, Nat.reduceBEq, Nat.reduceEqDiff, Nat.reduceLeDiff]
    rw [evalCode_drawn Try.f113 1 dr113_1]; rotate_left; rfl
    simp (config := { maxSteps := 4000000 }) only [hel, ha0, ha1, hb0, hb1, ha2, hb2, hx, hy, EVd, List.getElem?_nil, Nat.reducePow, Nat.reduceDiv, Nat.reduceMod, FT, Int.reduceEq, Int.reduceToNat, Int.reduceLE, Int.reduceLT, Int.reduceAdd, Int.reduceMul, Int.reduceSub, Int.reduceNeg, Nat.reduceAdd, Nat.reduceSub, Nat.reduceMul, Nat.reduceLT, Nat.reduceBEq, Nat.reduceEqDiff, Nat.reduceLeDiff]
  · obtain ⟨z, hz, h⟩ := Neg_ev (k + 6) A
    simp only [run, aW, bb, ii] at h
    refine ⟨z, true, by rw [ho, hz]; rfl, ?_⟩
    subst ho
    rw [ev113]
    simp only [Try.f113, fnsV, aI, aW, bb, FT, Int.reduceEq, Int.reduceToNat, Int.reduceLE, Int.reduceLT, Int.reduceAdd, Int.reduceMul, Int.reduceSub, Int.reduceNeg, Nat.reduceAdd, Nat.reduceSub, Nat.reduceMul, Nat.reduceLT, Nat.reduceBEq, Nat.reduceEqDiff, Nat.reduceLeDiff]
    rw [evalCode_drawn Try.f113 1 dr113_1]; rotate_left; rfl
    simp (config := { maxSteps := 4000000 }) only [hel, ha0, ha1, hb0, hb1, ha2, hb2, hx, hy, h, EVd, List.getElem?_nil, Nat.reducePow, Nat.reduceDiv, Nat.reduceMod, FT, Int.reduceEq, Int.reduceToNat, Int.reduceLE, Int.reduceLT, Int.reduceAdd, Int.reduceMul, Int.reduceSub, Int.reduceNeg, Nat.reduceAdd, Nat.reduceSub, Nat.reduceMul, Nat.reduceLT, Nat.reduceBEq, Nat.reduceEqDiff, Nat.reduceLeDiff]
  · obtain ⟨z, hz, h⟩ := Add_ev (k + 4) A B (by omega) (by omega) (by omega)
    simp only [run, aW, bb, ii] at h
    refine ⟨z, true, by rw [ho, hz]; rfl, ?_⟩
    subst ho
    rw [ev113]
    simp only [Try.f113, fnsV, aI, aW, bb, FT, Int.reduceEq, Int.reduceToNat, Int.reduceLE, Int.reduceLT, Int.reduceAdd, Int.reduceMul, Int.reduceSub, Int.reduceNeg, Nat.reduceAdd, Nat.reduceSub, Nat.reduceMul, Nat.reduceLT, Nat.reduceBEq, Nat.reduceEqDiff, Nat.reduceLeDiff]
    rw [evalCode_drawn Try.f113 1 dr113_1]; rotate_left; rfl
    simp (config := { maxSteps := 4000000 }) only [hel, ha0, ha1, hb0, hb1, ha2, hb2, hx, hy, h, EVd, List.getElem?_nil, Nat.reducePow, Nat.reduceDiv, Nat.reduceMod, FT, Int.reduceEq, Int.reduceToNat, Int.reduceLE, Int.reduceLT, Int.reduceAdd, Int.reduceMul, Int.reduceSub, Int.reduceNeg, Nat.reduceAdd, Nat.reduceSub, Nat.reduceMul, Nat.reduceLT, Nat.reduceBEq, Nat.reduceEqDiff, Nat.reduceLeDiff]
  · obtain ⟨z, hz, h⟩ := Sub_ev (k + 3) A B (by omega) (by omega) (by omega)
    simp only [run, aW, bb, ii] at h
    refine ⟨z, true, by rw [ho, hz]; rfl, ?_⟩
    subst ho
    rw [ev113]
    simp only [Try.f113, fnsV, aI, aW, bb, FT, Int.reduceEq, Int.reduceToNat, Int.reduceLE, Int.reduceLT, Int.reduceAdd, Int.reduceMul, Int.reduceSub, Int.reduceNeg, Nat.reduceAdd, Nat.reduceSub, Nat.reduceMul, Nat.reduceLT, Nat.reduceBEq, Nat.reduceEqDiff, Nat.reduceLeDiff]
    rw [evalCode_drawn Try.f113 1 dr113_1]; rotate_left; rfl
    simp (config := { maxSteps := 4000000 }) only [hel, ha0, ha1, hb0, hb1, ha2, hb2, hx, hy, h, EVd, List.getElem?_nil, Nat.reducePow, Nat.reduceDiv, Nat.reduceMod, FT, Int.reduceEq, Int.reduceToNat, Int.reduceLE, Int.reduceLT, Int.reduceAdd, Int.reduceMul, Int.reduceSub, Int.reduceNeg, Nat.reduceAdd, Nat.reduceSub, Nat.reduceMul, Nat.reduceLT, Nat.reduceBEq, Nat.reduceEqDiff, Nat.reduceLeDiff]
  · obtain ⟨hc1, hc2, hc3⟩ := hc.1 (.inl ho)
    obtain ⟨w, hw, h1⟩ := Of_ev (k + 4) c (by omega) (by omega) (by omega)
    have hwl := nD_small (c := w.v) (by omega)
    obtain ⟨z, hz, h⟩ := Mul_ev (k + 4) A w (by omega) (by omega) (by omega)
    have hcw : IntKind.wrap .i64 c = c := wrap64 (by omega) (by omega)
    simp only [run, aW, bb, ii] at h h1
    refine ⟨z, true, by rw [ho, hz, hw]; rfl, ?_⟩
    subst ho
    rw [ev113]
    simp only [Try.f113, fnsV, aI, aW, bb, FT, Int.reduceEq, Int.reduceToNat, Int.reduceLE, Int.reduceLT, Int.reduceAdd, Int.reduceMul, Int.reduceSub, Int.reduceNeg, Nat.reduceAdd, Nat.reduceSub, Nat.reduceMul, Nat.reduceLT, Nat.reduceBEq, Nat.reduceEqDiff, Nat.reduceLeDiff]
    rw [evalCode_drawn Try.f113 1 dr113_1]; rotate_left; rfl
    simp (config := { maxSteps := 4000000 }) only [hel, ha0, ha1, hb0, hb1, ha2, hb2, hx, hy, EVd, List.getElem?_nil, Nat.reducePow, Nat.reduceDiv, Nat.reduceMod, FT, Int.reduceEq, Int.reduceToNat, Int.reduceLE, Int.reduceLT, Int.reduceAdd, Int.reduceMul, Int.reduceSub, Int.reduceNeg, Nat.reduceAdd, Nat.reduceSub, Nat.reduceMul, Nat.reduceLT, Nat.reduceBEq, Nat.reduceEqDiff, Nat.reduceLeDiff]
    rw [evalCode_drawn Try.f113 10 dr113_10]; rotate_left; rfl
    simp (config := { maxSteps := 4000000 }) only [h1, h, hcw, EVd, List.getElem?_nil, Nat.reducePow, Nat.reduceDiv, Nat.reduceMod, FT, Int.reduceEq, Int.reduceToNat, Int.reduceLE, Int.reduceLT, Int.reduceAdd, Int.reduceMul, Int.reduceSub, Int.reduceNeg, Nat.reduceAdd, Nat.reduceSub, Nat.reduceMul, Nat.reduceLT, Nat.reduceBEq, Nat.reduceEqDiff, Nat.reduceLeDiff]
  · obtain ⟨hc1, hc2, hc3⟩ := hc.1 (.inr ho)
    obtain ⟨w, hw, h1⟩ := Of_ev (k + 4) c (by omega) (by omega) (by omega)
    have hwl := nD_small (c := w.v) (by omega)
    obtain ⟨z, hz, h⟩ := over_ev k A w (by omega) (by omega) (by omega) (by omega)
    have hcw : IntKind.wrap .i64 c = c := wrap64 (by omega) (by omega)
    simp only [run, aW, bb, ii] at h h1
    refine ⟨z, decide (A.v % w.v = 0), ?_, ?_⟩
    · rw [ho, hz, hw]
      by_cases hd : A.v % c = 0 <;> simp [numF, hd]
    subst ho
    rw [ev113]
    simp only [Try.f113, fnsV, aI, aW, bb, FT, Int.reduceEq, Int.reduceToNat, Int.reduceLE, Int.reduceLT, Int.reduceAdd, Int.reduceMul, Int.reduceSub, Int.reduceNeg, Nat.reduceAdd, Nat.reduceSub, Nat.reduceMul, Nat.reduceLT, Nat.reduceBEq, Nat.reduceEqDiff, Nat.reduceLeDiff]
    rw [evalCode_drawn Try.f113 1 dr113_1]; rotate_left; rfl
    simp (config := { maxSteps := 4000000 }) only [hel, ha0, ha1, hb0, hb1, ha2, hb2, hx, hy, EVd, List.getElem?_nil, Nat.reducePow, Nat.reduceDiv, Nat.reduceMod, FT, Int.reduceEq, Int.reduceToNat, Int.reduceLE, Int.reduceLT, Int.reduceAdd, Int.reduceMul, Int.reduceSub, Int.reduceNeg, Nat.reduceAdd, Nat.reduceSub, Nat.reduceMul, Nat.reduceLT, Nat.reduceBEq, Nat.reduceEqDiff, Nat.reduceLeDiff]
    rw [evalCode_drawn Try.f113 14 dr113_14]; rotate_left; rfl
    simp (config := { maxSteps := 4000000 }) only [h1, h, hcw, EVd, List.getElem?_nil, Nat.reducePow, Nat.reduceDiv, Nat.reduceMod, FT, Int.reduceEq, Int.reduceToNat, Int.reduceLE, Int.reduceLT, Int.reduceAdd, Int.reduceMul, Int.reduceSub, Int.reduceNeg, Nat.reduceAdd, Nat.reduceSub, Nat.reduceMul, Nat.reduceLT, Nat.reduceBEq, Nat.reduceEqDiff, Nat.reduceLeDiff]
  · obtain ⟨hc1, hc2⟩ := hc.2 (.inl ho)
    have hcn : ((c.toNat : Nat) : Int) = c := by omega
    obtain ⟨w, hw, h1⟩ := power_ev (k + 2) c.toNat (by omega) (by omega)
    have hwl : (nD w.v).length ≤ 3 := by rw [hw]; exact nD_pow (by omega)
    obtain ⟨z, hz, h⟩ := Mul_ev (k + 4) A w (by omega) (by omega) (by omega)
    simp only [run, aW, bb, ii, hcn] at h h1
    refine ⟨z, true, by rw [ho, hz, hw]; rfl, ?_⟩
    subst ho
    rw [ev113]
    simp only [Try.f113, fnsV, aI, aW, bb, FT, Int.reduceEq, Int.reduceToNat, Int.reduceLE, Int.reduceLT, Int.reduceAdd, Int.reduceMul, Int.reduceSub, Int.reduceNeg, Nat.reduceAdd, Nat.reduceSub, Nat.reduceMul, Nat.reduceLT, Nat.reduceBEq, Nat.reduceEqDiff, Nat.reduceLeDiff]
    rw [evalCode_drawn Try.f113 1 dr113_1]; rotate_left; rfl
    simp (config := { maxSteps := 4000000 }) only [hel, ha0, ha1, hb0, hb1, ha2, hb2, hx, hy, EVd, List.getElem?_nil, Nat.reducePow, Nat.reduceDiv, Nat.reduceMod, FT, Int.reduceEq, Int.reduceToNat, Int.reduceLE, Int.reduceLT, Int.reduceAdd, Int.reduceMul, Int.reduceSub, Int.reduceNeg, Nat.reduceAdd, Nat.reduceSub, Nat.reduceMul, Nat.reduceLT, Nat.reduceBEq, Nat.reduceEqDiff, Nat.reduceLeDiff]
    rw [evalCode_drawn Try.f113 12 dr113_12]; rotate_left; rfl
    simp (config := { maxSteps := 4000000 }) only [h1, h, EVd, List.getElem?_nil, Nat.reducePow, Nat.reduceDiv, Nat.reduceMod, FT, Int.reduceEq, Int.reduceToNat, Int.reduceLE, Int.reduceLT, Int.reduceAdd, Int.reduceMul, Int.reduceSub, Int.reduceNeg, Nat.reduceAdd, Nat.reduceSub, Nat.reduceMul, Nat.reduceLT, Nat.reduceBEq, Nat.reduceEqDiff, Nat.reduceLeDiff]
  · obtain ⟨hc1, hc2⟩ := hc.2 (.inr ho)
    have hcn : ((c.toNat : Nat) : Int) = c := by omega
    obtain ⟨w, hw, h1⟩ := power_ev (k + 2) c.toNat (by omega) (by omega)
    have hwl : (nD w.v).length ≤ 3 := by rw [hw]; exact nD_pow (by omega)
    have hw0 : 0 < 2 ^ c.toNat := Nat.pow_pos (by omega)
    obtain ⟨z, hz, h⟩ := over_ev k A w (by omega) (by omega) (by omega) (by omega)
    simp only [run, aW, bb, ii, hcn] at h h1
    refine ⟨z, decide (A.v % w.v = 0), ?_, ?_⟩
    · rw [ho, hz, hw]
      by_cases hd : A.v % ((2 ^ c.toNat : Nat) : Int) = 0
      · rw [decide_eq_true hd, if_pos rfl]
        exact if_pos hd
      · rw [decide_eq_false hd, if_neg (by decide)]
        exact if_neg hd
    subst ho
    rw [ev113]
    simp only [Try.f113, fnsV, aI, aW, bb, FT, Int.reduceEq, Int.reduceToNat, Int.reduceLE, Int.reduceLT, Int.reduceAdd, Int.reduceMul, Int.reduceSub, Int.reduceNeg, Nat.reduceAdd, Nat.reduceSub, Nat.reduceMul, Nat.reduceLT, Nat.reduceBEq, Nat.reduceEqDiff, Nat.reduceLeDiff]
    rw [evalCode_drawn Try.f113 1 dr113_1]; rotate_left; rfl
    simp (config := { maxSteps := 4000000 }) only [hel, ha0, ha1, hb0, hb1, ha2, hb2, hx, hy, EVd, List.getElem?_nil, Nat.reducePow, Nat.reduceDiv, Nat.reduceMod, FT, Int.reduceEq, Int.reduceToNat, Int.reduceLE, Int.reduceLT, Int.reduceAdd, Int.reduceMul, Int.reduceSub, Int.reduceNeg, Nat.reduceAdd, Nat.reduceSub, Nat.reduceMul, Nat.reduceLT, Nat.reduceBEq, Nat.reduceEqDiff, Nat.reduceLeDiff]
    rw [evalCode_drawn Try.f113 16 dr113_16]; rotate_left; rfl
    simp (config := { maxSteps := 4000000 }) only [h1, h, EVd, List.getElem?_nil, Nat.reducePow, Nat.reduceDiv, Nat.reduceMod, FT, Int.reduceEq, Int.reduceToNat, Int.reduceLE, Int.reduceLT, Int.reduceAdd, Int.reduceMul, Int.reduceSub, Int.reduceNeg, Nat.reduceAdd, Nat.reduceSub, Nat.reduceMul, Nat.reduceLT, Nat.reduceBEq, Nat.reduceEqDiff, Nat.reduceLeDiff]
end
end Go.Proofs.Sw.W
namespace Go.Proofs.Sw.W
open Go.Ab
section
variable [Globals]
abbrev bxN : AObj := .cells 145 [.c (.fn 114), .c (.fn 115), .c (.fn 116), .c (.fn 117), .c (.fn 118)]
abbrev bxQ (ins : Int) (n : Nat) (code : List Ins) (nl : Bool) (cap : Option Nat) (outs : List Int) (nl2 : Bool) (cap2 : Option Nat) : AObj := .cells 25 [ii ins, ii n, sC code nl cap, sI outs nl2 cap2]
theorem Run1_ev (k : Nat) (j : Int) (z : RI) : run (k+1) 94 [ii j, aW z] = some (bb true) := by
  rw [run, ev94, ans_trim]
  simp only [Try.f94, aW, bb, ii, FT, Int.reduceEq, Int.reduceToNat, Int.reduceLE, Int.reduceLT, Int.reduceAdd, Int.reduceMul, Int.reduceSub, Int.reduceNeg, Nat.reduceAdd, Nat.reduceSub, Nat.reduceMul, Nat.reduceLT, Nat.reduceBEq, Nat.reduceEqDiff, Nat.reduceLeDiff]
theorem encN_put : ∀ {l : List RI} {i : Nat} (x : RI), i < l.length → (encN l).take (i * 2) ++ [.bool (decide (x.v < 0)), .slice (encD (dig x.v.natAbs)) (dig x.v.natAbs).length x.nl x.cap] ++ (encN l).drop (i * 2 + 2) = encN (l.set i x)
  | y :: l, 0, x, _ => rfl
  | y :: l, i + 1, x, h => by
    have ih := encN_put (l := l) (i := i) x (by simpa using h)
    rw [encN, show (i + 1) * 2 = i * 2 + 1 + 1 by omega, show i * 2 + 1 + 1 + 2 = i * 2 + 2 + 1 + 1 by omega, List.take_succ_cons, List.take_succ_cons, List.drop_succ_cons, List.drop_succ_cons, List.cons_append, List.cons_append, List.cons_append, List.cons_append, ih, List.set_cons_succ, encN]
theorem vals_getN {R : List RI} {r : Int} (h0 : 0 ≤ r) (h : r < R.length) (d : Int) : (R.map RI.v).getD r.toNat d = (R.getD r.toNat zN).v := by
  have : r.toNat < R.length := by omega
  simp [List.getD_eq_getElem?_getD, this]
theorem mayM_b {x : Ins} {n : Nat} (h : mayM x n = true) : 0 ≤ x.b ∧ x.b < (n : Int) := by
  obtain ⟨_, _, m6, m7⟩ := mayM_facts h
  by_cases e : x.op = 3 ∨ x.op = 4
  · exact m7 e
  · simp only [mayM, Bool.and_eq_true, decide_eq_true_eq] at h
    obtain ⟨⟨⟨⟨_, _, _, _, h5⟩, _⟩, _⟩, _⟩ := h
    omega
theorem mayM_c {x : Ins} {n : Int} (h : mayM x n = true) : (x.op = 5 ∨ x.op = 6 → x.c ≠ 0 ∧ -512 ≤ x.c ∧ x.c ≤ 512) ∧ (x.op = 7 ∨ x.op = 8 → 1 ≤ x.c ∧ x.c ≤ 64) := by
  simp only [mayM, Bool.and_eq_true] at h
  have hc := h.1.1.2
  unfold constant at hc
  constructor
  · intro e
    rw [if_pos e, decide_eq_true_eq] at hc
    exact hc
  · intro e
    rw [if_neg (by omega), if_pos e, decide_eq_true_eq] at hc
    exact hc
theorem stepE_num {R : List RI} {x : Ins} (h : mayM x R.length = true) : stepE numSem (R.map RI.v) x = (numF x.op x.c (R.getD x.a.toNat zN).v (R.getD x.b.toNat zN).v).map fun v => (R.map RI.v).set x.to.toNat v := by
  obtain ⟨_, _, ⟨a0, a1⟩, _⟩ := mayM_facts h
  obtain ⟨b0, b1⟩ := mayM_b h
  unfold stepE
  rw [vals_getN a0 a1, vals_getN b0 b1]
  rfl
theorem loop_run2 (kf : Nat) (ins : Int) (n : Nat) (code : List Ins) (nl : Bool) (cap : Option Nat) (outs : List Int) (nl2 : Bool) (cap2 : Option Nat) (hn : n ≤ 128) (R0 : List RI) (hR0 : R0.length = n) (hS0 : ∀ r ∈ R0, (nD r.v).length ≤ 4) (hcode : ∀ x ∈ code, mayM x n = true) (hcl : code.length ≤ 300) (hkf : 70000 ≤ kf) (k : Nat) (l : Ass) (z : Option Out) (hz : loopR Try.prog tab (kf + 9) none LB92_2 92 42 [2, 3, 4, 14, 15, 16] 3 k l ([rN R0, bxN, bxQ ins n code nl cap outs nl2 cap2]) = z) (hk : code.length < k) (a2 : asc l 2 = .hsl 0 0 n (n * 2) 2) (a3 : asc l 3 = .c (.fn 94)) (a4 : asc l 4 = .ptr 1 0) (a14 : asc l 14 = sC code nl cap) (a15 : asc l 15 = ii code.length) (a16 : asc l 16 = ii 0) :
    (∃ l' R, z = some (.exit 0 (fr 42 l') [rN R, bxN, bxQ ins n code nl cap outs nl2 cap2]) ∧ runE numSem code (R0.map RI.v) = some (R.map RI.v) ∧ R.length = n ∧ (∀ r ∈ R, (nD r.v).length ≤ 1000)) ∨ (runE numSem code (R0.map RI.v) = none ∧ ∃ (l' : Ass) (R : List RI) (j : Nat) (X : Heap), z = some (.ret (fr 42 l') (rN R :: X)) ∧ asc l' 8 = ii j ∧ R.length = n) := by
  subst hz
  refine loop_nat code.length (fun k l H => loopR Try.prog tab (kf + 9) none LB92_2 92 42 [2, 3, 4, 14, 15, 16] 3 k l H)
    (fun i l H => ∃ (R : List RI), asc l 2 = .hsl 0 0 n (n * 2) 2 ∧ asc l 3 = .c (.fn 94) ∧ asc l 4 = .ptr 1 0 ∧ asc l 14 = sC code nl cap ∧ asc l 15 = ii code.length ∧ asc l 16 = ii i ∧ (runE numSem (code.take i) (R0.map RI.v) = some (R.map RI.v) ∧ R.length = n ∧ (∀ r ∈ R, (nD r.v).length ≤ 4 + 3 * i)) ∧ ∃ G, H = ([rN R, bxN, bxQ ins n code nl cap outs nl2 cap2]) ++ G)
    (fun z => (∃ l' R, z = some (.exit 0 (fr 42 l') [rN R, bxN, bxQ ins n code nl cap outs nl2 cap2]) ∧ runE numSem code (R0.map RI.v) = some (R.map RI.v) ∧ R.length = n ∧ (∀ r ∈ R, (nD r.v).length ≤ 1000)) ∨ (runE numSem code (R0.map RI.v) = none ∧ ∃ (l' : Ass) (R : List RI) (j : Nat) (X : Heap), z = some (.ret (fr 42 l') (rN R :: X)) ∧ asc l' 8 = ii j ∧ R.length = n)) ?_ code.length 0 k l _ (by omega) hk ⟨R0, a2, a3, a4, a14, a15, a16, ⟨rfl, hR0, hS0⟩, [], by rw [List.append_nil]⟩
  clear hk a2 a3 a4 a14 a15 a16
  rintro i k l H hi ⟨R, a2, a3, a4, a14, a15, a16, hp, G, rfl⟩
  have ht : trim 3 (fr 42 (keep l [2, 3, 4, 14, 15, 16])) (([rN R, bxN, bxQ ins n code nl cap outs nl2 cap2]) ++ G) = ([rN R, bxN, bxQ ins n code nl cap outs nl2 cap2]) := trim_app (by simp) (by simp only [a2, a3, a4, a14, a15, a16, EVb, EVc, Int.reduceEq, Int.reduceToNat, Int.reduceLE, Int.reduceLT, Int.reduceAdd, Int.reduceMul, Int.reduceSub, Int.reduceNeg, Nat.reduceAdd, Nat.reduceSub, Nat.reduceMul, Nat.reduceLT, Nat.reduceBEq, Nat.reduceEqDiff, Nat.reduceLeDiff]) (by simp only [EVb, EVc, Int.reduceEq, Int.reduceToNat, Int.reduceLE, Int.reduceLT, Int.reduceAdd, Int.reduceMul, Int.reduceSub, Int.reduceNeg, Nat.reduceAdd, Nat.reduceSub, Nat.reduceMul, Nat.reduceLT, Nat.reduceBEq, Nat.reduceEqDiff, Nat.reduceLeDiff])
  by_cases hc : i < code.length
  · have hc' : (i : Int) < ((code.length : Nat) : Int) := by omega
    have hc0 : (0 : Int) ≤ i := by omega
    have hw : IntKind.wrap .i64 ((i : Int) + 1) = ((i + 1 : Nat) : Int) := by rw [wrap64 (by omega) (by omega)]; omega
    obtain ⟨hp, hRl, hRS⟩ := hp
    have hx := encCode_get hc
    obtain ⟨x, hX⟩ : ∃ x, x = code[i] := ⟨_, rfl⟩
    rw [← hX] at hx
    have hm := hcode x (by rw [hX]; exact List.getElem_mem hc)
    have hm2 := hm
    rw [← hRl] at hm2
    obtain ⟨h18, ⟨t0, t1⟩, hab, _⟩ := mayM_facts hm
    obtain ⟨y, ok, hq, hd⟩ := do_ev kf R n x.op x.to x.a x.b x.c hRl (by omega) h18 hab (mayM_b hm) (mayM_c hm) (fun r hr => Nat.le_trans (hRS r hr) (by omega)) hkf
    have hst := stepE_num hm2
    have hrun : runE numSem (code.take (i + 1)) (R0.map RI.v) = stepE numSem (R.map RI.v) x := by
      rw [List.take_succ_eq_append_getElem hc, runE_snoc, hp, ← hX]; rfl
    rw [hst, hq] at hrun
    have hel := encN_length R
    rw [hRl] at hel
    have htk : (encN R).take (n * 2) = encN R := List.take_of_length_le (by rw [hel]; exact Nat.le_refl _)
    have ht2 : x.to.toNat * 2 + 2 ≤ n * 2 := by omega
    have hset := encN_put (l := R) (i := x.to.toNat) y (by omega)
    have hn1 := Run1_ev (kf + 8) i y
    simp only [run, aI, aW, ii, bb] at hd hn1
    cases ok with
    | false =>
      refine .inl (.inr ⟨?_, ?_⟩)
      · have e := List.take_append_drop (i + 1) code
        rw [← e, runE_append, hrun]; rfl
      · simp only [loopR_succ, ht]
        simp only [a2, a3, a4, a14, a15, a16, hc', hc0, hw, hx, hel, htk, hd, loopR_succ, loopOf, findLoop, firstRegion, Option.some_or, Option.none_or, Option.getD_some, Option.some.injEq, Try.f92, FT, Int.reduceEq, Int.reduceToNat, Int.reduceLE, Int.reduceLT, Int.reduceAdd, Int.reduceMul, Int.reduceSub, Int.reduceNeg, Nat.reduceAdd, Nat.reduceSub, Nat.reduceMul, Nat.reduceLT, Nat.reduceBEq, Nat.reduceEqDiff, Nat.reduceLeDiff]
        exact ⟨_, R, i, _, rfl, (by rfl), hRl⟩
    | true =>
      simp only [loopR_succ, ht]
      simp only [a2, a3, a4, a14, a15, a16, hc', hc0, hw, hx, hel, htk, hd, t0, t1, ht2, hset, hn1, loopR_succ, loopOf, findLoop, firstRegion, Option.some_or, Option.none_or, Option.getD_some, Option.some.injEq, Try.f92, FT, Int.reduceEq, Int.reduceToNat, Int.reduceLE, Int.reduceLT, Int.reduceAdd, Int.reduceMul, Int.reduceSub, Int.reduceNeg, Nat.reduceAdd, Nat.reduceSub, Nat.reduceMul, Nat.reduceLT, Nat.reduceBEq, Nat.reduceEqDiff, Nat.reduceLeDiff]
      refine .inr ⟨_, _, hc, rfl, R.set x.to.toNat y, (by rfl), (by rfl), (by rfl), (by rfl), (by rfl), (by rfl), ⟨?_, by simp [hRl], ?_⟩, ⟨_, by rfl⟩⟩
      · rw [hrun, List.map_set]; rfl
      · intro r hr
        rcases List.mem_or_eq_of_mem_set hr with hr | rfl
        · have := hRS r hr; omega
        · have := numF_small (n := 4 + 3 * i) (fun _ => mayM_c hm) (getD_small (i := x.a.toNat) hRS) (getD_small (i := x.b.toNat) hRS) hq
          omega
  · refine .inl ?_
    obtain rfl : i = code.length := by omega
    have hc' : ¬ (((code.length : Nat) : Int) < ((code.length : Nat) : Int)) := by omega
    obtain ⟨hp, hRl, hRS⟩ := hp
    rw [List.take_of_length_le (Nat.le_refl _)] at hp
    simp only [loopR_succ, ht]
    simp only [a2, a3, a4, a14, a15, a16, hc', loopR_succ, loopOf, findLoop, firstRegion, Option.some_or, Option.none_or, Option.getD_some, Option.some.injEq, Try.f92, FT, Int.reduceEq, Int.reduceToNat, Int.reduceLE, Int.reduceLT, Int.reduceAdd, Int.reduceMul, Int.reduceSub, Int.reduceNeg, Nat.reduceAdd, Nat.reduceSub, Nat.reduceMul, Nat.reduceLT, Nat.reduceBEq, Nat.reduceEqDiff, Nat.reduceLeDiff]
    exact .inl ⟨_, R, rfl, hp, hRl, fun r hr => Nat.le_trans (hRS r hr) (by omega)⟩
end
end Go.Proofs.Sw.W
namespace Go.Proofs.Sw.W
open Go.Ab
section
variable [Globals]
abbrev sN (Z : List RI) (nl : Bool) (cap : Option Nat) : AV := .c (.slice (encN Z) Z.length nl cap)
theorem loop_l15list (kf : Nat) (D : List Int) (nl : Bool) (cap : Option Nat) (hl : D.length ≤ 20000) (hin : ∀ x ∈ D, -9223372036854775808 ≤ x ∧ x ≤ 9223372036854775807) (hkf : 20 < kf) (k : Nat) (l : Ass) (z : Option Out) (hz : loopR Try.prog tab (kf + 4) none LB60_3 60 19 [3, 6, 7, 8] 1 k l ([lo 140 0 (encN [])]) = z) (hk : D.length < k) (a3 : asc l 3 = lv 0 2 0) (a6 : asc l 6 = sI D nl cap) (a7 : asc l 7 = ii D.length) (a8 : asc l 8 = ii 0) :
    ∃ l' Z, z = some (.exit 0 (fr 19 l') [lo 140 D.length (encN Z)]) ∧ asc l' 3 = lv 0 2 D.length ∧ Z.map RI.v = D ∧ (∀ r ∈ Z, (nD r.v).length ≤ 4) := by
  subst hz
  refine loop_nat D.length (fun k l H => loopR Try.prog tab (kf + 4) none LB60_3 60 19 [3, 6, 7, 8] 1 k l H)
    (fun i l H => ∃ (Z : List RI), asc l 3 = lv 0 2 i ∧ asc l 6 = sI D nl cap ∧ asc l 7 = ii D.length ∧ asc l 8 = ii i ∧ (Z.map RI.v = D.take i ∧ (∀ r ∈ Z, (nD r.v).length ≤ 4)) ∧ ∃ G, H = ([lo 140 i (encN Z)]) ++ G)
    (fun z => ∃ l' Z, z = some (.exit 0 (fr 19 l') [lo 140 D.length (encN Z)]) ∧ asc l' 3 = lv 0 2 D.length ∧ Z.map RI.v = D ∧ (∀ r ∈ Z, (nD r.v).length ≤ 4)) ?_ D.length 0 k l _ (by omega) hk ⟨[], a3, a6, a7, a8, ⟨rfl, fun r h => by cases h⟩, [], by rw [List.append_nil]⟩
  clear hk a3 a6 a7 a8
  rintro i k l H hi ⟨Z, a3, a6, a7, a8, hp, G, rfl⟩
  have ht : trim 1 (fr 19 (keep l [3, 6, 7, 8])) (([lo 140 i (encN Z)]) ++ G) = ([lo 140 i (encN Z)]) := trim_app (by simp) (by simp only [a3, a6, a7, a8, lo_under, lv_under, EVb, EVc, Int.reduceEq, Int.reduceToNat, Int.reduceLE, Int.reduceLT, Int.reduceAdd, Int.reduceMul, Int.reduceSub, Int.reduceNeg, Nat.reduceAdd, Nat.reduceSub, Nat.reduceMul, Nat.reduceLT, Nat.reduceBEq, Nat.reduceEqDiff, Nat.reduceLeDiff]) (by simp only [lo_under, lv_under, EVb, EVc, Int.reduceEq, Int.reduceToNat, Int.reduceLE, Int.reduceLT, Int.reduceAdd, Int.reduceMul, Int.reduceSub, Int.reduceNeg, Nat.reduceAdd, Nat.reduceSub, Nat.reduceMul, Nat.reduceLT, Nat.reduceBEq, Nat.reduceEqDiff, Nat.reduceLeDiff])
  by_cases hc : i < D.length
  · have hc' : (i : Int) < ((D.length : Nat) : Int) := by omega
    have hc0 : (0 : Int) ≤ i := by omega
    have hw : IntKind.wrap .i64 ((i : Int) + 1) = ((i + 1 : Nat) : Int) := by rw [wrap64 (by omega) (by omega)]; omega
    obtain ⟨hp, hZs⟩ := hp
    have hx := encInts_get hc
    have hb := hin _ (List.getElem_mem hc)
    obtain ⟨y, hy, h1⟩ := Of_ev kf D[i] hb.1 hb.2 hkf
    have hyl : (nD y.v).length ≤ 4 := dig_len (k := 4) (by
      have : (4294967296 : Nat) ^ 4 = 340282366920938463463374607431768211456 := by decide
      omega)
    have hZl : Z.length = i := by
      have := congrArg List.length hp
      simpa [List.length_take, Nat.min_eq_left (show i ≤ D.length by omega)] using this
    have hell := encInts_length D
    have hap := fun (X : Heap) (y z : IV) => apO_lv (e := 140) (s := 0) (n := i) (m := 1) (sz := 2) (by_ := 32) (cells := encN Z) (cs := [y, z]) (H := lo 140 i (encN Z) :: X) (by decide) (Nat.le_trans (Nat.mul_le_mul_right 32 (show i + 1 ≤ 20001 by omega)) (by decide)) (by decide) (by rfl) (by rw [encN_length, hZl])
    simp only [run, aW, ii] at h1
    simp only [loopR_succ, ht]
    simp only [a3, a6, a7, a8, hc', hc0, hw, hx, hell, h1, hap, loopR_succ, loopOf, findLoop, firstRegion, Option.some_or, Option.none_or, Option.getD_some, Option.some.injEq, Try.f60, FT, Int.reduceEq, Int.reduceToNat, Int.reduceLE, Int.reduceLT, Int.reduceAdd, Int.reduceMul, Int.reduceSub, Int.reduceNeg, Nat.reduceAdd, Nat.reduceSub, Nat.reduceMul, Nat.reduceLT, Nat.reduceBEq, Nat.reduceEqDiff, Nat.reduceLeDiff]
    refine .inr ⟨_, _, hc, rfl, Z ++ [y], (by rfl), (by rfl), (by rfl), (by rfl), ⟨?_, ?_⟩, ⟨_, by rw [encN_append]; exact rfl⟩⟩
    · rw [List.map_append, hp, List.take_succ_eq_append_getElem hc]
      simp [hy]
    · intro r hr
      rcases List.mem_append.1 hr with hr | hr
      · exact hZs r hr
      · rw [List.mem_singleton.1 hr]; exact hyl
  · refine .inl ?_
    obtain rfl : i = D.length := by omega
    have hc' : ¬ (((D.length : Nat) : Int) < ((D.length : Nat) : Int)) := by omega
    obtain ⟨hp, hZs⟩ := hp
    rw [List.take_of_length_le (Nat.le_refl _)] at hp
    simp only [loopR_succ, ht]
    simp only [a3, a6, a7, a8, hc', loopR_succ, loopOf, findLoop, firstRegion, Option.some_or, Option.none_or, Option.getD_some, Option.some.injEq, Try.f60, FT, Int.reduceEq, Int.reduceToNat, Int.reduceLE, Int.reduceLT, Int.reduceAdd, Int.reduceMul, Int.reduceSub, Int.reduceNeg, Nat.reduceAdd, Nat.reduceSub, Nat.reduceMul, Nat.reduceLT, Nat.reduceBEq, Nat.reduceEqDiff, Nat.reduceLeDiff]
    exact ⟨_, Z, rfl, (by rfl), hp, hZs⟩
theorem l15list_ev (k : Nat) (l : List Int) (nl : Bool) (cap : Option Nat) (hl : l.length ≤ 20000) (hin : ∀ x ∈ l, -9223372036854775808 ≤ x ∧ x ≤ 9223372036854775807) (hk : l.length + 20 < k) :
    ∃ (Z : List RI) (nl3 : Bool) (cap3 : Option Nat), Z.map RI.v = l ∧ (∀ r ∈ Z, (nD r.v).length ≤ 4) ∧ run (k+5) 60 [sI l nl cap] = some (sN Z nl3 cap3) := by
  rw [run, ev60, ans_trim]
  simp only [Try.f60, FT, Int.reduceEq, Int.reduceToNat, Int.reduceLE, Int.reduceLT, Int.reduceAdd, Int.reduceMul, Int.reduceSub, Int.reduceNeg, Nat.reduceAdd, Nat.reduceSub, Nat.reduceMul, Nat.reduceLT, Nat.reduceBEq, Nat.reduceEqDiff, Nat.reduceLeDiff]
  rw [evalCode_loopB LB60_3 lp60_3]; rotate_left; rfl; rfl; rfl
  generalize hz : loopR _ _ _ _ _ _ _ _ _ _ _ _ = z
  obtain ⟨l', Z, rfl, e3, hp, hZs⟩ := loop_l15list k l nl cap hl hin (by omega) _ _ z hz (by omega) (by rfl) (by rfl) (by rfl) (by rfl)
  clear hz
  have hZl : Z.length = l.length := by rw [← hp]; simp
  have hel := encN_length Z
  rw [hZl] at hel
  refine ⟨Z, decide (l.length = 0), if l.length = 0 then some 0 else none, hp, hZs, ?_⟩
  simp only [e3, hel, FT, Int.reduceEq, Int.reduceToNat, Int.reduceLE, Int.reduceLT, Int.reduceAdd, Int.reduceMul, Int.reduceSub, Int.reduceNeg, Nat.reduceAdd, Nat.reduceSub, Nat.reduceMul, Nat.reduceLT, Nat.reduceBEq, Nat.reduceEqDiff, Nat.reduceLeDiff]
  rw [sN, hZl]
  try rfl
theorem take_vN {A : List RI} {i : Nat} (h : i < A.length) : (A.map RI.v).take (i + 1) = (A.map RI.v).take i ++ [(A.getD i zN).v] := by
  rw [List.take_succ_eq_append_getElem (by simpa using h), List.getElem_map, List.getD_eq_getElem?_getD, List.getElem?_eq_getElem h]
  rfl
end
end Go.Proofs.Sw.W
namespace Go.Proofs.Sw.W
open Go.Ab
section
variable [Globals]
theorem eRight_ev (k : Nat) (p : Pg) (nl : Bool) (cap : Option Nat) (nl2 : Bool) (cap2 : Option Nat) (hr : rightM p = true) (hk : p.outs.length + p.code.length + 10 ≤ k) :
    run (k+2) 91 [aP p nl cap nl2 cap2, ii p.ins] = some (ii 0) := by
  obtain ⟨n, hc⟩ := check_ev k p nl cap nl2 cap2 hk
  rw [checkE, if_pos hr] at hc
  simp only [run, aP, ii] at hc
  rw [run, ev91, ans_trim]
  simp only [Try.f91, aP, ii, hc, FT, Int.reduceEq, Int.reduceToNat, Int.reduceLE, Int.reduceLT, Int.reduceAdd, Int.reduceMul, Int.reduceSub, Int.reduceNeg, Nat.reduceAdd, Nat.reduceSub, Nat.reduceMul, Nat.reduceLT, Nat.reduceBEq, Nat.reduceEqDiff, Nat.reduceLeDiff]
theorem eRunI_ev (k : Nat) (ins : Int) (n : Nat) (code : List Ins) (nl : Bool) (cap : Option Nat) (outs : List Int) (nl2 : Bool) (cap2 : Option Nat) (hn : n ≤ 128) (R0 : List RI) (hR0 : R0.length = n) (hS0 : ∀ r ∈ R0, (nD r.v).length ≤ 4) (hcode : ∀ x ∈ code, mayM x n = true) (hcl : code.length ≤ 300) (hk : 70000 ≤ k) :
    ∃ (R : List RI) (j : Int), R.length = n ∧ ((runE numSem code (R0.map RI.v) = some (R.map RI.v) ∧ j = -1 ∧ (∀ r ∈ R, (nD r.v).length ≤ 1000)) ∨ (runE numSem code (R0.map RI.v) = none ∧ 0 ≤ j)) ∧
      evalT Try.prog (mkHints tab) (k+10) (.fn 92) [fnsV, aP ⟨ins, n, code, outs⟩ nl cap nl2 cap2, .hsl 0 0 n (n * 2) 2, .c (.fn 94)] [rN R0] = some (ii j, [rN R]) := by
  rw [ev92]
  simp only [Try.f92, fnsV, aP, ii, FT, Int.reduceEq, Int.reduceToNat, Int.reduceLE, Int.reduceLT, Int.reduceAdd, Int.reduceMul, Int.reduceSub, Int.reduceNeg, Nat.reduceAdd, Nat.reduceSub, Nat.reduceMul, Nat.reduceLT, Nat.reduceBEq, Nat.reduceEqDiff, Nat.reduceLeDiff]
  rw [evalCode_loopB LB92_2 lp92_2]; rotate_left; rfl; rfl; rfl
  generalize hz : loopR _ _ _ _ _ _ _ _ _ _ _ _ = z
  obtain ⟨l', R, rfl, hrun, hRl, hRS⟩ | ⟨hrun, l', R, j, X, rfl, e8, hRl⟩ := loop_run2 k ins n code nl cap outs nl2 cap2 hn R0 hR0 hS0 hcode hcl hk _ _ z hz (by omega) (by rfl) (by rfl) (by rfl) (by rfl) (by rfl) (by rfl)
  · clear hz
    refine ⟨R, -1, hRl, .inl ⟨hrun, rfl, hRS⟩, ?_⟩
    simp only [FT, Int.reduceEq, Int.reduceToNat, Int.reduceLE, Int.reduceLT, Int.reduceAdd, Int.reduceMul, Int.reduceSub, Int.reduceNeg, Nat.reduceAdd, Nat.reduceSub, Nat.reduceMul, Nat.reduceLT, Nat.reduceBEq, Nat.reduceEqDiff, Nat.reduceLeDiff]
  · clear hz
    refine ⟨R, j, hRl, .inr ⟨hrun, by omega⟩, ?_⟩
    simp only [e8, FT, Int.reduceEq, Int.reduceToNat, Int.reduceLE, Int.reduceLT, Int.reduceAdd, Int.reduceMul, Int.reduceSub, Int.reduceNeg, Nat.reduceAdd, Nat.reduceSub, Nat.reduceMul, Nat.reduceLT, Nat.reduceBEq, Nat.reduceEqDiff, Nat.reduceLeDiff]
theorem encN_rep (n : Nat) : (List.replicate n [IV.bool false, IV.slice [] 0 true (some 0)]).flatten = encN (List.replicate n zN) := by
  induction n with
  | zero => rfl
  | succ n ih =>
    rw [List.replicate_succ, List.flatten_cons, ih, List.replicate_succ, encN]
    simp [dig_zero, encD]
def iniN (Z : List RI) (n : Nat) : List RI := Z ++ List.replicate (n - Z.length) zN
def outN (R : List RI) (outs : List Int) (i : Nat) : List RI := (outs.take i).map fun r => R.getD r.toNat zN
theorem outN_succ {R : List RI} {outs : List Int} {i : Nat} (h : i < outs.length) : outN R outs (i + 1) = outN R outs i ++ [R.getD outs[i].toNat zN] := by
  unfold outN
  rw [List.take_succ_eq_append_getElem h, List.map_append]; rfl
theorem outN_length {R : List RI} {outs : List Int} {i : Nat} (h : i ≤ outs.length) : (outN R outs i).length = i := by
  unfold outN
  rw [List.length_map, List.length_take]; omega
theorem outN_full (R : List RI) (outs : List Int) : outN R outs outs.length = outs.map fun r => R.getD r.toNat zN := by
  unfold outN
  rw [List.take_of_length_le (Nat.le_refl _)]
theorem loop_Run11 (kf : Nat) (ins : Int) (n : Nat) (code : List Ins) (nl : Bool) (cap : Option Nat) (outs : List Int) (nl2 : Bool) (cap2 : Option Nat) (R : List RI) (hR : R.length = n) (hout : ∀ r ∈ outs, 0 ≤ r ∧ r < (n : Int)) (ho : outs.length ≤ 200) (k : Nat) (l : Ass) (z : Option Out) (hz : loopR Try.prog tab kf none LB55_11 55 49 [8, 10, 34, 35, 36] 3 k l ([lo 140 0 (encN (outN R outs 0)), bxQ ins n code nl cap outs nl2 cap2, rN R]) = z) (hk : outs.length < k) (a8 : asc l 8 = .hsl 2 0 n (n * 2) 2) (a10 : asc l 10 = lv 0 2 0) (a34 : asc l 34 = sI outs nl2 cap2) (a35 : asc l 35 = ii outs.length) (a36 : asc l 36 = ii 0) :
    ∃ l', z = some (.exit 0 (fr 49 l') ([lo 140 outs.length (encN (outN R outs outs.length)), bxQ ins n code nl cap outs nl2 cap2, rN R])) ∧ asc l' 8 = .hsl 2 0 n (n * 2) 2 ∧ asc l' 10 = lv 0 2 outs.length ∧ asc l' 34 = sI outs nl2 cap2 ∧ asc l' 35 = ii outs.length ∧ asc l' 36 = ii outs.length := by
  subst hz
  refine loop_nat outs.length (fun k l H => loopR Try.prog tab kf none LB55_11 55 49 [8, 10, 34, 35, 36] 3 k l H)
    (fun i l H => asc l 8 = .hsl 2 0 n (n * 2) 2 ∧ asc l 10 = lv 0 2 i ∧ asc l 34 = sI outs nl2 cap2 ∧ asc l 35 = ii outs.length ∧ asc l 36 = ii i ∧ ∃ G, H = ([lo 140 i (encN (outN R outs i)), bxQ ins n code nl cap outs nl2 cap2, rN R]) ++ G)
    (fun z => ∃ l', z = some (.exit 0 (fr 49 l') ([lo 140 outs.length (encN (outN R outs outs.length)), bxQ ins n code nl cap outs nl2 cap2, rN R])) ∧ asc l' 8 = .hsl 2 0 n (n * 2) 2 ∧ asc l' 10 = lv 0 2 outs.length ∧ asc l' 34 = sI outs nl2 cap2 ∧ asc l' 35 = ii outs.length ∧ asc l' 36 = ii outs.length) ?_ outs.length 0 k l _ (by omega) hk ⟨a8, a10, a34, a35, a36, [], by rw [List.append_nil]⟩
  clear hk a8 a10 a34 a35 a36
  rintro i k l H hi ⟨a8, a10, a34, a35, a36, G, rfl⟩
  have ht : trim 3 (fr 49 (keep l [8, 10, 34, 35, 36])) (([lo 140 i (encN (outN R outs i)), bxQ ins n code nl cap outs nl2 cap2, rN R]) ++ G) = ([lo 140 i (encN (outN R outs i)), bxQ ins n code nl cap outs nl2 cap2, rN R]) := trim_app (by simp) (by simp only [a8, a10, a34, a35, a36, lo_under, lv_under, EVb, EVc, Int.reduceEq, Int.reduceToNat, Int.reduceLE, Int.reduceLT, Int.reduceAdd, Int.reduceMul, Int.reduceSub, Int.reduceNeg, Nat.reduceAdd, Nat.reduceSub, Nat.reduceMul, Nat.reduceLT, Nat.reduceBEq, Nat.reduceEqDiff, Nat.reduceLeDiff]) (by simp only [lo_under, lv_under, EVb, EVc, Int.reduceEq, Int.reduceToNat, Int.reduceLE, Int.reduceLT, Int.reduceAdd, Int.reduceMul, Int.reduceSub, Int.reduceNeg, Nat.reduceAdd, Nat.reduceSub, Nat.reduceMul, Nat.reduceLT, Nat.reduceBEq, Nat.reduceEqDiff, Nat.reduceLeDiff])
  by_cases hc : i < outs.length
  · have hc' : (i : Int) < ((outs.length : Nat) : Int) := by omega
    have hc0 : (0 : Int) ≤ i := by omega
    have hw : IntKind.wrap .i64 ((i : Int) + 1) = ((i + 1 : Nat) : Int) := by rw [wrap64 (by omega) (by omega)]; omega
    have hx := encInts_get hc
    obtain ⟨hb0, hb1⟩ := hout _ (List.getElem_mem hc)
    obtain ⟨r, hr⟩ : ∃ r, r = outs[i] := ⟨_, rfl⟩
    rw [← hr] at hx hb0 hb1
    have hxr := encN_two (l := R) (i := r.toNat) (by omega)
    have hol := outN_length (R := R) (Nat.le_of_lt hc)
    have hos := outN_succ (R := R) hc
    rw [← hr] at hos
    have hel := encN_length R
    rw [hR] at hel
    have hel2 := encInts_length outs
    have hr2 : r.toNat * 2 + 2 ≤ n * 2 := by omega
    have hap := fun (X : Heap) (y z : IV) => apO_lv (e := 140) (s := 0) (n := i) (m := 1) (sz := 2) (by_ := 32) (cells := encN (outN R outs i)) (cs := [y, z]) (H := lo 140 i (encN (outN R outs i)) :: X) (by decide) (Nat.le_trans (Nat.mul_le_mul_right 32 (show i + 1 ≤ 20001 by omega)) (by decide)) (by decide) (by rfl) (by rw [encN_length, hol])
    have happ : encN (outN R outs i) ++ [.bool (decide ((R.getD r.toNat zN).v < 0)), .slice (encD (dig (R.getD r.toNat zN).v.natAbs)) (dig (R.getD r.toNat zN).v.natAbs).length (R.getD r.toNat zN).nl (R.getD r.toNat zN).cap] = encN (outN R outs (i + 1)) := by rw [hos, encN_append]; rfl
    simp only [loopR_succ, ht]
    simp only [a8, a10, a34, a35, a36, hc', hc0, hw, hx, hb0, hb1, hr2, hxr, hel, hel2, hap, happ, loopR_succ, loopOf, findLoop, firstRegion, Option.some_or, Option.none_or, Option.getD_some, Option.some.injEq, Try.f55, FT, Int.reduceEq, Int.reduceToNat, Int.reduceLE, Int.reduceLT, Int.reduceAdd, Int.reduceMul, Int.reduceSub, Int.reduceNeg, Nat.reduceAdd, Nat.reduceSub, Nat.reduceMul, Nat.reduceLT, Nat.reduceBEq, Nat.reduceEqDiff, Nat.reduceLeDiff]
    exact .inr ⟨_, _, hc, rfl, (by rfl), (by rfl), (by rfl), (by rfl), (by rfl), ⟨_, by rfl⟩⟩
  · refine .inl ?_
    obtain rfl : i = outs.length := by omega
    have hc' : ¬ (((outs.length : Nat) : Int) < ((outs.length : Nat) : Int)) := by omega
    simp only [loopR_succ, ht]
    simp only [a8, a10, a34, a35, a36, hc', loopR_succ, loopOf, findLoop, firstRegion, Option.some_or, Option.none_or, Option.getD_some, Option.some.injEq, Try.f55, FT, Int.reduceEq, Int.reduceToNat, Int.reduceLE, Int.reduceLT, Int.reduceAdd, Int.reduceMul, Int.reduceSub, Int.reduceNeg, Nat.reduceAdd, Nat.reduceSub, Nat.reduceMul, Nat.reduceLT, Nat.reduceBEq, Nat.reduceEqDiff, Nat.reduceLeDiff]
    exact ⟨_, rfl, (by rfl), (by rfl), (by rfl), (by rfl), (by rfl)⟩
end
end Go.Proofs.Sw.W
namespace Go.Proofs.Sw.W
open Go.Ab
section
variable [Globals]
theorem iniN_length {Z : List RI} {n : Nat} (h : Z.length ≤ n) : (iniN Z n).length = n := by simp [iniN]; omega
theorem iniN_cells {Z : List RI} {n : Nat} (h : Z.length ≤ n) : (encN (List.replicate n zN)).take 0 ++ (encN Z).take (Z.length * 2) ++ (encN (List.replicate n zN)).drop (0 + Z.length * 2) = encN (iniN Z n) := by
  have e : List.replicate n zN = List.replicate Z.length zN ++ List.replicate (n - Z.length) zN := by rw [List.replicate_append_replicate]; congr 1; omega
  have hl : (encN (List.replicate Z.length zN)).length = Z.length * 2 := by rw [encN_length, List.length_replicate]
  rw [List.take_zero, List.nil_append, Nat.zero_add, e, encN_append, List.drop_append_of_le_length (by omega), List.drop_of_length_le (by omega), List.nil_append, iniN, encN_append, List.take_of_length_le (by rw [encN_length]; exact Nat.le_refl _)]
theorem cpN {Z : List RI} {n : Nat} (h : Z.length ≤ n) {a b : AObj} {X : Heap} : cpO 2 (.hsl 2 0 n (n * 2) 2) (a :: b :: .row false 140 (encN (List.replicate n zN)) :: X) (some (encN Z, Z.length)) = some (Z.length, a :: b :: rN (iniN Z n) :: X) := by
  have hrep : (encN (List.replicate n zN)).length = n * 2 := by rw [encN_length, List.length_replicate]
  have hr : rowOf (a :: b :: .row false 140 (encN (List.replicate n zN)) :: X) 2 (n * 2) = some (140, encN (List.replicate n zN)) := rowOf_eq (fz := false) rfl hrep
  unfold cpO
  simp only [Option.bind_some, hr]
  rw [if_pos ⟨by omega, trivial, rfl⟩, Nat.min_eq_left h, iniN_cells h]
  rfl
theorem Run_ev (k : Nat) (ins : Int) (n : Nat) (code : List Ins) (outs : List Int) (nl : Bool) (cap : Option Nat) (nl2 : Bool) (cap2 : Option Nat) (Z : List RI) (nl3 : Bool) (cap3 : Option Nat) (hr : rightM ⟨ins, n, code, outs⟩ = true) (hZ : (Z.length : Int) = ins) (hZs : ∀ r ∈ Z, (nD r.v).length ≤ 4) (hcl : code.length ≤ 300) (hk : 70000 ≤ k) :
    (runE numSem code ((iniN Z n).map RI.v) = none ∧ ∃ j : Int, run (k+11) 55 [aP ⟨ins, n, code, outs⟩ nl cap nl2 cap2, sN Z nl3 cap3] = some (.tup [.c (.slice [] 0 true (some 0)), ii j, ii 20])) ∨
    ∃ (R : List RI) (nl4 : Bool) (cap4 : Option Nat), runE numSem code ((iniN Z n).map RI.v) = some (R.map RI.v) ∧ R.length = n ∧ (∀ r ∈ R, (nD r.v).length ≤ 1000) ∧ run (k+11) 55 [aP ⟨ins, n, code, outs⟩ nl cap nl2 cap2, sN Z nl3 cap3] = some (.tup [sN (outs.map fun r => R.getD r.toNat zN) nl4 cap4, ii 0, ii 0]) := by
  have hr' := hr
  simp only [rightM, headM, codeM, outsM, Bool.and_eq_true, decide_eq_true_eq, List.all_eq_true] at hr'
  obtain ⟨⟨⟨h1, h2, h3, h4, h5, h6⟩, ho⟩, hcd⟩ := hr'
  have q1 : (0 : Int) ≤ (n : Int) := by omega
  have q2 : n * 32 ≤ roomBytes := Nat.le_trans (show n * 32 ≤ 4096 by omega) (by decide)
  have q3 : n ≤ roomBytes := Nat.le_trans (show n ≤ 128 by omega) (by decide)
  have hZn : Z.length ≤ n := by omega
  have hcell := fun (a b : AObj) (X : Heap) => cpN (Z := Z) (n := n) hZn (a := a) (b := b) (X := X)
  have heZ := encN_length Z
  have hrep : (encN (List.replicate n zN)).length = n * 2 := by rw [encN_length, List.length_replicate]
  have hri := eRight_ev (k + 8) ⟨ins, n, code, outs⟩ nl cap nl2 cap2 hr (by simp only; omega)
  rw [show ((⟨ins, n, code, outs⟩ : Pg).ins) = (Z.length : Int) from hZ.symm] at hri
  have hnum := numbers_ev (k + 9)
  have hiS : ∀ r ∈ iniN Z n, (nD r.v).length ≤ 4 := by
    intro r hr
    rcases List.mem_append.1 hr with hr | hr
    · exact hZs r hr
    · rw [List.eq_of_mem_replicate hr]; simp [nD, dig_zero]
  obtain ⟨R, j, hRl, hcase, hrn⟩ := eRunI_ev k ins n code nl cap outs nl2 cap2 (by omega) (iniN Z n) (iniN_length hZn) hiS hcd hcl hk
  have hel := encN_length (iniN Z n)
  rw [iniN_length hZn] at hel
  have htk : (encN (iniN Z n)).take (n * 2) = encN (iniN Z n) := List.take_of_length_le (by rw [hel]; exact Nat.le_refl _)
  have heR := encN_length R
  rw [hRl] at heR
  simp only [run, aP, ii] at hri hnum
  simp only [aP, ii] at hrn
  rcases hcase with ⟨hrun, rfl, hRS⟩ | ⟨hrun, hj⟩
  · refine .inr ⟨R, decide (outs.length = 0), if outs.length = 0 then some 0 else none, hrun, hRl, hRS, ?_⟩
    rw [run, ev55, ans_trim]
    simp only [Try.f55, aP, ii, hri, q1, q2, q3, encN_rep, hcell, heZ, hrep, FT, Int.reduceEq, Int.reduceToNat, Int.reduceLE, Int.reduceLT, Int.reduceAdd, Int.reduceMul, Int.reduceSub, Int.reduceNeg, Nat.reduceAdd, Nat.reduceSub, Nat.reduceMul, Nat.reduceLT, Nat.reduceBEq, Nat.reduceEqDiff, Nat.reduceLeDiff]
    rw [evalCode_drawn Try.f55 6 dr55_6]; rotate_left; rfl
    simp (config := { maxSteps := 4000000 }) only [hnum, hrn, hel, htk, heR, EVd, List.getElem?_nil, Nat.reducePow, Nat.reduceDiv, Nat.reduceMod, FT, Int.reduceEq, Int.reduceToNat, Int.reduceLE, Int.reduceLT, Int.reduceAdd, Int.reduceMul, Int.reduceSub, Int.reduceNeg, Nat.reduceAdd, Nat.reduceSub, Nat.reduceMul, Nat.reduceLT, Nat.reduceBEq, Nat.reduceEqDiff, Nat.reduceLeDiff]
    rw [evalCode_loopB LB55_11 lp55_11]; rotate_left; rfl; rfl; rfl
    generalize hz : loopR _ _ _ _ _ _ _ _ _ _ _ _ = z
    obtain ⟨l', rfl, e8, e10, e34, e35, e36⟩ := loop_Run11 (k + 10) ins n code nl cap outs nl2 cap2 R hRl ho (by omega) _ _ z hz (by omega) (by rfl) (by rfl) (by rfl) (by rfl) (by rfl)
    clear hz
    rw [outN_full]
    have hOe : (encN (outs.map fun r => R.getD r.toNat zN)).length = outs.length * 2 := by rw [encN_length, List.length_map]
    simp only [e10, hOe, sN, List.length_map, FT, Int.reduceEq, Int.reduceToNat, Int.reduceLE, Int.reduceLT, Int.reduceAdd, Int.reduceMul, Int.reduceSub, Int.reduceNeg, Nat.reduceAdd, Nat.reduceSub, Nat.reduceMul, Nat.reduceLT, Nat.reduceBEq, Nat.reduceEqDiff, Nat.reduceLeDiff]
    try rfl
  · refine .inl ⟨hrun, j, ?_⟩
    rw [run, ev55, ans_trim]
    simp only [Try.f55, aP, ii, hri, q1, q2, q3, encN_rep, hcell, heZ, hrep, FT, Int.reduceEq, Int.reduceToNat, Int.reduceLE, Int.reduceLT, Int.reduceAdd, Int.reduceMul, Int.reduceSub, Int.reduceNeg, Nat.reduceAdd, Nat.reduceSub, Nat.reduceMul, Nat.reduceLT, Nat.reduceBEq, Nat.reduceEqDiff, Nat.reduceLeDiff]
    rw [evalCode_drawn Try.f55 6 dr55_6]; rotate_left; rfl
    simp (config := { maxSteps := 4000000 }) only [hnum, hrn, hel, htk, heR, EVd, List.getElem?_nil, Nat.reducePow, Nat.reduceDiv, Nat.reduceMod, FT, Int.reduceEq, Int.reduceToNat, Int.reduceLE, Int.reduceLT, Int.reduceAdd, Int.reduceMul, Int.reduceSub, Int.reduceNeg, Nat.reduceAdd, Nat.reduceSub, Nat.reduceMul, Nat.reduceLT, Nat.reduceBEq, Nat.reduceEqDiff, Nat.reduceLeDiff]
    simp only [hj, FT, Int.reduceEq, Int.reduceToNat, Int.reduceLE, Int.reduceLT, Int.reduceAdd, Int.reduceMul, Int.reduceSub, Int.reduceNeg, Nat.reduceAdd, Nat.reduceSub, Nat.reduceMul, Nat.reduceLT, Nat.reduceBEq, Nat.reduceEqDiff, Nat.reduceLeDiff]
end
end Go.Proofs.Sw.W
namespace Go.Proofs.Sw
open Go.Ab
variable [Globals]
theorem vd_take (l : List Nat) (i : Nat) : vd (l.take (i + 1)) = vd (l.take i) + 65536 ^ i * l.getD i 0 := by
  by_cases h : i < l.length
  · rw [List.take_succ_eq_append_getElem h, vd_snoc, List.length_take, List.getD_eq_getElem?_getD, List.getElem?_eq_getElem h]
    rw [show min i l.length = i by omega]; rfl
  · rw [List.take_of_length_le (by omega), List.take_of_length_le (by omega), List.getD_eq_getElem?_getD, List.getElem?_eq_none (by omega)]; simp
theorem getD_out {l : List Nat} {i : Nat} (h : l.length ≤ i) : l.getD i 0 = 0 := by
  rw [List.getD_eq_getElem?_getD, List.getElem?_eq_none h]; rfl
end Go.Proofs.Sw
namespace Go.Proofs.Sw
open Go.Ab
variable [Globals]
theorem vd_ge {b : List Nat} (hb : Can b) (h : b ≠ []) : 65536 ^ (b.length - 1) ≤ vd b := by
  obtain ⟨l, x, hx⟩ : ∃ l x, b = l ++ [x] := ⟨b.dropLast, b.getLast h, (List.dropLast_concat_getLast h).symm⟩
  have hx0 : x ≠ 0 := fun e => by
    subst e
    have := hb.tr
    rw [hx, trim_app0] at this
    have h2 := trim_len l
    have h3 := congrArg List.length this
    simp at h3
    omega
  rw [hx, vd_snoc, List.length_append]
  simp only [List.length_cons, List.length_nil, Nat.zero_add, Nat.add_sub_cancel]
  have : 65536 ^ l.length * 1 ≤ 65536 ^ l.length * x := Nat.mul_le_mul_left _ (by omega)
  omega
theorem can_len {a b : List Nat} (ha : okD a) (hb : Can b) (h : a.length < b.length) : vd a < vd b := by
  have h1 := vd_lt ha
  have h2 := vd_ge hb (fun e => by rw [e] at h; simp at h)
  have h3 : 65536 ^ a.length ≤ 65536 ^ (b.length - 1) := Nat.pow_le_pow_right (by omega) (by omega)
  omega
theorem vd_split (l : List Nat) (j : Nat) (h : j < l.length) : vd l = vd (l.take j) + 65536 ^ j * (l.getD j 0 + 65536 * vd (l.drop (j + 1))) := by
  have h1 : l = l.take j ++ l.drop j := (List.take_append_drop j l).symm
  have h2 : l.drop j = l.getD j 0 :: l.drop (j + 1) := by
    rw [List.drop_eq_getElem_cons h, List.getD_eq_getElem?_getD, List.getElem?_eq_getElem h]; rfl
  have h3 : (l.take j).length = j := by rw [List.length_take]; omega
  calc vd l = vd (l.take j ++ l.drop j) := by rw [← h1]
    _ = _ := by rw [vd_append, h3, h2, vd]
theorem vd_lt_at {a b : List Nat} (ha : okD a) {j : Nat} (hja : j < a.length) (hjb : j < b.length) (hd : a.drop (j + 1) = b.drop (j + 1)) (h : a.getD j 0 < b.getD j 0) : vd a < vd b := by
  have h1 : vd (a.take j) < 65536 ^ j := by
    have := vd_lt (l := a.take j) (fun d hd => ha d (List.mem_of_mem_take hd))
    rwa [List.length_take, show min j a.length = j by omega] at this
  rw [vd_split a j hja, vd_split b j hjb, hd]
  have h2 : 65536 ^ j * (a.getD j 0 + 65536 * vd (b.drop (j + 1)) + 1) ≤ 65536 ^ j * (b.getD j 0 + 65536 * vd (b.drop (j + 1))) := Nat.mul_le_mul_left _ (by omega)
  rw [Nat.mul_add, Nat.mul_one] at h2
  omega
def cmpN (m n : Nat) : Int := if m < n then -1 else if n < m then 1 else 0
end Go.Proofs.Sw
namespace Go.Proofs.Sw
open Go.Ab
variable [Globals]
abbrev nD (x : Int) : List Nat := dig x.natAbs
theorem dig_len_mono {m n : Nat} (h : m ≤ n) : (dig m).length ≤ (dig n).length := by
  by_cases hlt : (dig n).length < (dig m).length
  · have := can_len (can_dig n).ok (can_dig m) hlt
    rw [vd_dig, vd_dig] at this
    omega
  · omega
theorem eqBool (k : Bool) (a b : Bool) : (a == b) = decide (a = b) := by cases a <;> cases b <;> rfl
end Go.Proofs.Sw
namespace Go.Proofs.Sw
open Go.Ab
variable [Globals]
theorem vd_set : ∀ (l : List Nat) (k v : Nat), k < l.length → vd (l.set k v) + 65536 ^ k * l.getD k 0 = vd l + 65536 ^ k * v
  | [], k, v, h => by simp at h
  | d :: l, 0, v, _ => by simp [vd]; omega
  | d :: l, k + 1, v, h => by
    have ih := vd_set l k v (by simpa using h)
    rw [List.set_cons_succ, vd, vd, Nat.pow_succ]
    have e1 : (d :: l).getD (k + 1) 0 = l.getD k 0 := by simp
    rw [e1, Nat.mul_comm (65536 ^ k) 65536, Nat.mul_assoc, Nat.mul_assoc]
    omega
theorem okD_set {l : List Nat} {k v : Nat} (h : okD l) (hv : v < 65536) : okD (l.set k v) := fun d hd => by
  rcases List.mem_or_eq_of_mem_set hd with hd | rfl
  · exact h d hd
  · exact hv
theorem vd_rep (L : Nat) : vd (List.replicate L 0) = 0 := by
  induction L with
  | zero => rfl
  | succ n ih => rw [List.replicate_succ, vd, ih]
end Go.Proofs.Sw
namespace Go.Proofs.Sw
open Go.Ab
variable [Globals]
def rv (o : Option (Nat × List Nat)) (n : Nat) : AV := match o with
  | none => .c (.slice [] 0 true (some 0))
  | some (id, T) => .hsl id 0 n (n + T.length) 1
end Go.Proofs.Sw
namespace Go.Proofs.Sw
open Go.Ab
variable [Globals]
theorem nD_one {y : Int} (h : (nD y).length = 1) : 0 < (nD y).getD 0 0 := by
  have hc := (can_dig y.natAbs).tr
  obtain ⟨x, hx⟩ : ∃ x, nD y = [x] := by
    cases hl : nD y with
    | nil => rw [hl] at h; cases h
    | cons x t =>
      cases t with
      | nil => exact ⟨x, rfl⟩
      | cons y t => rw [hl] at h; simp at h
  rw [show dig y.natAbs = [x] from hx] at hc
  rw [hx]
  by_cases h0 : x = 0
  · subst h0; cases hc
  · simp; omega
theorem nD_sgn (b : Bool) (n : Nat) : nD (sgn b n) = dig n := by rw [nD, sgn_abs]
end Go.Proofs.Sw
namespace Go.Proofs.Sw
open Go.Ab
variable [Globals]
theorem nD_lt (x : Int) : x.natAbs < 65536 ^ (nD x).length := by
  have := vd_lt (can_dig x.natAbs).ok
  rwa [vd_dig] at this
theorem nD_mul (x y : Int) : (nD (x * y)).length ≤ (nD x).length + (nD y).length := by
  refine dig_len ?_
  rw [Int.natAbs_mul, Nat.pow_add]
  exact Nat.mul_lt_mul'' (nD_lt x) (nD_lt y)
theorem nD_add (x y : Int) {n : Nat} (hx : (nD x).length ≤ n) (hy : (nD y).length ≤ n) : (nD (x + y)).length ≤ n + 1 := by
  refine dig_len ?_
  have h1 := nD_lt x
  have h2 := nD_lt y
  have h3 : 65536 ^ (nD x).length ≤ 65536 ^ n := Nat.pow_le_pow_right (by omega) hx
  have h4 : 65536 ^ (nD y).length ≤ 65536 ^ n := Nat.pow_le_pow_right (by omega) hy
  have h5 : 65536 ^ (n + 1) = 65536 ^ n * 65536 := Nat.pow_succ ..
  omega
end Go.Proofs.Sw
namespace Go.Proofs.Sw
open Go.Ab
variable [Globals]
theorem nD_neg (x : Int) : nD (-x) = nD x := by simp [nD]
end Go.Proofs.Sw
namespace Go.Proofs.Sw
open Go.Ab
variable [Globals]
structure Rw where
  l : List RI
  nl : Bool
  cap : Option Nat
def Rw.vals (r : Rw) : List Int := r.l.map RI.v
def dR : Rw := ⟨[], true, some 0⟩
structure SzR (L n : Nat) (r : Rw) : Prop where
  len : r.l.length = L
  sz : ∀ x ∈ r.l, (nD x.v).length ≤ n
theorem SzR.mono {L n m : Nat} {r : Rw} (h : SzR L n r) (hm : n ≤ m) : SzR L m r := ⟨h.len, fun x hx => Nat.le_trans (h.sz x hx) hm⟩
theorem getD_rw {R : List Rw} {r : Int} (h0 : 0 ≤ r) (h : r < R.length) : R.getD r.toNat dR ∈ R := by
  have : r.toNat < R.length := by omega
  rw [List.getD_eq_getElem?_getD, List.getElem?_eq_getElem this]
  exact List.getElem_mem this
theorem Rw.small {L n : Nat} {r : Rw} (h : SzR L n r) : ∀ x ∈ r.vals, (nD x).length ≤ n := by
  intro x hx
  obtain ⟨y, hy, rfl⟩ := List.mem_map.1 hx
  exact h.sz y hy
end Go.Proofs.Sw
namespace Go.Proofs.Sw
open Go.Ab
variable [Globals]
theorem mayM_b {x : Ins} {n : Nat} (h : mayM x n = true) : 0 ≤ x.b ∧ x.b < (n : Int) := by
  obtain ⟨_, _, m6, m7⟩ := mayM_facts h
  by_cases e : x.op = 3 ∨ x.op = 4
  · exact m7 e
  · simp only [mayM, Bool.and_eq_true, decide_eq_true_eq] at h
    obtain ⟨⟨⟨⟨_, _, _, _, h5⟩, _⟩, _⟩, _⟩ := h
    omega
end Go.Proofs.Sw
namespace Go.Proofs.Sw
open Go.Ab
variable [Globals]
def in64 (x : Int) : Prop := -9223372036854775808 ≤ x ∧ x ≤ 9223372036854775807
end Go.Proofs.Sw
namespace Go.Proofs.Sw
open Go.Ab
variable [Globals]
structure Key where
  op : Int
  a : Int
  b : Int
  c : Int
  deriving DecidableEq
abbrev Ent := Key × Int × Int
structure St where
  held : List Int
  keys : List Ent
  next : Int
def lookK (k : Key) : List Ent → Option (Nat × Ent)
  | [] => none
  | e :: es => if k = e.1 then some (0, e) else (lookK k es).map fun p => (p.1 + 1, p.2)
theorem lookK_at {k : Key} : ∀ {es : List Ent} {p : Nat × Ent}, lookK k es = some p → es[p.1]? = some p.2 ∧ p.2.1 = k
  | [], _, h => by cases h
  | e :: es, p, h => by
    rw [lookK] at h
    split at h
    · rename_i hk
      injection h with h
      subst h
      exact ⟨rfl, hk.symm⟩
    · obtain ⟨q, hq, rfl⟩ := Option.map_eq_some_iff.1 h
      obtain ⟨h1, h2⟩ := lookK_at hq
      exact ⟨by simpa using h1, h2⟩
end Go.Proofs.Sw
namespace Go.Proofs.Sw
open Go.Ab
variable [Globals]
def keyM (held : List Int) (i : Ins) : Key :=
  let a := held.getD i.a.toNat 0
  let b := if i.op = 3 ∨ i.op = 4 then held.getD i.b.toNat 0 else -1
  if i.op = 3 ∧ b < a then ⟨i.op, b, a, i.c⟩ else ⟨i.op, a, b, i.c⟩
theorem keyM_swap {held : List Int} {i : Ins} (h3 : i.op = 3) (hlt : held.getD i.b.toNat 0 < held.getD i.a.toNat 0) : keyM held i = ⟨i.op, held.getD i.b.toNat 0, held.getD i.a.toNat 0, i.c⟩ := by
  unfold keyM
  simp only [h3, true_or, if_true, hlt, and_self]
theorem keyM_two {held : List Int} {i : Ins} (h : i.op = 3 ∨ i.op = 4) (hn : ¬ (i.op = 3 ∧ held.getD i.b.toNat 0 < held.getD i.a.toNat 0)) : keyM held i = ⟨i.op, held.getD i.a.toNat 0, held.getD i.b.toNat 0, i.c⟩ := by
  unfold keyM
  simp only [h, if_true]
  rw [if_neg hn]
theorem keyM_one {held : List Int} {i : Ins} (h : ¬ (i.op = 3 ∨ i.op = 4)) : keyM held i = ⟨i.op, held.getD i.a.toNat 0, -1, i.c⟩ := by
  unfold keyM
  simp only [h, if_false]
  rw [if_neg (fun h' => h (.inl h'.1))]
end Go.Proofs.Sw
namespace Go.Proofs.Sw
open Go.Ab
variable [Globals]
def reckonM (S : St) (n : Int) (i : Ins) : Int × Int × St :=
  if i.op = 1 then (S.held.getD i.a.toNat 0, -1, S) else
  match lookK (keyM S.held i) S.keys with
  | some p => (p.2.2.1, p.2.2.2, S)
  | none => (S.next, n, { S with keys := S.keys ++ [(keyM S.held i, S.next, n)], next := S.next + 1 })
end Go.Proofs.Sw
namespace Go.Proofs.Sw
open Go.Ab
variable [Globals]
def holdM (v : Int) : List Int → Nat → Int
  | [], _ => -1
  | x :: l, j => if x = v then (j : Int) else holdM v l (j + 1)
def askM (held : List Int) (i : Ins) : Ins :=
  { i with a := holdM (held.getD i.a.toNat 0) held 0, b := if i.op = 3 ∨ i.op = 4 then holdM (held.getD i.b.toNat 0) held 0 else i.b }
end Go.Proofs.Sw
namespace Go.Proofs.Sw
open Go.Ab
variable [Globals]
theorem reckonM_one {S : St} {n : Int} {i : Ins} (h : i.op = 1) : reckonM S n i = (S.held.getD i.a.toNat 0, -1, S) := if_pos h
end Go.Proofs.Sw
namespace Go.Proofs.Sw
open Go.Ab
variable [Globals]
def emitM (v : Int) (held : List Int) (x : Ins) : Ins := if 0 ≤ holdM v held 0 then ⟨1, x.to, holdM v held 0, 0, 0⟩ else askM held x
theorem askM_op (held : List Int) (x : Ins) : (askM held x).op = x.op := rfl
theorem askM_to (held : List Int) (x : Ins) : (askM held x).to = x.to := rfl
theorem askM_c (held : List Int) (x : Ins) : (askM held x).c = x.c := rfl
def passStep (q : St × List Ins) (n : Int) (x : Ins) : St × List Ins :=
  let r := reckonM q.1 n x
  if q.1.held.getD x.to.toNat 0 = r.1 then (r.2.2, q.2) else ({ r.2.2 with held := q.1.held.set x.to.toNat r.1 }, q.2 ++ [emitM r.1 q.1.held x])
end Go.Proofs.Sw
namespace Go.Proofs.Sw
open Go.Ab
variable [Globals]
theorem holdM_mem {v : Int} : ∀ {l : List Int}, v ∈ l → ∀ j, ∃ i, i < l.length ∧ holdM v l j = ((j + i : Nat) : Int) ∧ l.getD i 0 = v
  | [], h, _ => by cases h
  | x :: l, h, j => by
    rw [holdM]
    by_cases e : x = v
    · rw [if_pos e]
      exact ⟨0, by simp, by simp, by simpa using e⟩
    · rw [if_neg e]
      rcases List.mem_cons.1 h with h | h
      · exact absurd h.symm e
      · obtain ⟨i, h1, h2, h3⟩ := holdM_mem h (j + 1)
        exact ⟨i + 1, by simpa using h1, by rw [h2]; congr 1; omega, by simpa using h3⟩
theorem holdM_not {v : Int} : ∀ {l : List Int}, v ∉ l → ∀ j, holdM v l j = -1
  | [], _, _ => rfl
  | x :: l, h, j => by
    rw [List.mem_cons, not_or] at h
    rw [holdM, if_neg (fun e => h.1 e.symm), holdM_not h.2]
theorem holdM_ge {v : Int} {l : List Int} : 0 ≤ holdM v l 0 ↔ v ∈ l := by
  by_cases h : v ∈ l
  · obtain ⟨i, _, h2, _⟩ := holdM_mem h 0
    rw [h2]
    exact ⟨fun _ => h, fun _ => by omega⟩
  · rw [holdM_not h]
    exact ⟨fun h' => absurd h' (by decide), fun h' => absurd h' h⟩
theorem holdM_at {v : Int} {l : List Int} (h : v ∈ l) : (0 ≤ holdM v l 0 ∧ holdM v l 0 < l.length) ∧ l.getD (holdM v l 0).toNat 0 = v := by
  obtain ⟨i, h1, h2, h3⟩ := holdM_mem h 0
  rw [h2]
  exact ⟨by omega, by simpa using h3⟩
theorem getD_memI {l : List Int} {r : Int} (h0 : 0 ≤ r) (h : r < l.length) : l.getD r.toNat 0 ∈ l := by
  have : r.toNat < l.length := by omega
  rw [List.getD_eq_getElem?_getD, List.getElem?_eq_getElem this]
  exact List.getElem_mem this
def Fresh (S : St) : Prop := (∀ h ∈ S.held, h < S.next) ∧ ∀ e ∈ S.keys, e.2.1 < S.next
theorem lookK_none_new {S : St} {n : Int} {x : Ins} (h1 : x.op ≠ 1) (hl : lookK (keyM S.held x) S.keys = none) : reckonM S n x = (S.next, n, { S with keys := S.keys ++ [(keyM S.held x, S.next, n)], next := S.next + 1 }) := by
  rw [reckonM, if_neg h1, hl]
theorem lookK_some_old {S : St} {n : Int} {x : Ins} {p : Nat × Ent} (h1 : x.op ≠ 1) (hl : lookK (keyM S.held x) S.keys = some p) : reckonM S n x = (p.2.2.1, p.2.2.2, S) := by
  rw [reckonM, if_neg h1, hl]
end Go.Proofs.Sw
namespace Go.Proofs.Sw
open Go.Ab
variable [Globals]
section
variable {α : Type} (M : Sem α)
structure ShI (S : St) (R : List α) (w : Int → α) : Prop where
  len : R.length = S.held.length
  reg : ∀ r : Nat, r < R.length → R.getD r M.d = w (S.held.getD r 0)
  good : ∀ v, M.G (w v)
  fresh : Fresh S
  pos : 0 ≤ S.next
  keys : ∀ e ∈ S.keys, e.1.a < S.next ∧ e.1.b < S.next ∧ M.f e.1.op e.1.c (w e.1.a) (w e.1.b) = some (w e.2.1)
variable {M}
theorem ShI.at {S : St} {R : List α} {w : Int → α} (h : ShI M S R w) {r : Int} (h0 : 0 ≤ r) (h1 : r < S.held.length) : R.getD r.toNat M.d = w (S.held.getD r.toNat 0) := h.reg r.toNat (by rw [h.len]; omega)
theorem ShI.hold {S : St} {R : List α} {w : Int → α} (h : ShI M S R w) {v : Int} (hv : v ∈ S.held) : R.getD (holdM v S.held 0).toNat M.d = w v := by
  obtain ⟨⟨h0, h1⟩, h2⟩ := holdM_at hv
  rw [h.at h0 h1, h2]
theorem ShI.key {S : St} {R : List α} {w : Int → α} (h : ShI M S R w) {x : Ins} (hm : mayM x S.held.length = true) :
    M.f x.op x.c (R.getD x.a.toNat M.d) (R.getD x.b.toNat M.d) = M.f (keyM S.held x).op (keyM S.held x).c (w (keyM S.held x).a) (w (keyM S.held x).b) := by
  obtain ⟨_, _, ⟨m5, m6⟩, m7⟩ := mayM_facts hm
  rw [h.at m5 m6]
  by_cases h34 : x.op = 3 ∨ x.op = 4
  · obtain ⟨b0, b1⟩ := m7 h34
    rw [h.at b0 b1]
    by_cases hs : x.op = 3 ∧ S.held.getD x.b.toNat 0 < S.held.getD x.a.toNat 0
    · rw [keyM_swap hs.1 hs.2, hs.1]
      exact M.comm _ _ _ (h.good _) (h.good _)
    · rw [keyM_two h34 hs]
  · rw [keyM_one h34]
    exact M.two _ _ _ _ _ (fun e => h34 (.inl e)) (fun e => h34 (.inr e))
theorem ShI.ask {S : St} {R : List α} {w : Int → α} (h : ShI M S R w) {x : Ins} (hm : mayM x S.held.length = true) : stepE M R (askM S.held x) = stepE M R x := by
  obtain ⟨_, _, ⟨m5, m6⟩, m7⟩ := mayM_facts hm
  have ha : R.getD (askM S.held x).a.toNat M.d = R.getD x.a.toNat M.d := by
    show R.getD (holdM _ S.held 0).toNat M.d = _
    rw [h.hold (getD_memI m5 m6), h.at m5 m6]
  unfold stepE
  rw [ha, askM_op, askM_to, askM_c]
  by_cases h34 : x.op = 3 ∨ x.op = 4
  · obtain ⟨b0, b1⟩ := m7 h34
    have hb : R.getD (askM S.held x).b.toNat M.d = R.getD x.b.toNat M.d := by
      show R.getD (if x.op = 3 ∨ x.op = 4 then holdM _ S.held 0 else x.b).toNat M.d = _
      rw [if_pos h34, h.hold (getD_memI b0 b1), h.at b0 b1]
    rw [hb]
  · rw [M.two x.op x.c _ _ (R.getD x.b.toNat M.d) (fun e => h34 (.inl e)) (fun e => h34 (.inr e))]
theorem ShI.put {S : St} {R : List α} {w : Int → α} (h : ShI M S R w) {to v : Int} (h0 : 0 ≤ to) (h1 : to < S.held.length) (hv : v < S.next) : ShI M { S with held := S.held.set to.toNat v } (R.set to.toNat (w v)) w := by
  have h2 : to.toNat < S.held.length := by omega
  refine ⟨by simp [h.len], fun r hr => ?_, h.good, ⟨fun z hz => ?_, h.fresh.2⟩, h.pos, h.keys⟩
  · rw [List.length_set] at hr
    show _ = w ((S.held.set to.toNat v).getD r 0)
    rw [getDA_set (by rw [h.len]; exact h2), getDA_set h2]
    split
    · rfl
    · exact h.reg r hr
  · rcases List.mem_or_eq_of_mem_set hz with hz | rfl
    · exact h.fresh.1 z hz
    · exact hv
theorem ShI.step {S : St} {R : List α} {w : Int → α} (h : ShI M S R w) (n : Int) {x : Ins} (hm : mayM x S.held.length = true) (out : List Ins) (R0 : List α) (hR : runE M out R0 = some R) :
    (stepE M R x = none → runE M (passStep (S, out) n x).2 R0 = none) ∧ ∀ Q, stepE M R x = some Q → ∃ w', runE M (passStep (S, out) n x).2 R0 = some Q ∧ ShI M (passStep (S, out) n x).1 Q w' := by
  obtain ⟨⟨m1, m2⟩, ⟨m3, m4⟩, ⟨m5, m6⟩, m7⟩ := mayM_facts hm
  have hto : x.to.toNat < S.held.length := by omega
  have hk := h.key hm
  have hask := h.ask hm
  have known : ∀ v : Int, v < S.next → reckonM S n x = (v, (reckonM S n x).2.1, S) → stepE M R x = some (R.set x.to.toNat (w v)) →
      ∃ w', runE M (passStep (S, out) n x).2 R0 = some (R.set x.to.toNat (w v)) ∧ ShI M (passStep (S, out) n x).1 (R.set x.to.toNat (w v)) w' := by
    intro v hv hr hs
    by_cases he : S.held.getD x.to.toNat 0 = v
    · have e : passStep (S, out) n x = (S, out) := by simp only [passStep]; rw [hr]; exact if_pos he
      have e2 : R.set x.to.toNat (w v) = R := by
        have := h.at m3 m4
        rw [he] at this
        rw [← this]
        exact set_getD (by rw [h.len]; exact hto)
      rw [e, e2]
      exact ⟨w, hR, h⟩
    · have e : passStep (S, out) n x = ({ S with held := S.held.set x.to.toNat v }, out ++ [emitM v S.held x]) := by simp only [passStep]; rw [hr]; exact if_neg he
      rw [e]
      refine ⟨w, ?_, h.put m3 m4 hv⟩
      show runE M (out ++ [emitM v S.held x]) R0 = _
      rw [runE_snoc, hR]
      show stepE M R (emitM v S.held x) = _
      unfold emitM
      split
      · rename_i hh
        have hh' := h.hold (holdM_ge.1 hh)
        unfold stepE
        rw [M.one]
        show some (R.set x.to.toNat (R.getD (holdM v S.held 0).toNat M.d)) = _
        rw [hh']
      · rw [hask, hs]
  by_cases h1 : x.op = 1
  · have hs : stepE M R x = some (R.set x.to.toNat (w (S.held.getD x.a.toNat 0))) := by
      unfold stepE
      rw [h1, M.one, h.at m5 m6]
      rfl
    rw [hs]
    refine ⟨fun e => (nomatch e), fun Q hQ => ?_⟩
    obtain rfl := Option.some.inj hQ
    exact known _ (h.fresh.1 _ (getD_memI m5 m6)) (by rw [reckonM_one h1]) hs
  · cases hl : lookK (keyM S.held x) S.keys with
    | some p =>
      obtain ⟨hp1, hp2⟩ := lookK_at hl
      obtain ⟨k1, k2, k3⟩ := h.keys _ (List.mem_of_getElem? hp1)
      rw [hp2] at k3
      have hs : stepE M R x = some (R.set x.to.toNat (w p.2.2.1)) := by
        unfold stepE
        rw [hk, k3]
        rfl
      rw [hs]
      refine ⟨fun e => (nomatch e), fun Q hQ => ?_⟩
      obtain rfl := Option.some.inj hQ
      exact known _ (h.fresh.2 _ (List.mem_of_getElem? hp1)) (by rw [lookK_some_old h1 hl]) hs
    | none =>
      have hr := lookK_none_new (n := n) h1 hl
      have hnew : S.next ∉ S.held := fun hh => by have := h.fresh.1 _ hh; omega
      have he : S.held.getD x.to.toNat 0 ≠ S.next := fun e => hnew (by rw [← e]; exact getD_memI m3 m4)
      have hem : emitM S.next S.held x = askM S.held x := if_neg (fun hh => hnew (holdM_ge.1 hh))
      have e : passStep (S, out) n x = ({ S with keys := S.keys ++ [(keyM S.held x, S.next, n)], next := S.next + 1, held := S.held.set x.to.toNat S.next }, out ++ [askM S.held x]) := by
        simp only [passStep]; rw [hr, if_neg he, hem]
      have hrun : runE M (passStep (S, out) n x).2 R0 = stepE M R x := by
        rw [e]
        show runE M (out ++ [askM S.held x]) R0 = _
        rw [runE_snoc, hR]
        exact hask
      rw [hrun]
      refine ⟨fun h => h, fun Q hQ => ?_⟩
      have hQ0 := hQ
      unfold stepE at hQ
      cases hf : M.f x.op x.c (R.getD x.a.toNat M.d) (R.getD x.b.toNat M.d) with
      | none => rw [hf] at hQ; cases hQ
      | some u =>
        rw [hf] at hQ
        obtain rfl := Option.some.inj hQ
        rw [hk] at hf
        have hgu : M.G u := M.good _ _ _ _ _ (h.good _) (h.good _) hf
        refine ⟨fun z => if z = S.next then u else w z, hQ0, ?_⟩
        have hold : ∀ z, z < S.next → (if z = S.next then u else w z) = w z := fun z hz => if_neg (by omega)
        have hka : (keyM S.held x).a < S.next ∧ (keyM S.held x).b < S.next := by
          have g1 := h.fresh.1 _ (getD_memI m5 m6)
          by_cases h34 : x.op = 3 ∨ x.op = 4
          · have g2 := h.fresh.1 _ (getD_memI (m7 h34).1 (m7 h34).2)
            by_cases hs : x.op = 3 ∧ S.held.getD x.b.toNat 0 < S.held.getD x.a.toNat 0
            · rw [keyM_swap hs.1 hs.2]; exact ⟨g2, g1⟩
            · rw [keyM_two h34 hs]; exact ⟨g1, g2⟩
          · rw [keyM_one h34]
            have := h.pos
            exact ⟨g1, by show (-1 : Int) < S.next; omega⟩
        rw [e]
        refine ⟨by simp [h.len], fun r hr => ?_, fun v => ?_, ⟨fun z hz => ?_, fun e he => ?_⟩, by have := h.pos; show 0 ≤ S.next + 1; omega, fun e he => ?_⟩
        · rw [List.length_set] at hr
          show _ = (if (S.held.set x.to.toNat S.next).getD r 0 = S.next then u else w ((S.held.set x.to.toNat S.next).getD r 0))
          rw [getDA_set (by rw [h.len]; exact hto), getDA_set hto]
          by_cases hrt : r = x.to.toNat
          · rw [if_pos hrt, if_pos hrt, if_pos rfl]
          · rw [if_neg hrt, if_neg hrt, hold _ (h.fresh.1 _ (by
              rw [List.getD_eq_getElem?_getD, List.getElem?_eq_getElem (by rw [← h.len]; exact hr)]
              exact List.getElem_mem _))]
            exact h.reg r hr
        · show M.G (if v = S.next then u else w v)
          split
          · exact hgu
          · exact h.good v
        · show z < S.next + 1
          rcases List.mem_or_eq_of_mem_set hz with hz | rfl
          · have := h.fresh.1 z hz; omega
          · omega
        · show e.2.1 < S.next + 1
          rcases List.mem_append.1 he with he | he
          · have := h.fresh.2 e he; omega
          · simp only [List.mem_cons, List.not_mem_nil, or_false] at he
            subst he
            show S.next < S.next + 1
            omega
        · show e.1.a < S.next + 1 ∧ e.1.b < S.next + 1 ∧ M.f e.1.op e.1.c (if e.1.a = S.next then u else w e.1.a) (if e.1.b = S.next then u else w e.1.b) = some (if e.2.1 = S.next then u else w e.2.1)
          rcases List.mem_append.1 he with he | he
          · obtain ⟨k1, k2, k3⟩ := h.keys e he
            have k4 := h.fresh.2 e he
            rw [hold _ k1, hold _ k2, hold _ k4]
            exact ⟨by omega, by omega, k3⟩
          · simp only [List.mem_cons, List.not_mem_nil, or_false] at he
            subst he
            show (keyM S.held x).a < S.next + 1 ∧ (keyM S.held x).b < S.next + 1 ∧ M.f (keyM S.held x).op (keyM S.held x).c (if (keyM S.held x).a = S.next then u else w (keyM S.held x).a) (if (keyM S.held x).b = S.next then u else w (keyM S.held x).b) = some (if S.next = S.next then u else w S.next)
            rw [hold _ hka.1, hold _ hka.2, if_pos rfl]
            exact ⟨by omega, by omega, hf⟩
end
end Go.Proofs.Sw
namespace Go.Proofs.Sw
open Go.Ab
variable [Globals]
theorem SzR.out {L n : Nat} {R : List Rw} {outs : List Int} (h : ∀ r ∈ R, SzR L n r) (ho : ∀ r ∈ outs, 0 ≤ r ∧ r < (R.length : Int)) : ∀ r ∈ outs.map (fun r => R.getD r.toNat dR), SzR L n r := by
  intro r hr
  obtain ⟨x, hx, rfl⟩ := List.mem_map.1 hr
  exact h _ (getD_rw (ho x hx).1 (ho x hx).2)
end Go.Proofs.Sw
namespace Go.Proofs.Sw.W
open Go.Ab
section
variable [Globals]
theorem iniN_hi {Z : List RI} {n r : Nat} (h : Z.length ≤ r) : ((iniN Z n).map RI.v).getD r 0 = 0 := by
  rw [List.getD_eq_getElem?_getD, iniN, List.map_append, List.getElem?_append_right (by simpa using h), List.map_replicate, List.getElem?_replicate]
  split <;> rfl
theorem out_valsN {R : List RI} {outs : List Int} (ho : ∀ r ∈ outs, 0 ≤ r ∧ r < (R.length : Int)) : (outs.map (fun r => R.getD r.toNat zN)).map RI.v = outs.map fun r => (R.map RI.v).getD r.toNat 0 := by
  rw [List.map_map]
  refine List.map_congr_left fun r hr => ?_
  obtain ⟨h0, h1⟩ := ho r hr
  exact (vals_getN h0 h1 0).symm
end
end Go.Proofs.Sw.W
namespace Go.Proofs.Sw.W
open Go.Ab
section
variable [Globals]
theorem alike1_ev (k : Nat) (x y : RI) (hx : (nD x.v).length ≤ 20000) (hy : (nD y.v).length ≤ 20000) (hk : 50000 ≤ k) : run (k+4) 98 [aW x, aW y] = some (bb (decide (x.v = y.v))) := by
  obtain ⟨q, hq, hqe⟩ := Cmp_ev k x y (by omega) (by omega) (by omega)
  have h3 : decide (q = 0) = decide (x.v = y.v) := by rw [decide_eq_decide]; exact hqe
  simp only [run, aW, ii] at hq
  rw [run, ev98, ans_trim]
  simp only [Try.f98, aW, bb, hq, h3, FT, Int.reduceEq, Int.reduceToNat, Int.reduceLE, Int.reduceLT, Int.reduceAdd, Int.reduceMul, Int.reduceSub, Int.reduceNeg, Nat.reduceAdd, Nat.reduceSub, Nat.reduceMul, Nat.reduceLT, Nat.reduceBEq, Nat.reduceEqDiff, Nat.reduceLeDiff]
theorem loop_eqf (kf : Nat) (A B : List RI) (nl nl2 : Bool) (cap cap2 : Option Nat) (hAB : A.length = B.length) (hA : A.length ≤ 20000) (hAl : ∀ r ∈ A, (nD r.v).length ≤ 20000) (hBl : ∀ r ∈ B, (nD r.v).length ≤ 20000) (hv : A.map RI.v = B.map RI.v) (hkf : 50000 ≤ kf) (k : Nat) (l : Ass) (z : Option Out) (hz : loopR Try.prog tab (kf + 4) none LB97_4 97 32 [1, 2, 15, 16, 17] 0 k l ([]) = z) (hk : A.length < k) (a1 : asc l 1 = sN B nl2 cap2) (a2 : asc l 2 = .c (.fn 98)) (a15 : asc l 15 = sN A nl cap) (a16 : asc l 16 = ii A.length) (a17 : asc l 17 = ii 0) :
    ∃ l', z = some (.exit 0 (fr 32 l') ([])) ∧ asc l' 1 = sN B nl2 cap2 ∧ asc l' 2 = .c (.fn 98) ∧ asc l' 15 = sN A nl cap ∧ asc l' 16 = ii A.length ∧ asc l' 17 = ii A.length := by
  subst hz
  refine loop_nat A.length (fun k l H => loopR Try.prog tab (kf + 4) none LB97_4 97 32 [1, 2, 15, 16, 17] 0 k l H)
    (fun i l H => asc l 1 = sN B nl2 cap2 ∧ asc l 2 = .c (.fn 98) ∧ asc l 15 = sN A nl cap ∧ asc l 16 = ii A.length ∧ asc l 17 = ii i ∧ ∃ G, H = ([]) ++ G)
    (fun z => ∃ l', z = some (.exit 0 (fr 32 l') ([])) ∧ asc l' 1 = sN B nl2 cap2 ∧ asc l' 2 = .c (.fn 98) ∧ asc l' 15 = sN A nl cap ∧ asc l' 16 = ii A.length ∧ asc l' 17 = ii A.length) ?_ A.length 0 k l _ (by omega) hk ⟨a1, a2, a15, a16, a17, [], by rw [List.append_nil]⟩
  clear hk a1 a2 a15 a16 a17
  rintro i k l H hi ⟨a1, a2, a15, a16, a17, G, rfl⟩
  have ht : trim 0 (fr 32 (keep l [1, 2, 15, 16, 17])) (([]) ++ H) = ([]) := trim_app (by simp) (by simp only [a1, a2, a15, a16, a17, EVb, EVc, Int.reduceEq, Int.reduceToNat, Int.reduceLE, Int.reduceLT, Int.reduceAdd, Int.reduceMul, Int.reduceSub, Int.reduceNeg, Nat.reduceAdd, Nat.reduceSub, Nat.reduceMul, Nat.reduceLT, Nat.reduceBEq, Nat.reduceEqDiff, Nat.reduceLeDiff]) (by simp only [EVb, EVc, Int.reduceEq, Int.reduceToNat, Int.reduceLE, Int.reduceLT, Int.reduceAdd, Int.reduceMul, Int.reduceSub, Int.reduceNeg, Nat.reduceAdd, Nat.reduceSub, Nat.reduceMul, Nat.reduceLT, Nat.reduceBEq, Nat.reduceEqDiff, Nat.reduceLeDiff])
  by_cases hc : i < A.length
  · have hc' : (i : Int) < ((A.length : Nat) : Int) := by omega
    have hc0 : (0 : Int) ≤ i := by omega
    have hw : IntKind.wrap .i64 ((i : Int) + 1) = ((i + 1 : Nat) : Int) := by rw [wrap64 (by omega) (by omega)]; omega
    have hcB : i < B.length := by omega
    have hx := encN_two hc
    have hy := encN_two hcB
    have hla := getD_small (i := i) hAl
    have hlb := getD_small (i := i) hBl
    have hta := take_vN hc
    have htb := take_vN hcB
    have hev : (A.getD i zN).v = (B.getD i zN).v := by
      have e := congrArg (fun l => l[i]?) hv
      simpa [List.getD_eq_getElem?_getD, hc, hcB] using e
    obtain ⟨a, ha⟩ : ∃ a, a = A.getD i zN := ⟨_, rfl⟩
    obtain ⟨b, hb⟩ : ∃ b, b = B.getD i zN := ⟨_, rfl⟩
    rw [← ha] at hx hla hta hev
    rw [← hb] at hy hlb htb hev
    have hq := alike1_ev kf a b hla hlb hkf
    rw [decide_eq_true hev] at hq
    have hx2 : i * 2 + 2 ≤ A.length * 2 := by omega
    have hy2 : i * 2 + 2 ≤ B.length * 2 := by omega
    have hiB : (i : Int) < B.length := by omega
    have hela := encN_length A
    have helb := encN_length B
    simp only [run, aW, bb] at hq
    simp only [loopR_succ, ht]
    simp only [a1, a2, a15, a16, a17, hc', hc0, hw, hx, hx2, hela, hy, hy2, hiB, helb, hq, loopR_succ, loopOf, findLoop, firstRegion, Option.some_or, Option.none_or, Option.getD_some, Option.some.injEq, Try.f97, FT, Int.reduceEq, Int.reduceToNat, Int.reduceLE, Int.reduceLT, Int.reduceAdd, Int.reduceMul, Int.reduceSub, Int.reduceNeg, Nat.reduceAdd, Nat.reduceSub, Nat.reduceMul, Nat.reduceLT, Nat.reduceBEq, Nat.reduceEqDiff, Nat.reduceLeDiff]
    exact .inr ⟨_, _, hc, rfl, (by rfl), (by rfl), (by rfl), (by rfl), (by rfl), ⟨_, by rfl⟩⟩
  · refine .inl ?_
    obtain rfl : i = A.length := by omega
    have hc' : ¬ (((A.length : Nat) : Int) < ((A.length : Nat) : Int)) := by omega
    simp only [loopR_succ, ht]
    simp only [a1, a2, a15, a16, a17, hc', loopR_succ, loopOf, findLoop, firstRegion, Option.some_or, Option.none_or, Option.getD_some, Option.some.injEq, Try.f97, FT, Int.reduceEq, Int.reduceToNat, Int.reduceLE, Int.reduceLT, Int.reduceAdd, Int.reduceMul, Int.reduceSub, Int.reduceNeg, Nat.reduceAdd, Nat.reduceSub, Nat.reduceMul, Nat.reduceLT, Nat.reduceBEq, Nat.reduceEqDiff, Nat.reduceLeDiff]
    exact ⟨_, rfl, (by rfl), (by rfl), (by rfl), (by rfl), (by rfl)⟩
theorem alike_ev (k : Nat) (A B : List RI) (nl nl2 : Bool) (cap cap2 : Option Nat) (hA : A.length ≤ 20000) (hAl : ∀ r ∈ A, (nD r.v).length ≤ 20000) (hBl : ∀ r ∈ B, (nD r.v).length ≤ 20000) (hv : A.map RI.v = B.map RI.v) (hk : 50000 ≤ k) :
    run (k+6) 61 [sN A nl cap, sN B nl2 cap2] = some (bb true) := by
  have hAB : A.length = B.length := by simpa using congrArg List.length hv
  have hAB' : (A.length : Int) = B.length := by omega
  have he : run (k+5) 97 [sN A nl cap, sN B nl2 cap2, .c (.fn 98)] = some (bb true) := by
    rw [run, ev97, ans_trim]
    simp only [Try.f97, bb, hAB', FT, Int.reduceEq, Int.reduceToNat, Int.reduceLE, Int.reduceLT, Int.reduceAdd, Int.reduceMul, Int.reduceSub, Int.reduceNeg, Nat.reduceAdd, Nat.reduceSub, Nat.reduceMul, Nat.reduceLT, Nat.reduceBEq, Nat.reduceEqDiff, Nat.reduceLeDiff]
    rw [evalCode_loopB LB97_4 lp97_4]; rotate_left; rfl; rfl; rfl
    generalize hz : loopR _ _ _ _ _ _ _ _ _ _ _ _ = z
    obtain ⟨l', rfl, e1, e2, e15, e16, e17⟩ := loop_eqf k A B nl nl2 cap cap2 hAB hA hAl hBl hv hk _ _ z hz (by omega) (by rfl) (by rfl) (by rfl) (by simp only [hAB']; rfl) (by rfl)
    clear hz
    simp only [FT, Int.reduceEq, Int.reduceToNat, Int.reduceLE, Int.reduceLT, Int.reduceAdd, Int.reduceMul, Int.reduceSub, Int.reduceNeg, Nat.reduceAdd, Nat.reduceSub, Nat.reduceMul, Nat.reduceLT, Nat.reduceBEq, Nat.reduceEqDiff, Nat.reduceLeDiff]
  simp only [run, bb] at he
  rw [run, ev61, ans_trim]
  simp only [Try.f61, bb, he, FT, Int.reduceEq, Int.reduceToNat, Int.reduceLE, Int.reduceLT, Int.reduceAdd, Int.reduceMul, Int.reduceSub, Int.reduceNeg, Nat.reduceAdd, Nat.reduceSub, Nat.reduceMul, Nat.reduceLT, Nat.reduceBEq, Nat.reduceEqDiff, Nat.reduceLeDiff]
end
end Go.Proofs.Sw.W
namespace Go.Proofs.Sw
open Go.Ab
variable [Globals]
def encB (l : List Bool) : List IV := l.map .bool
theorem encB_length (l : List Bool) : (encB l).length = l.length := by simp [encB]
theorem encB_get {l : List Bool} {r : Int} (h0 : 0 ≤ r) (h : r < l.length) : (encB l)[r.toNat]? = some (.bool (l.getD r.toNat false)) := by
  have h2 : r.toNat < l.length := by omega
  simp [encB, h2]
theorem encB_set {l : List Bool} {r : Nat} {b : Bool} : (encB l).set r (.bool b) = encB (l.set r b) := by
  simp [encB, List.map_set]
theorem encB_rep (n : Nat) : (List.replicate n [IV.bool false]).flatten = encB (List.replicate n false) := by
  induction n with
  | zero => rfl
  | succ n ih => rw [List.replicate_succ, List.flatten_cons, ih]; rfl
def mark (l : List Bool) (b : Bool) : List Int → List Bool
  | [] => l
  | r :: rs => mark (l.set r.toNat b) b rs
theorem mark_length (b : Bool) : ∀ (rs : List Int) (l : List Bool), (mark l b rs).length = l.length
  | [], l => rfl
  | r :: rs, l => by rw [mark, mark_length b rs]; simp
theorem mark_snoc (b : Bool) (r : Int) : ∀ (rs : List Int) (l : List Bool), mark l b (rs ++ [r]) = (mark l b rs).set r.toNat b
  | [], l => rfl
  | x :: rs, l => by rw [List.cons_append, mark, mark_snoc b r rs]; rfl
def needL (asked : List Bool) : List Ins → List Bool × List Bool
  | [] => (asked, [])
  | i :: rest =>
    let r := needL asked rest
    if r.1.getD i.to.toNat false = true then (mark (r.1.set i.to.toNat false) true (asks i), true :: r.2) else (r.1, false :: r.2)
def asked0 (regs : Nat) (outs : List Int) : List Bool := mark (List.replicate regs false) true outs
def neededM (p : Pg) : List Bool := (needL (asked0 p.regs.toNat p.outs) p.code).2
abbrev sB (l : List Bool) (nl : Bool) (cap : Option Nat) : AV := .c (.slice (encB l) l.length nl cap)
abbrev rB (l : List Bool) : AObj := .row false 4 (encB l)
theorem loop_needed_3 (kf : Nat) (pc c64 : AObj) (n : Nat) (outs : List Int) (nl : Bool) (cap : Option Nat) (hlen : outs.length ≤ 4611686018427387904) (hr : ∀ r ∈ outs, 0 ≤ r ∧ r < n) (as0 : List Bool) (ha0 : as0.length = n)
    (k : Nat) (l : Ass) (H : Heap) (z : Option Out) (hz : loopR Try.prog tab kf none LB75_3 75 58 [1, 3, 15, 16, 17] 3 k l H = z) (hk : outs.length < k)
    (h1 : asc l 1 = .ptr 0 0) (h3 : asc l 3 = .ptr 2 0) (h15 : asc l 15 = sI outs nl cap) (h16 : asc l 16 = ii outs.length) (h17 : asc l 17 = ii (0 : Nat)) (hH : H = [pc, rB as0, .cells 64 [.hsl 1 0 n n 1]]) :
    z = some (.exit 0 (fr 58 [(18, bb false), (1, .ptr 0 0), (3, .ptr 2 0), (15, sI outs nl cap), (16, ii outs.length), (17, ii outs.length)]) [pc, rB (mark as0 true outs), .cells 64 [.hsl 1 0 n n 1]]) := by
  subst hH
  subst hz
  refine loop_nat outs.length (fun k l H => loopR Try.prog tab kf none LB75_3 75 58 [1, 3, 15, 16, 17] 3 k l H)
    (fun i l H => asc l 1 = .ptr 0 0 ∧ asc l 3 = .ptr 2 0 ∧ asc l 15 = sI outs nl cap ∧ asc l 16 = ii outs.length ∧ asc l 17 = ii i ∧ H = [pc, rB (mark as0 true (outs.take i)), .cells 64 [.hsl 1 0 n n 1]])
    (fun z => z = some (.exit 0 (fr 58 [(18, bb false), (1, .ptr 0 0), (3, .ptr 2 0), (15, sI outs nl cap), (16, ii outs.length), (17, ii outs.length)]) [pc, rB (mark as0 true outs), .cells 64 [.hsl 1 0 n n 1]])) ?_ outs.length 0 k l _ (by omega) hk ⟨h1, h3, h15, h16, h17, rfl⟩
  clear h1 h3 h15 h16 h17 hk
  rintro i k l H hi ⟨h1, h3, h15, h16, h17, rfl⟩
  have ht : ∀ q : List Bool, trim 3 (fr 58 (keep l [1, 3, 15, 16, 17])) [pc, rB q, .cells 64 [.hsl 1 0 n n 1]] = [pc, rB q, .cells 64 [.hsl 1 0 n n 1]] := fun q => trim_same rfl
  by_cases hc : i < outs.length
  · refine .inr ?_
    have hc' : ((i : Int) < outs.length) := by omega
    have hc0 : (0 : Int) ≤ i := by omega
    have hx := encInts_get hc
    have hw := wrap_succ hc hlen
    obtain ⟨x, hX⟩ : ∃ x, x = outs[i] := ⟨_, rfl⟩
    rw [← hX] at hx
    obtain ⟨x0, x1⟩ := hr x (by rw [hX]; exact List.getElem_mem hc)
    have hm : (mark as0 true (outs.take i)).length = n := by rw [mark_length]; exact ha0
    have hnx : mark as0 true (outs.take (i + 1)) = (mark as0 true (outs.take i)).set x.toNat true := by rw [List.take_succ_eq_append_getElem hc, mark_snoc, ← hX]
    have hxl : x.toNat < n := by omega
    have hel : (encB (mark as0 true (outs.take i))).length = n := by rw [encB_length, hm]
    simp only [loopR_succ, ht]
    simp only [h1, h3, h15, h16, h17, hc', hc0, hx, hw, x0, x1, hel, hxl, encB_set, loopR_succ, loopOf, findLoop, firstRegion, Option.some_or, Option.none_or, Option.getD_some, Option.some.injEq, Try.f75, FT, Int.reduceEq, Int.reduceToNat, Int.reduceLE, Int.reduceLT, Int.reduceAdd, Int.reduceMul, Int.reduceSub, Int.reduceNeg, Nat.reduceAdd, Nat.reduceSub, Nat.reduceMul, Nat.reduceLT, Nat.reduceBEq, Nat.reduceEqDiff, Nat.reduceLeDiff]
    exact ⟨_, _, hc, rfl, (by rfl), (by rfl), (by rfl), (by rfl), (by rfl), by rw [hnx]⟩
  · refine .inl ?_
    have hc' : ¬ ((i : Int) < outs.length) := by omega
    have he : outs.take i = outs := List.take_of_length_le (by omega)
    obtain rfl : i = outs.length := by omega
    simp only [loopR_succ, ht]
    simp only [h1, h3, h15, h16, h17, hc', he, loopR_succ, loopOf, findLoop, firstRegion, Option.some_or, Option.none_or, Option.getD_some, Option.some.injEq, Try.f75, FT, Int.reduceEq, Int.reduceToNat, Int.reduceLE, Int.reduceLT, Int.reduceAdd, Int.reduceMul, Int.reduceSub, Int.reduceNeg, Nat.reduceAdd, Nat.reduceSub, Nat.reduceMul, Nat.reduceLT, Nat.reduceBEq, Nat.reduceEqDiff, Nat.reduceLeDiff]
theorem loop_needed_15 (kf : Nat) (ar : Option Nat) (pc : AObj) (X : Heap) (n : Nat) (rs : List Int) (nl : Bool) (cap : Option Nat) (hlen : rs.length ≤ 4611686018427387904) (hr : ∀ r ∈ rs, 0 ≤ r ∧ r < n) (as0 : List Bool) (ha0 : as0.length = n)
    (k : Nat) (l : Ass) (m : Nat) (z : Option Out) (hz : loopR Try.prog tab kf ar LB75_15 75 58 [3, 47, 48, 49] m k l (pc :: rB as0 :: .cells 64 [.hsl 1 0 n n 1] :: X) = z) (hm : X.length + 3 = m) (hk : rs.length < k)
    (h3 : asc l 3 = .ptr 2 0) (h47 : asc l 47 = sI rs nl cap) (h48 : asc l 48 = ii rs.length) (h49 : asc l 49 = ii (0 : Nat)) :
    z = some (.exit 4 (fr 58 [(50, bb false), (3, .ptr 2 0), (47, sI rs nl cap), (48, ii rs.length), (49, ii rs.length)]) (pc :: rB (mark as0 true rs) :: .cells 64 [.hsl 1 0 n n 1] :: X)) := by
  subst hz
  refine loop_nat rs.length (fun k l H => loopR Try.prog tab kf ar LB75_15 75 58 [3, 47, 48, 49] m k l H)
    (fun i l H => asc l 3 = .ptr 2 0 ∧ asc l 47 = sI rs nl cap ∧ asc l 48 = ii rs.length ∧ asc l 49 = ii i ∧ H = pc :: rB (mark as0 true (rs.take i)) :: .cells 64 [.hsl 1 0 n n 1] :: X)
    (fun z => z = some (.exit 4 (fr 58 [(50, bb false), (3, .ptr 2 0), (47, sI rs nl cap), (48, ii rs.length), (49, ii rs.length)]) (pc :: rB (mark as0 true rs) :: .cells 64 [.hsl 1 0 n n 1] :: X))) ?_ rs.length 0 k l _ (by omega) hk ⟨h3, h47, h48, h49, rfl⟩
  clear h3 h47 h48 h49 hk
  rintro i k l H hi ⟨h3, h47, h48, h49, rfl⟩
  have ht : ∀ q : List Bool, trim m (fr 58 (keep l [3, 47, 48, 49])) (pc :: rB q :: .cells 64 [.hsl 1 0 n n 1] :: X) = pc :: rB q :: .cells 64 [.hsl 1 0 n n 1] :: X := fun q => trim_same (by simp; omega)
  by_cases hc : i < rs.length
  · refine .inr ?_
    have hc' : ((i : Int) < rs.length) := by omega
    have hc0 : (0 : Int) ≤ i := by omega
    have hx := encInts_get hc
    have hw := wrap_succ hc hlen
    obtain ⟨x, hX⟩ : ∃ x, x = rs[i] := ⟨_, rfl⟩
    rw [← hX] at hx
    obtain ⟨x0, x1⟩ := hr x (by rw [hX]; exact List.getElem_mem hc)
    have hm : (mark as0 true (rs.take i)).length = n := by rw [mark_length]; exact ha0
    have hnx : mark as0 true (rs.take (i + 1)) = (mark as0 true (rs.take i)).set x.toNat true := by rw [List.take_succ_eq_append_getElem hc, mark_snoc, ← hX]
    have hxl : x.toNat < n := by omega
    have hel : (encB (mark as0 true (rs.take i))).length = n := by rw [encB_length, hm]
    simp only [loopR_succ, ht]
    simp only [h3, h47, h48, h49, hc', hc0, hx, hw, x0, x1, hel, hxl, encB_set, loopR_succ, loopOf, findLoop, firstRegion, Option.some_or, Option.none_or, Option.getD_some, Option.some.injEq, Try.f75, FT, Int.reduceEq, Int.reduceToNat, Int.reduceLE, Int.reduceLT, Int.reduceAdd, Int.reduceMul, Int.reduceSub, Int.reduceNeg, Nat.reduceAdd, Nat.reduceSub, Nat.reduceMul, Nat.reduceLT, Nat.reduceBEq, Nat.reduceEqDiff, Nat.reduceLeDiff]
    exact ⟨_, _, hc, rfl, (by rfl), (by rfl), (by rfl), (by rfl), by rw [hnx]⟩
  · refine .inl ?_
    have hc' : ¬ ((i : Int) < rs.length) := by omega
    have he : rs.take i = rs := List.take_of_length_le (by omega)
    obtain rfl : i = rs.length := by omega
    simp only [loopR_succ, ht]
    simp only [h3, h47, h48, h49, hc', he, loopR_succ, loopOf, findLoop, firstRegion, Option.some_or, Option.none_or, Option.getD_some, Option.some.injEq, Try.f75, FT, Int.reduceEq, Int.reduceToNat, Int.reduceLE, Int.reduceLT, Int.reduceAdd, Int.reduceMul, Int.reduceSub, Int.reduceNeg, Nat.reduceAdd, Nat.reduceSub, Nat.reduceMul, Nat.reduceLT, Nat.reduceBEq, Nat.reduceEqDiff, Nat.reduceLeDiff]
end Go.Proofs.Sw
namespace Go.Proofs.Sw
open Go.Ab
variable [Globals]
section
variable {α : Type} (M : Sem α)
def agreeA (A : List Bool) (R S : List α) : Prop := ∀ r : Nat, A.getD r false = true → R.getD r M.d = S.getD r M.d
theorem getDB_set {l : List Bool} {i k : Nat} {b : Bool} : (l.set i b).getD k false = if k = i ∧ i < l.length then b else l.getD k false := by
  rw [List.getD_eq_getElem?_getD, List.getD_eq_getElem?_getD, List.getElem?_set]
  by_cases h : i = k
  · subst h
    by_cases h2 : i < l.length
    · simp [h2]
    · simp [h2]
  · simp [h, show ¬ k = i from fun e => h e.symm]
theorem mark_old : ∀ (rs : List Int) (l : List Bool) (r : Nat), l.getD r false = true → (mark l true rs).getD r false = true
  | [], _, _, h => h
  | x :: rs, l, r, h => mark_old rs _ r (by rw [getDB_set]; split <;> first | rfl | exact h)
theorem mark_new : ∀ (rs : List Int) (l : List Bool) (x : Int), x ∈ rs → x.toNat < l.length → (mark l true rs).getD x.toNat false = true
  | y :: rs, l, x, h, hl => by
    rcases List.mem_cons.1 h with rfl | h
    · exact mark_old rs _ _ (by rw [getDB_set, if_pos ⟨rfl, hl⟩])
    · exact mark_new rs _ x h (by simpa using hl)
theorem agree_step {A : List Bool} {R S Q T : List α} {x : Ins} {n : Nat} (hm : mayM x n = true) (hA : A.length = n) (hR : R.length = n) (hS : S.length = n) (h1 : stepE M R x = some Q) (h2 : stepE M S x = some T)
    (h : agreeA M (if A.getD x.to.toNat false = true then mark (A.set x.to.toNat false) true (asks x) else A) R S) : agreeA M A Q T := by
  obtain ⟨ho, ⟨t0, t1⟩, ⟨a0, a1⟩, hb⟩ := mayM_facts hm
  unfold stepE at h1 h2
  obtain ⟨v, hv, rfl⟩ := Option.map_eq_some_iff.1 h1
  obtain ⟨w, hw, rfl⟩ := Option.map_eq_some_iff.1 h2
  intro r hr
  rw [getDA_set (by omega), getDA_set (by omega)]
  by_cases he : r = x.to.toNat
  · subst he
    rw [if_pos rfl, if_pos rfl]
    rw [if_pos hr] at h
    have hl : (A.set x.to.toNat false).length = n := by rw [List.length_set, hA]
    have ha := h x.a.toNat (mark_new _ _ x.a (by by_cases e : x.op = 3 ∨ x.op = 4 <;> simp [asks_two, asks_one, e, ho]) (by omega))
    rw [ha] at hv
    by_cases e : x.op = 3 ∨ x.op = 4
    · have hb' := hb e
      rw [h x.b.toNat (mark_new _ _ x.b (by simp [asks_two, e]) (by omega))] at hv
      rw [hv] at hw
      exact Option.some.inj hw
    · rw [M.two _ _ _ _ (S.getD x.b.toNat M.d) (fun h => e (.inl h)) (fun h => e (.inr h)), hw] at hv
      exact (Option.some.inj hv).symm
  · rw [if_neg he, if_neg he]
    refine h r ?_
    split
    · exact mark_old _ _ _ (by rw [getDB_set, if_neg (fun e => he e.1)]; exact hr)
    · exact hr
theorem stepE_length {R Q : List α} {x : Ins} (h : stepE M R x = some Q) : Q.length = R.length := by
  unfold stepE at h
  obtain ⟨v, _, rfl⟩ := Option.map_eq_some_iff.1 h
  exact List.length_set ..
theorem mark_len (l : List Bool) (rs : List Int) : (mark l true rs).length = l.length := mark_length true rs l
theorem needL_len1 (base : List Bool) : ∀ code : List Ins, (needL base code).1.length = base.length
  | [] => rfl
  | x :: rest => by
    have ih := needL_len1 base rest
    rw [needL]
    split
    · rw [mark_len, List.length_set, ih]
    · exact ih
theorem agree_run {base : List Bool} {n : Nat} (hb : base.length = n) : ∀ (code : List Ins) (R S Q T : List α), (∀ x ∈ code, mayM x n = true) → R.length = n → S.length = n → runE M code R = some Q → runE M code S = some T → agreeA M (needL base code).1 R S → agreeA M base Q T
  | [], R, S, Q, T, _, _, _, h1, h2, h => by
    obtain rfl := Option.some.inj h1
    obtain rfl := Option.some.inj h2
    exact h
  | x :: rest, R, S, Q, T, hc, hR, hS, h1, h2, h => by
    rw [runE] at h1 h2
    cases e1 : stepE M R x with
    | none => rw [e1] at h1; cases h1
    | some R1 =>
      cases e2 : stepE M S x with
      | none => rw [e2] at h2; cases h2
      | some S1 =>
        rw [e1] at h1
        rw [e2] at h2
        have hl := needL_len1 base rest
        have hs := agree_step M (A := (needL base rest).1) (hc x (by simp)) (by rw [hl, hb]) hR hS e1 e2 (by
          rw [needL] at h
          split at h <;> rename_i hq
          · rw [if_pos hq]; exact h
          · rw [if_neg hq]; exact h)
        exact agree_run hb rest R1 S1 Q T (fun y hy => hc y (by simp [hy])) (by rw [stepE_length M e1, hR]) (by rw [stepE_length M e2, hS]) h1 h2 hs
end
end Go.Proofs.Sw
namespace Go.Proofs.Sw
open Go.Ab
variable [Globals]
theorem Back_raw (k : Nat) (x y z w : AV) (hx : [x, y, z, w].all AV.isCell = true) (H : Heap) : evalT Try.prog (mkHints tab) (k+1) (.fn 78) [.agg [x, y, z, w]] H = some (.clo 110 [] [.ptr H.length 0], H ++ [.cells 25 [x, y, z, w]]) := by
  simp only [List.all_cons, List.all_nil, Bool.and_true, Bool.and_eq_true] at hx
  rw [ev78]
  simp only [Try.f78, hx, FT, Int.reduceEq, Int.reduceToNat, Int.reduceLE, Int.reduceLT, Int.reduceAdd, Int.reduceMul, Int.reduceSub, Int.reduceNeg, Nat.reduceAdd, Nat.reduceSub, Nat.reduceMul, Nat.reduceLT, Nat.reduceBEq, Nat.reduceEqDiff, Nat.reduceLeDiff]
  rfl
theorem Back_ans (k : Nat) (x y z w : AV) (hx : [x, y, z, w].all AV.isCell = true) : ans (evalT Try.prog (mkHints tab) (k+1) (.fn 78) [.agg [x, y, z, w]] []) = none := by
  rw [Back_raw k x y z w hx]; rfl
theorem Backward_raw (k : Nat) (x : IV) (H : Heap) : evalT Try.prog (mkHints tab) (k+1) (.fn 111) [.c x] H = some (.clo 128 [] [.ptr H.length 0], H ++ [.cells 22 [.c x]]) := by
  rw [ev111]
  simp only [Try.f111, FT, Int.reduceEq, Int.reduceToNat, Int.reduceLE, Int.reduceLT, Int.reduceAdd, Int.reduceMul, Int.reduceSub, Int.reduceNeg, Nat.reduceAdd, Nat.reduceSub, Nat.reduceMul, Nat.reduceLT, Nat.reduceBEq, Nat.reduceEqDiff, Nat.reduceLeDiff]
  rfl
theorem Backward_ans (k : Nat) (x : IV) : ans (evalT Try.prog (mkHints tab) (k+1) (.fn 111) [.c x] []) = none := by
  rw [Backward_raw]; rfl
end Go.Proofs.Sw
