/- A part of the proof: what functions of the program answer; conditions stand in each theorem. -/
import Derived.Test.YtefdgfdahmaciaaVB
import Derived.Test.YtefdgfdahmaciaaVA
set_option linter.unusedVariables false
set_option linter.unusedSimpArgs false
set_option linter.unusedSectionVars false
namespace Go.Proofs.Sw.W
open Go.Ab
structure Dg (U V P v1 v2 vl u0 u1 u2 ul : Nat) : Prop where
  Ve : V = vl + P * (v2 + 4294967296 * v1)
  Ue : U = ul + P * (u2 + 4294967296 * (u1 + 4294967296 * u0))
  hvl : vl < P
  hul : ul < P
  n1 : 2147483648 ≤ v1
  b1 : v1 < 4294967296
  b2 : v2 < 4294967296
  c0 : u0 < 4294967296
  c1 : u1 < 4294967296
  c2 : u2 < 4294967296
  lt : U < 4294967296 * V
section
variable {U V P v1 v2 vl u0 u1 u2 ul : Nat}
theorem Dg.pos (h : Dg U V P v1 v2 vl u0 u1 u2 ul) : 0 < V ∧ 4294967296 * P ≤ V := by
  have h1 := h.hvl
  have h2 := h.n1
  have h3 : P * (4294967296 * 1) ≤ P * (v2 + 4294967296 * v1) := Nat.mul_le_mul_left _ (by omega)
  have h4 := h.Ve
  rw [Nat.mul_one, Nat.mul_comm P] at h3
  exact ⟨by omega, by omega⟩
theorem Dg.top (h : Dg U V P v1 v2 vl u0 u1 u2 ul) : u0 ≤ v1 := by
  by_cases hn : u0 ≤ v1
  · exact hn
  · exfalso
    have h1 : 4294967296 * (v2 + 4294967296 * v1 + 1) ≤ u2 + 4294967296 * (u1 + 4294967296 * u0) := by have := h.b2; omega
    have h2 := Nat.mul_le_mul_left P h1
    have h3 := h.Ve
    have h4 := h.Ue
    have h5 := h.hvl
    have h6 := h.lt
    rw [Nat.mul_left_comm, Nat.mul_add P _ 1, Nat.mul_one] at h2
    omega
theorem Dg.lt_of (h : Dg U V P v1 v2 vl u0 u1 u2 ul) {g : Nat} (hg : u2 + 4294967296 * (u1 + 4294967296 * u0) + 1 ≤ g * (v2 + 4294967296 * v1)) : U / V < g := by
  rw [Nat.div_lt_iff_lt_mul h.pos.1]
  have h1 := Nat.mul_le_mul_left P hg
  have h2 := h.Ve
  have h3 := h.Ue
  have h4 := h.hul
  rw [Nat.mul_add P _ 1, Nat.mul_one, Nat.mul_left_comm] at h1
  have h5 : g * V = g * vl + g * (P * (v2 + 4294967296 * v1)) := by rw [h2, Nat.mul_add]
  omega
theorem Dg.first (h : Dg U V P v1 v2 vl u0 u1 u2 ul) : U / V ≤ (u1 + 4294967296 * u0) / v1 := by
  obtain ⟨H, hH⟩ : ∃ H, H = u1 + 4294967296 * u0 := ⟨_, rfl⟩
  have hv : 0 < v1 := by have := h.n1; omega
  rw [← hH]
  refine Nat.le_of_lt_succ (h.lt_of ?_)
  rw [← hH]
  have h1 := Nat.div_add_mod H v1
  have h2 := Nat.mod_lt H hv
  obtain ⟨g, hg⟩ : ∃ g, g = H / v1 := ⟨_, rfl⟩
  rw [← hg] at h1 ⊢
  have h3 := h.c2
  have e1 : (g + 1) * (v2 + 4294967296 * v1) = (g + 1) * v2 + 4294967296 * (v1 * g + v1) := by
    rw [Nat.mul_add, Nat.mul_left_comm, Nat.mul_comm (g + 1) v1, Nat.mul_add v1 g 1, Nat.mul_one]
  rw [Nat.succ_eq_add_one, e1]
  omega
theorem Dg.less (h : Dg U V P v1 v2 vl u0 u1 u2 ul) {g r : Nat} (hg : g * v1 + r = u1 + 4294967296 * u0) (hc : r * 4294967296 + u2 < g * v2) : U / V < g := by
  refine h.lt_of ?_
  have e1 : g * (v2 + 4294967296 * v1) = g * v2 + 4294967296 * (g * v1) := by rw [Nat.mul_add, Nat.mul_left_comm]
  rw [e1, ← hg]
  omega
theorem Dg.small (h : Dg U V P v1 v2 vl u0 u1 u2 ul) : U / V < 4294967296 := by
  rw [Nat.div_lt_iff_lt_mul h.pos.1]; exact h.lt
theorem Dg.near (h : Dg U V P v1 v2 vl u0 u1 u2 ul) {g r : Nat} (hg : g * v1 + r = u1 + 4294967296 * u0) (hB : g < 4294967296) (hc : g * v2 ≤ r * 4294967296 + u2) : g ≤ U / V + 1 := by
  cases g with
  | zero => exact Nat.zero_le _
  | succ g =>
    refine Nat.succ_le_succ ((Nat.le_div_iff_mul_le h.pos.1).2 ?_)
    have e1 : (g + 1) * (v2 + 4294967296 * v1) = (g + 1) * v2 + 4294967296 * ((g + 1) * v1) := by rw [Nat.mul_add, Nat.mul_left_comm]
    have h1 : (g + 1) * (v2 + 4294967296 * v1) ≤ u2 + 4294967296 * (u1 + 4294967296 * u0) := by rw [e1, ← hg]; omega
    have h2 := Nat.mul_le_mul_left P h1
    rw [Nat.mul_left_comm] at h2
    have h3 := h.Ve
    have h4 := h.Ue
    have h5 : (g + 1) * vl ≤ 4294967296 * P := Nat.mul_le_mul (by omega) (Nat.le_of_lt h.hvl)
    have h6 := h.pos.2
    have h7 : (g + 1) * V = (g + 1) * vl + (g + 1) * (P * (v2 + 4294967296 * v1)) := by rw [← Nat.mul_add, ← h3]
    rw [Nat.add_mul, Nat.one_mul] at h7
    omega
theorem Dg.brk (h : Dg U V P v1 v2 vl u0 u1 u2 ul) {g r : Nat} (hg : g * v1 + r = u1 + 4294967296 * u0) (hr : 4294967296 ≤ r) : g < 4294967296 ∧ g * v2 ≤ r * 4294967296 + u2 := by
  have h1 := h.top
  have h2 := h.c1
  have hB : g < 4294967296 := by
    by_cases hb : g < 4294967296
    · exact hb
    · exfalso
      have := Nat.mul_le_mul_right v1 (show 4294967296 ≤ g by omega)
      omega
  refine ⟨hB, ?_⟩
  have := mul_le32 hB h.b2
  omega
end
theorem vd_top2 {v : List Nat} {m : Nat} (hl : v.length = m + 2) : vd v = vd (v.take m) + 4294967296 ^ m * (v.getD m 0 + 4294967296 * v.getD (m + 1) 0) := by
  have h1 := vd_take v m
  have h2 := vd_take v (m + 1)
  rw [List.take_of_length_le (by omega)] at h2
  rw [h2, h1, Nat.pow_succ, Nat.mul_add, Nat.mul_assoc, Nat.add_assoc]
theorem vd_top3 {W : List Nat} {m : Nat} (hl : W.length = m + 3) : vd W = vd (W.take m) + 4294967296 ^ m * (W.getD m 0 + 4294967296 * (W.getD (m + 1) 0 + 4294967296 * W.getD (m + 2) 0)) := by
  have h1 := vd_take W m
  have h2 := vd_take W (m + 1)
  have h3 := vd_take W (m + 2)
  rw [List.take_of_length_le (by omega)] at h3
  rw [h3, h2, h1]
  simp only [Nat.mul_add, Nat.mul_assoc, Nat.pow_succ]
  omega
theorem take_lt {l : List Nat} (h : okD l) (m : Nat) : vd (l.take m) < 4294967296 ^ m := by
  have h1 := vd_lt (l := l.take m) fun d hd => h d (List.mem_of_mem_take hd)
  refine Nat.lt_of_lt_of_le h1 (Nat.pow_le_pow_right (by omega) ?_)
  rw [List.length_take]; omega
theorem dg_of {v W : List Nat} {m : Nat} (hv : okD v) (hW : okD W) (hvl : v.length = m + 2) (hWl : W.length = m + 3) (hn : 2147483648 ≤ v.getD (m + 1) 0) (hlt : vd W < 4294967296 * vd v) :
    Dg (vd W) (vd v) (4294967296 ^ m) (v.getD (m + 1) 0) (v.getD m 0) (vd (v.take m)) (W.getD (m + 2) 0) (W.getD (m + 1) 0) (W.getD m 0) (vd (W.take m)) :=
  ⟨vd_top2 hvl, vd_top3 hWl, take_lt hv m, take_lt hW m, hn, okD_get hv _, okD_get hv _, okD_get hW _, okD_get hW _, okD_get hW _, hlt⟩
structure MdI (v1 H q g r i : Nat) : Prop where
  hg : g * v1 + r = H
  hq : q ≤ g
  hr : r < 4294967296
  hi : 1 ≤ i → 2147483648 ≤ r
  hi2 : 2 ≤ i → 4294967296 ≤ r
theorem MdI.next {v1 H q g r i : Nat} (h : MdI v1 H q g r i) (hv : 2147483648 ≤ v1) (h1 : (g - 1) * v1 + (r + v1) = H) (hq : q ≤ g - 1) (hr : r + v1 < 4294967296) : MdI v1 H q (g - 1) (r + v1) (i + 1) := by
  refine ⟨h1, hq, hr, fun _ => by omega, fun h3 => ?_⟩
  have h2 := h.hi (by omega)
  omega
structure AbI (v W1 W : List Nat) (N c i : Nat) : Prop where
  ad : AdI W1 v W N c i
  rest : W.drop i = W1.drop i
theorem AbI.step {v W1 W : List Nat} {N c i : Nat} (h : AbI v W1 W N c i) (hv : okD v) (hW1 : okD W1) (hi : i < N) :
    AbI v W1 (W.set i ((c + W.getD i 0 + v.getD i 0) % 4294967296)) N ((c + W.getD i 0 + v.getD i 0) / 4294967296) (i + 1) := by
  have hw : W.getD i 0 = W1.getD i 0 := by
    have := congrArg (·.getD 0 0) h.rest
    simpa [List.getD_eq_getElem?_getD, List.getElem?_drop] using this
  rw [hw]
  refine ⟨h.ad.step hW1 hv hi, ?_⟩
  rw [drop_set]
  have := congrArg (List.drop 1) h.rest
  rwa [List.drop_drop, List.drop_drop] at this
end Go.Proofs.Sw.W
namespace Go.Proofs.Sw.W
open Go.Ab
section
variable [Globals]
set_option maxHeartbeats 8000000 in
theorem loop_mend (kf : Nat) (v W pre post : List Nat) (nl : Bool) (cap : Option Nat) (m o E : Nat) (hv : okD v) (hW : okD W) (hvl : v.length = m + 2) (hWl : W.length = m + 3) (ho : pre.length = o) (hE : E = o + (m + 3 + post.length)) (hE6 : E ≤ 1000000) (hD : Dg (vd W) (vd v) (4294967296 ^ m) (v.getD (m + 1) 0) (v.getD m 0) (vd (v.take m)) (W.getD (m + 2) 0) (W.getD (m + 1) 0) (W.getD m 0) (vd (W.take m))) (g0 r0 : Nat) (h0 : MdI (v.getD (m + 1) 0) (W.getD (m + 1) 0 + 4294967296 * W.getD (m + 2) 0) (vd W / vd v) g0 r0 0) (k : Nat) (l : Ass) (z : Option Out) (hz : loopR Try.prog tab kf none LB145_4 145 119 [0, 1, 5, 7, 8] 1 k l ([rD (pre ++ (W ++ post))]) = z) (hk : 2 < k) (a0 : asc l 0 = .hsl 0 o (m + 3) E 1) (a1 : asc l 1 = sD v nl cap) (a5 : asc l 5 = ii (m + 2 : Nat)) (a7 : asc l 7 = .c (.int .u64 (g0 : Int))) (a8 : asc l 8 = .c (.int .u64 (r0 : Int))) :
    ∃ l' g, z = some (.exit 0 (fr 119 l') [rD (pre ++ (W ++ post))]) ∧ asc l' 0 = .hsl 0 o (m + 3) E 1 ∧ asc l' 1 = sD v nl cap ∧ asc l' 5 = ii (m + 2 : Nat) ∧ asc l' 7 = .c (.int .u64 ((g : Nat) : Int)) ∧ vd W / vd v ≤ g ∧ g ≤ vd W / vd v + 1 ∧ g < 4294967296 := by
  subst hz
  refine loop_nat 2 (fun k l H => loopR Try.prog tab kf none LB145_4 145 119 [0, 1, 5, 7, 8] 1 k l H)
    (fun i l H => ∃ (g : Nat), ∃ (r : Nat), asc l 0 = .hsl 0 o (m + 3) E 1 ∧ asc l 1 = sD v nl cap ∧ asc l 5 = ii (m + 2 : Nat) ∧ asc l 7 = .c (.int .u64 (g : Int)) ∧ asc l 8 = .c (.int .u64 (r : Int)) ∧ (MdI (v.getD (m + 1) 0) (W.getD (m + 1) 0 + 4294967296 * W.getD (m + 2) 0) (vd W / vd v) g r i) ∧ H = ([rD (pre ++ (W ++ post))]))
    (fun z => ∃ l' g, z = some (.exit 0 (fr 119 l') [rD (pre ++ (W ++ post))]) ∧ asc l' 0 = .hsl 0 o (m + 3) E 1 ∧ asc l' 1 = sD v nl cap ∧ asc l' 5 = ii (m + 2 : Nat) ∧ asc l' 7 = .c (.int .u64 ((g : Nat) : Int)) ∧ vd W / vd v ≤ g ∧ g ≤ vd W / vd v + 1 ∧ g < 4294967296) ?_ 2 0 k l _ (by omega) hk ⟨g0, r0, a0, a1, a5, a7, a8, h0, rfl⟩
  clear hk a0 a1 a5 a7 a8
  rintro i k l H hi ⟨g, r, a0, a1, a5, a7, a8, hp, rfl⟩
  have ht : trim 1 (fr 119 (keep l [0, 1, 5, 7, 8])) ([rD (pre ++ (W ++ post))]) = ([rD (pre ++ (W ++ post))]) := by
    exact trim_same rfl
  by_cases hc : i < 2
  · have hc' : (i : Int) < ((2 : Nat) : Int) := by omega
    have hc0 : (0 : Int) ≤ i := by omega
    have hw : IntKind.wrap .i64 ((i : Int) + 1) = ((i + 1 : Nat) : Int) := by rw [wrap64 (by omega) (by omega)]; omega
    obtain ⟨hg, hq, hr, hri, hri2⟩ := hp
    have helv := encD_length v
    have helU := encD_length (pre ++ (W ++ post))
    have hUl : (pre ++ (W ++ post)).length = E := by rw [List.length_append, List.length_append, ho, hWl, hE]
    rw [hUl] at helU
    have hxm := encD_get (l := pre ++ (W ++ post)) (i := o + m) (by omega)
    rw [win_get ho (by omega)] at hxm
    have hym := encD_get (l := v) (i := m) (by omega)
    have hy1 := encD_get (l := v) (i := m + 1) (by omega)
    have hn1 := hD.n1
    have hb1 := hD.b1
    have hb2 := hD.b2
    have hc0 := hD.c0
    have hc1 := hD.c1
    have hc2 := hD.c2
    obtain ⟨v1, hv1⟩ : ∃ v1, v1 = v.getD (m + 1) 0 := ⟨_, rfl⟩
    obtain ⟨v2, hv2⟩ : ∃ v2, v2 = v.getD m 0 := ⟨_, rfl⟩
    obtain ⟨u2, hu2⟩ : ∃ u2, u2 = W.getD m 0 := ⟨_, rfl⟩
    rw [← hv1] at hy1 hn1 hb1 hg hD
    rw [← hv2] at hym hb2 hD
    rw [← hu2] at hxm hc2 hD
    have hgH : g ≤ W.getD (m + 1) 0 + 4294967296 * W.getD (m + 2) 0 := by
      have := Nat.mul_le_mul_left g (show 1 ≤ v1 by omega)
      omega
    have hw2 : IntKind.wrap .i64 (((m + 2 : Nat) : Int) - 2) = (m : Int) := by rw [wrap64 (by omega) (by omega)]; omega
    have hw1 : IntKind.wrap .i64 (((m + 2 : Nat) : Int) - 1) = ((m + 1 : Nat) : Int) := by rw [wrap64 (by omega) (by omega)]; omega
    have p1 : (0 : Int) ≤ (m : Int) := by omega
    have p2 : (m : Int) < ((m + 3 : Nat) : Int) := by omega
    have p3 : (m : Int) < (v.length : Int) := by omega
    have p4 : (0 : Int) ≤ ((m + 1 : Nat) : Int) := by omega
    have p5 : ((m + 1 : Nat) : Int) < (v.length : Int) := by omega
    have hcv2 : IntKind.wrap .u64 (v2 : Int) = (v2 : Int) := wr64 (by omega)
    have hcv1 : IntKind.wrap .u64 (v1 : Int) = (v1 : Int) := wr64 (by omega)
    have hcu2 : IntKind.wrap .u64 (u2 : Int) = (u2 : Int) := wr64 (by omega)
    have hsl := fun (X : Heap) (t : TypeId) => shl64 (H := X) (t := t) (a := r) hr
    have hor := fun (X : Heap) (t : TypeId) => or64 (H := X) (t := t) (a := r) (b := u2) hr hc2
    have hra : IntKind.wrap .u64 ((r : Int) + (v1 : Int)) = ((r + v1 : Nat) : Int) := by rw [← Int.natCast_add, wr64 (by omega)]
    by_cases hB : 0 < g / 4294967296
    · have hB' : (0 : Int) < ((g / 4294967296 : Nat) : Int) := by omega
      have hg1 : 1 ≤ g := by omega
      have hql : vd W / vd v < g := Nat.lt_of_lt_of_le hD.small (by omega)
      have hgd : IntKind.wrap .u64 ((g : Int) - 1) = ((g - 1 : Nat) : Int) := by rw [show (g : Int) - 1 = ((g - 1 : Nat) : Int) by omega, wr64 (by omega)]
      have hg' : (g - 1) * v1 + (r + v1) = W.getD (m + 1) 0 + 4294967296 * W.getD (m + 2) 0 := by
        have := Nat.add_mul (g - 1) 1 v1
        rw [show g - 1 + 1 = g by omega, Nat.one_mul] at this
        omega
      simp only [loopR_succ, ht]
      simp only [a0, a1, a5, a7, a8, hc', hc0, hw, helv, helU, shr64, hB', loopR_succ, loopOf, findLoop, firstRegion, Option.some_or, Option.none_or, Option.getD_some, Option.some.injEq, Try.f145, FT, Int.reduceEq, Int.reduceToNat, Int.reduceLE, Int.reduceLT, Int.reduceAdd, Int.reduceMul, Int.reduceSub, Int.reduceNeg, Nat.reduceAdd, Nat.reduceSub, Nat.reduceMul, Nat.reduceLT, Nat.reduceBEq, Nat.reduceEqDiff, Nat.reduceLeDiff]
      rw [evalCode_drawn Try.f145 4 dr145_4]; rotate_left; rfl
      simp (config := { maxSteps := 4000000 }) only [a0, a1, a5, a7, a8, hc', hc0, hw, helv, helU, shr64, hB', hw2, p1, p2, p3, hxm, hym, hcv2, hcu2, hsl, hor, EVd, List.getElem?_nil, Nat.reducePow, Nat.reduceDiv, Nat.reduceMod, FT, Int.reduceEq, Int.reduceToNat, Int.reduceLE, Int.reduceLT, Int.reduceAdd, Int.reduceMul, Int.reduceSub, Int.reduceNeg, Nat.reduceAdd, Nat.reduceSub, Nat.reduceMul, Nat.reduceLT, Nat.reduceBEq, Nat.reduceEqDiff, Nat.reduceLeDiff]
      try simp only [a0, a1, a5, a7, a8, hc', hc0, hw, helv, helU, shr64, hB', hgd, hw1, p4, p5, hy1, hcv1, hra, FT, Int.reduceEq, Int.reduceToNat, Int.reduceLE, Int.reduceLT, Int.reduceAdd, Int.reduceMul, Int.reduceSub, Int.reduceNeg, Nat.reduceAdd, Nat.reduceSub, Nat.reduceMul, Nat.reduceLT, Nat.reduceBEq, Nat.reduceEqDiff, Nat.reduceLeDiff]
      by_cases hb : 0 < (r + v1) / 4294967296
      · have hb' : (0 : Int) < (((r + v1) / 4294967296 : Nat) : Int) := by omega
        refine .inl ?_
        try simp only [a0, a1, a5, a7, a8, hc', hc0, hw, hb', FT, Int.reduceEq, Int.reduceToNat, Int.reduceLE, Int.reduceLT, Int.reduceAdd, Int.reduceMul, Int.reduceSub, Int.reduceNeg, Nat.reduceAdd, Nat.reduceSub, Nat.reduceMul, Nat.reduceLT, Nat.reduceBEq, Nat.reduceEqDiff, Nat.reduceLeDiff]
        obtain ⟨e1, e2⟩ := hD.brk hg' (by omega)
        exact ⟨_, g - 1, rfl, (by rfl), (by rfl), (by rfl), (by rfl), Nat.le_sub_one_of_lt hql, hD.near hg' e1 e2, e1⟩
      · have hb' : ¬ (0 : Int) < (((r + v1) / 4294967296 : Nat) : Int) := by omega
        try simp only [a0, a1, a5, a7, a8, hc', hc0, hw, hb', FT, Int.reduceEq, Int.reduceToNat, Int.reduceLE, Int.reduceLT, Int.reduceAdd, Int.reduceMul, Int.reduceSub, Int.reduceNeg, Nat.reduceAdd, Nat.reduceSub, Nat.reduceMul, Nat.reduceLT, Nat.reduceBEq, Nat.reduceEqDiff, Nat.reduceLeDiff]
        have hnx : MdI v1 (W.getD (m + 1) 0 + 4294967296 * W.getD (m + 2) 0) (vd W / vd v) (g - 1) (r + v1) (i + 1) := MdI.next ⟨hg, hq, hr, hri, hri2⟩ hn1 hg' (Nat.le_sub_one_of_lt hql) (by omega)
        exact .inr ⟨_, _, hc, rfl, g - 1, r + v1, (by rfl), (by rfl), (by rfl), (by rfl), (by rfl), (by rw [← hv1]; exact hnx), rfl⟩
    · have hB' : ¬ (0 : Int) < ((g / 4294967296 : Nat) : Int) := by omega
      have hgB : g < 4294967296 := by omega
      have hm := mul_le32 hgB hb2
      have hmw : IntKind.wrap .u64 ((g : Int) * (v2 : Int)) = ((g * v2 : Nat) : Int) := by rw [← Int.natCast_mul, wr64 (by omega)]
      simp only [loopR_succ, ht]
      simp only [a0, a1, a5, a7, a8, hc', hc0, hw, helv, helU, shr64, hB', loopR_succ, loopOf, findLoop, firstRegion, Option.some_or, Option.none_or, Option.getD_some, Option.some.injEq, Try.f145, FT, Int.reduceEq, Int.reduceToNat, Int.reduceLE, Int.reduceLT, Int.reduceAdd, Int.reduceMul, Int.reduceSub, Int.reduceNeg, Nat.reduceAdd, Nat.reduceSub, Nat.reduceMul, Nat.reduceLT, Nat.reduceBEq, Nat.reduceEqDiff, Nat.reduceLeDiff]
      rw [evalCode_drawn Try.f145 4 dr145_4]; rotate_left; rfl
      simp (config := { maxSteps := 4000000 }) only [a0, a1, a5, a7, a8, hc', hc0, hw, helv, helU, shr64, hB', hw2, p1, p2, p3, hxm, hym, hcv2, hcu2, hsl, hor, hmw, EVd, List.getElem?_nil, Nat.reducePow, Nat.reduceDiv, Nat.reduceMod, FT, Int.reduceEq, Int.reduceToNat, Int.reduceLE, Int.reduceLT, Int.reduceAdd, Int.reduceMul, Int.reduceSub, Int.reduceNeg, Nat.reduceAdd, Nat.reduceSub, Nat.reduceMul, Nat.reduceLT, Nat.reduceBEq, Nat.reduceEqDiff, Nat.reduceLeDiff]
      by_cases ht : r * 4294967296 + u2 < g * v2
      · have ht' : ((r * 4294967296 + u2 : Nat) : Int) < ((g * v2 : Nat) : Int) := by omega
        have hql := hD.less hg ht
        have hg1 : 1 ≤ g := Nat.lt_of_le_of_lt (Nat.zero_le _) hql
        have hgd : IntKind.wrap .u64 ((g : Int) - 1) = ((g - 1 : Nat) : Int) := by rw [show (g : Int) - 1 = ((g - 1 : Nat) : Int) by omega, wr64 (by omega)]
        have hg' : (g - 1) * v1 + (r + v1) = W.getD (m + 1) 0 + 4294967296 * W.getD (m + 2) 0 := by
          have := Nat.add_mul (g - 1) 1 v1
          rw [show g - 1 + 1 = g by omega, Nat.one_mul] at this
          omega
        try simp only [a0, a1, a5, a7, a8, hc', hc0, hw, ht', helv, helU, shr64, hgd, hw1, p4, p5, hy1, hcv1, hra, FT, Int.reduceEq, Int.reduceToNat, Int.reduceLE, Int.reduceLT, Int.reduceAdd, Int.reduceMul, Int.reduceSub, Int.reduceNeg, Nat.reduceAdd, Nat.reduceSub, Nat.reduceMul, Nat.reduceLT, Nat.reduceBEq, Nat.reduceEqDiff, Nat.reduceLeDiff]
        by_cases hb : 0 < (r + v1) / 4294967296
        · have hb' : (0 : Int) < (((r + v1) / 4294967296 : Nat) : Int) := by omega
          refine .inl ?_
          try simp only [a0, a1, a5, a7, a8, hc', hc0, hw, hb', FT, Int.reduceEq, Int.reduceToNat, Int.reduceLE, Int.reduceLT, Int.reduceAdd, Int.reduceMul, Int.reduceSub, Int.reduceNeg, Nat.reduceAdd, Nat.reduceSub, Nat.reduceMul, Nat.reduceLT, Nat.reduceBEq, Nat.reduceEqDiff, Nat.reduceLeDiff]
          obtain ⟨e1, e2⟩ := hD.brk hg' (by omega)
          exact ⟨_, g - 1, rfl, (by rfl), (by rfl), (by rfl), (by rfl), Nat.le_sub_one_of_lt hql, hD.near hg' e1 e2, e1⟩
        · have hb' : ¬ (0 : Int) < (((r + v1) / 4294967296 : Nat) : Int) := by omega
          try simp only [a0, a1, a5, a7, a8, hc', hc0, hw, hb', FT, Int.reduceEq, Int.reduceToNat, Int.reduceLE, Int.reduceLT, Int.reduceAdd, Int.reduceMul, Int.reduceSub, Int.reduceNeg, Nat.reduceAdd, Nat.reduceSub, Nat.reduceMul, Nat.reduceLT, Nat.reduceBEq, Nat.reduceEqDiff, Nat.reduceLeDiff]
          have hnx : MdI v1 (W.getD (m + 1) 0 + 4294967296 * W.getD (m + 2) 0) (vd W / vd v) (g - 1) (r + v1) (i + 1) := MdI.next ⟨hg, hq, hr, hri, hri2⟩ hn1 hg' (Nat.le_sub_one_of_lt hql) (by omega)
          exact .inr ⟨_, _, hc, rfl, g - 1, r + v1, (by rfl), (by rfl), (by rfl), (by rfl), (by rfl), (by rw [← hv1]; exact hnx), rfl⟩
      · have ht' : ¬ ((r * 4294967296 + u2 : Nat) : Int) < ((g * v2 : Nat) : Int) := by omega
        refine .inl ?_
        try simp only [a0, a1, a5, a7, a8, hc', hc0, hw, ht', FT, Int.reduceEq, Int.reduceToNat, Int.reduceLE, Int.reduceLT, Int.reduceAdd, Int.reduceMul, Int.reduceSub, Int.reduceNeg, Nat.reduceAdd, Nat.reduceSub, Nat.reduceMul, Nat.reduceLT, Nat.reduceBEq, Nat.reduceEqDiff, Nat.reduceLeDiff]
        exact ⟨_, g, rfl, (by rfl), (by rfl), (by rfl), (by rfl), hq, hD.near hg hgB (by omega), hgB⟩
  · refine .inl ?_
    obtain rfl : i = 2 := by omega
    have hc' : ¬ (((2 : Nat) : Int) < ((2 : Nat) : Int)) := by omega
    obtain ⟨_, _, hr, _, hri2⟩ := hp
    have := hri2 (Nat.le_refl _)
    omega
end
end Go.Proofs.Sw.W
namespace Go.Proofs.Sw.W
open Go.Ab
section
variable [Globals]
theorem loop_back (kf : Nat) (v W1 pre post : List Nat) (nl : Bool) (cap : Option Nat) (N o E : Nat) (hv : okD v) (hokW : okD W1) (hW1 : W1.length = N) (hvN : v.length < N) (ho : pre.length = o) (hE : E = o + (N + post.length)) (hE6 : E ≤ 1000000) (x7 : IV) (k : Nat) (l : Ass) (z : Option Out) (hz : loopR Try.prog tab kf none LB145_13 145 119 [0, 1, 5, 7, 9, 88, 89] 1 k l ([rD (pre ++ (W1 ++ post))]) = z) (hk : N < k) (a0 : asc l 0 = .hsl 0 o N E 1) (a1 : asc l 1 = sD v nl cap) (a5 : asc l 5 = ii v.length) (a7 : asc l 7 = .c x7) (a9 : asc l 9 = .c (.int .u64 ((0) : Int))) (a88 : asc l 88 = ii N) (a89 : asc l 89 = ii 0) :
    ∃ l' W cy, z = some (.exit 2 (fr 119 l') [rD (pre ++ (W ++ post))]) ∧ asc l' 7 = .c x7 ∧ AbI v W1 W N cy N := by
  subst hz
  refine loop_nat N (fun k l H => loopR Try.prog tab kf none LB145_13 145 119 [0, 1, 5, 7, 9, 88, 89] 1 k l H)
    (fun i l H => ∃ (W : List Nat), ∃ (cy : Nat), asc l 0 = .hsl 0 o N E 1 ∧ asc l 1 = sD v nl cap ∧ asc l 5 = ii v.length ∧ asc l 7 = .c x7 ∧ asc l 9 = .c (.int .u64 (cy : Int)) ∧ asc l 88 = ii N ∧ asc l 89 = ii i ∧ (AbI v W1 W N cy i) ∧ H = ([rD (pre ++ (W ++ post))]))
    (fun z => ∃ l' W cy, z = some (.exit 2 (fr 119 l') [rD (pre ++ (W ++ post))]) ∧ asc l' 7 = .c x7 ∧ AbI v W1 W N cy N) ?_ N 0 k l _ (by omega) hk ⟨W1, (0), a0, a1, a5, a7, a9, a88, a89, ⟨⟨hW1, hokW, by omega, by simp [vd]⟩, rfl⟩, rfl⟩
  clear hk a0 a1 a5 a7 a9 a88 a89
  rintro i k l H hi ⟨W, cy, a0, a1, a5, a7, a9, a88, a89, hp, rfl⟩
  have ht : trim 1 (fr 119 (keep l [0, 1, 5, 7, 9, 88, 89])) ([rD (pre ++ (W ++ post))]) = ([rD (pre ++ (W ++ post))]) := by
    exact trim_same rfl
  by_cases hc : i < N
  · have hc' : (i : Int) < ((N : Nat) : Int) := by omega
    have hc0 : (0 : Int) ≤ i := by omega
    have hw : IntKind.wrap .i64 ((i : Int) + 1) = ((i + 1 : Nat) : Int) := by rw [wrap64 (by omega) (by omega)]; omega
    have helv := encD_length v
    have helU := encD_length (pre ++ (W ++ post))
    have hWl := hp.ad.len
    have hUl : (pre ++ (W ++ post)).length = E := by rw [List.length_append, List.length_append, ho, hWl, hE]
    rw [hUl] at helU
    have h2 := okD_get hp.ad.ok i
    have h1 := okD_get hv i
    have hcy := hp.ad.c1
    have hst := hp.step hv hokW hc
    have hxu := encD_get (l := pre ++ (W ++ post)) (i := o + i) (by omega)
    rw [win_get ho (by omega)] at hxu
    have hiE : o + i < E := by omega
    have hset := fun d : Nat => (encD_set (l := pre ++ (W ++ post)) (i := o + i) (d := d)).trans (by rw [win_set ho (by omega)])
    have hcv1 : IntKind.wrap .u64 ((W.getD i 0 : Nat) : Int) = ((W.getD i 0 : Nat) : Int) := wr64 (by omega)
    have hs1 : IntKind.wrap .u64 ((cy : Int) + ((W.getD i 0 : Nat) : Int)) = ((cy + W.getD i 0 : Nat) : Int) := by rw [← Int.natCast_add, wr64 (by omega)]
    by_cases hiv : i < v.length
    · have hiv' : (i : Int) < v.length := by omega
      have hy := encD_get (l := v) hiv
      have hcv2 : IntKind.wrap .u64 ((v.getD i 0 : Nat) : Int) = ((v.getD i 0 : Nat) : Int) := wr64 (by omega)
      have hs2 : IntKind.wrap .u64 (((cy + W.getD i 0 : Nat) : Int) + ((v.getD i 0 : Nat) : Int)) = ((cy + W.getD i 0 + v.getD i 0 : Nat) : Int) := by rw [← Int.natCast_add, wr64 (by omega)]
      simp only [loopR_succ, ht]
      simp only [a0, a1, a5, a7, a9, a88, a89, hc', hc0, hw, helv, helU, hxu, hiE, hset, hcv1, hs1, hiv', hy, hcv2, hs2, shr64, wrap32m, loopR_succ, loopOf, findLoop, firstRegion, Option.some_or, Option.none_or, Option.getD_some, Option.some.injEq, Try.f145, FT, Int.reduceEq, Int.reduceToNat, Int.reduceLE, Int.reduceLT, Int.reduceAdd, Int.reduceMul, Int.reduceSub, Int.reduceNeg, Nat.reduceAdd, Nat.reduceSub, Nat.reduceMul, Nat.reduceLT, Nat.reduceBEq, Nat.reduceEqDiff, Nat.reduceLeDiff]
      exact .inr ⟨_, _, hc, rfl, _, _, (by rfl), (by rfl), (by rfl), (by rfl), (by rfl), (by rfl), (by rfl), hst, rfl⟩
    · have hiv' : ¬ (i : Int) < v.length := by omega
      rw [getD_out (l := v) (i := i) (by omega), Nat.add_zero] at hst
      simp only [loopR_succ, ht]
      simp only [a0, a1, a5, a7, a9, a88, a89, hc', hc0, hw, helv, helU, hxu, hiE, hset, hcv1, hs1, hiv', shr64, wrap32m, loopR_succ, loopOf, findLoop, firstRegion, Option.some_or, Option.none_or, Option.getD_some, Option.some.injEq, Try.f145, FT, Int.reduceEq, Int.reduceToNat, Int.reduceLE, Int.reduceLT, Int.reduceAdd, Int.reduceMul, Int.reduceSub, Int.reduceNeg, Nat.reduceAdd, Nat.reduceSub, Nat.reduceMul, Nat.reduceLT, Nat.reduceBEq, Nat.reduceEqDiff, Nat.reduceLeDiff]
      exact .inr ⟨_, _, hc, rfl, _, _, (by rfl), (by rfl), (by rfl), (by rfl), (by rfl), (by rfl), (by rfl), hst, rfl⟩
  · refine .inl ?_
    obtain rfl : i = N := by omega
    have hc' : ¬ (((i : Nat) : Int) < ((i : Nat) : Int)) := by omega
    simp only [loopR_succ, ht]
    simp only [a0, a1, a5, a7, a9, a88, a89, hc', loopR_succ, loopOf, findLoop, firstRegion, Option.some_or, Option.none_or, Option.getD_some, Option.some.injEq, Try.f145, FT, Int.reduceEq, Int.reduceToNat, Int.reduceLE, Int.reduceLT, Int.reduceAdd, Int.reduceMul, Int.reduceSub, Int.reduceNeg, Nat.reduceAdd, Nat.reduceSub, Nat.reduceMul, Nat.reduceLT, Nat.reduceBEq, Nat.reduceEqDiff, Nat.reduceLeDiff]
    exact ⟨_, W, cy, rfl, (by rfl), hp⟩
theorem digit_ev (k : Nat) (v W pre post : List Nat) (nl : Bool) (cap : Option Nat) (m o E : Nat) (hv : okD v) (hW : okD W) (hvl : v.length = m + 2) (hWl : W.length = m + 3) (ho : pre.length = o) (hE : E = o + (m + 3 + post.length)) (hE6 : E ≤ 1000000) (hn : 2147483648 ≤ v.getD (m + 1) 0) (hlt : vd W < 4294967296 * vd v) (hk : m + 20 < k) :
    ∃ W', W'.length = m + 3 ∧ okD W' ∧ vd W' = vd W % vd v ∧
      evalT Try.prog (mkHints tab) (k+2) (.fn 145) [.hsl 0 o (m + 3) E 1, sD v nl cap] [rD (pre ++ (W ++ post))] = some (.c (.int .u32 ((vd W / vd v : Nat) : Int)), [rD (pre ++ (W' ++ post))]) := by
  have hD := dg_of hv hW hvl hWl hn hlt
  have helv := encD_length v
  have helU := encD_length (pre ++ (W ++ post))
  have hUl : (pre ++ (W ++ post)).length = E := by rw [List.length_append, List.length_append, ho, hWl, hE]
  rw [hUl] at helU
  have hx1 := encD_get (l := pre ++ (W ++ post)) (i := o + (m + 1)) (by omega)
  rw [win_get ho (by omega)] at hx1
  have hx2 := encD_get (l := pre ++ (W ++ post)) (i := o + (m + 2)) (by omega)
  rw [win_get ho (by omega)] at hx2
  have hy1 := encD_get (l := v) (i := m + 1) (by omega)
  have hb1 := hD.b1
  have hc0 := hD.c0
  have hc1 := hD.c1
  have hw2 : IntKind.wrap .i64 (((m + 2 : Nat) : Int) - 1) = ((m + 1 : Nat) : Int) := by rw [wrap64 (by omega) (by omega)]; omega
  have p1 : (0 : Int) ≤ ((m + 1 : Nat) : Int) := by omega
  have p2 : ((m + 1 : Nat) : Int) < ((m + 3 : Nat) : Int) := by omega
  have p3 : (0 : Int) ≤ ((m + 2 : Nat) : Int) := by omega
  have p4 : ((m + 2 : Nat) : Int) < ((m + 3 : Nat) : Int) := by omega
  have p5 : ((m + 1 : Nat) : Int) < ((m + 2 : Nat) : Int) := by omega
  obtain ⟨v1, hv1⟩ : ∃ v1, v1 = v.getD (m + 1) 0 := ⟨_, rfl⟩
  obtain ⟨u0, hu0⟩ : ∃ u0, u0 = W.getD (m + 2) 0 := ⟨_, rfl⟩
  obtain ⟨u1, hu1⟩ : ∃ u1, u1 = W.getD (m + 1) 0 := ⟨_, rfl⟩
  have hfirst := hD.first
  rw [← hv1] at hy1 hb1 hn hfirst
  rw [← hu0] at hx2 hc0 hfirst
  rw [← hu1] at hx1 hc1 hfirst
  obtain ⟨h, hh⟩ : ∃ h, h = u0 * 4294967296 + u1 := ⟨_, rfl⟩
  have hh' : u1 + 4294967296 * u0 = h := by omega
  rw [hh'] at hfirst
  have hcv0 : IntKind.wrap .u64 (u0 : Int) = (u0 : Int) := wr64 (by omega)
  have hcv1 : IntKind.wrap .u64 (u1 : Int) = (u1 : Int) := wr64 (by omega)
  have hcvv : IntKind.wrap .u64 (v1 : Int) = (v1 : Int) := wr64 (by omega)
  have hsl := fun (X : Heap) (t : TypeId) => shl64 (H := X) (t := t) (a := u0) hc0
  have hor := fun (X : Heap) (t : TypeId) => or64 (H := X) (t := t) (a := u0) (b := u1) hc0 hc1
  have hvz : ¬ (v1 : Int) = 0 := by omega
  have hq1 : (h : Int).tdiv (v1 : Int) = ((h / v1 : Nat) : Int) := rfl
  have hq2 : (h : Int).tmod (v1 : Int) = ((h % v1 : Nat) : Int) := rfl
  have hdl := Nat.div_le_self h v1
  have hml := Nat.mod_lt h (show 0 < v1 by omega)
  have hdm := Nat.div_add_mod h v1
  have hqw : IntKind.wrap .u64 ((h / v1 : Nat) : Int) = ((h / v1 : Nat) : Int) := wr64 (by omega)
  have hmd : MdI (v.getD (m + 1) 0) (W.getD (m + 1) 0 + 4294967296 * W.getD (m + 2) 0) (vd W / vd v) (h / v1) (h % v1) 0 := by
    rw [← hv1, ← hu0, ← hu1, hh']
    exact ⟨by rw [Nat.mul_comm]; exact hdm, hfirst, by omega, fun h => by omega, fun h => by omega⟩
  rw [ev145]
  simp only [Try.f145, hvl, ii, FT, Int.reduceEq, Int.reduceToNat, Int.reduceLE, Int.reduceLT, Int.reduceAdd, Int.reduceMul, Int.reduceSub, Int.reduceNeg, Nat.reduceAdd, Nat.reduceSub, Nat.reduceMul, Nat.reduceLT, Nat.reduceBEq, Nat.reduceEqDiff, Nat.reduceLeDiff]
  rw [evalCode_drawn Try.f145 2 dr145_2]; rotate_left; rfl
  simp (config := { maxSteps := 4000000 }) only [helU, helv, hvl, hw2, p1, p2, p3, p4, p5, hx1, hx2, hcv0, hcv1, hsl, hor, ← hh, EVd, List.getElem?_nil, Nat.reducePow, Nat.reduceDiv, Nat.reduceMod, FT, Int.reduceEq, Int.reduceToNat, Int.reduceLE, Int.reduceLT, Int.reduceAdd, Int.reduceMul, Int.reduceSub, Int.reduceNeg, Nat.reduceAdd, Nat.reduceSub, Nat.reduceMul, Nat.reduceLT, Nat.reduceBEq, Nat.reduceEqDiff, Nat.reduceLeDiff]
  rw [evalCode_drawn Try.f145 3 dr145_3]; rotate_left; rfl
  simp (config := { maxSteps := 4000000 }) only [helU, helv, hvl, hw2, p1, p2, p3, p4, p5, hy1, hcvv, hvz, hq1, hq2, hqw, EVd, List.getElem?_nil, Nat.reducePow, Nat.reduceDiv, Nat.reduceMod, FT, Int.reduceEq, Int.reduceToNat, Int.reduceLE, Int.reduceLT, Int.reduceAdd, Int.reduceMul, Int.reduceSub, Int.reduceNeg, Nat.reduceAdd, Nat.reduceSub, Nat.reduceMul, Nat.reduceLT, Nat.reduceBEq, Nat.reduceEqDiff, Nat.reduceLeDiff]
  rw [evalCode_loopB LB145_4 lp145_4]; rotate_left; rfl; rfl; rfl
  generalize hz : loopR _ _ _ _ _ _ _ _ _ _ _ _ = z
  obtain ⟨l', g, rfl, e0, e1, e5, e7, hg1, hg2, hg3⟩ := loop_mend (k + 1) v W pre post nl cap m o E hv hW hvl hWl ho hE hE6 hD (h / v1) (h % v1) hmd _ _ z hz (by omega) (by rfl) (by rw [sD, hvl]; rfl) (by rfl) (by rfl) (by rfl)
  clear hz
  have hdv := Nat.div_add_mod (vd W) (vd v)
  have hVp := hD.pos.1
  have hmv := Nat.mod_lt (vd W) hVp
  obtain ⟨q, hqd⟩ : ∃ q, q = vd W / vd v := ⟨_, rfl⟩
  rw [← hqd] at hdv hg1 hg2 ⊢
  obtain ⟨W1, hW1l, hW1o, hW1v, hls⟩ := less_ev k v W pre post nl cap (m + 3) o E g hv hg3 hWl hW (by omega) ho hE hE6 (by omega)
  simp only [bb] at hls
  have hgm : g % 4294967296 = g := Nat.mod_eq_of_lt hg3
  by_cases hl : vd W < g * vd v
  · have hgq : g = q + 1 := by
      by_cases h : g = q
      · rw [h, Nat.mul_comm] at hl; omega
      · omega
    rw [if_pos hl] at hW1v
    simp only [hl, decide_true] at hls
    have hgd : IntKind.wrap .u64 ((g : Int) - 1) = ((q : Nat) : Int) := by rw [show (g : Int) - 1 = ((q : Nat) : Int) by omega, wr64 (by omega)]
    have hqm : q % 4294967296 = q := Nat.mod_eq_of_lt (by omega)
    simp only [e0, e1, e5, e7, hls, hgd, FT, Int.reduceEq, Int.reduceToNat, Int.reduceLE, Int.reduceLT, Int.reduceAdd, Int.reduceMul, Int.reduceSub, Int.reduceNeg, Nat.reduceAdd, Nat.reduceSub, Nat.reduceMul, Nat.reduceLT, Nat.reduceBEq, Nat.reduceEqDiff, Nat.reduceLeDiff]
    rw [evalCode_loopB LB145_13 lp145_13]; rotate_left; rfl; rfl; rfl
    generalize hz : loopR _ _ _ _ _ _ _ _ _ _ _ _ = z
    obtain ⟨l2, W2, cy, rfl, f7, hI⟩ := loop_back (k + 1) v W1 pre post nl cap (m + 3) o E hv hW1o hW1l (by omega) ho hE hE6 (.int .u64 (q : Int)) _ _ z hz (by omega) (by exact e0) (by exact e1) (by rw [hvl]; exact e5) (by rfl) (by rfl) (by rfl) (by rfl)
    clear hz
    have hv2 := hI.ad.vl
    have hc1' := hI.ad.c1
    have hlt2 := vd_lt hI.ad.ok
    rw [hI.ad.len] at hlt2
    rw [List.take_of_length_le (by rw [hI.ad.len]; exact Nat.le_refl _), List.take_of_length_le (by omega), List.take_of_length_le (by omega)] at hv2
    have hVN := vd_lt hv
    rw [hvl] at hVN
    have hVN2 : 4294967296 ^ (m + 2) ≤ 4294967296 ^ (m + 3) := Nat.pow_le_pow_right (by omega) (by omega)
    rw [hgq, Nat.add_mul, Nat.one_mul, Nat.mul_comm q] at hW1v
    refine ⟨W2, hI.ad.len, hI.ad.ok, ?_, ?_⟩
    · have : cy = 0 ∨ cy = 1 := by omega
      rcases this with rfl | rfl
      · omega
      · omega
    · simp only [f7, wrap32m, hqm, FT, Int.reduceEq, Int.reduceToNat, Int.reduceLE, Int.reduceLT, Int.reduceAdd, Int.reduceMul, Int.reduceSub, Int.reduceNeg, Nat.reduceAdd, Nat.reduceSub, Nat.reduceMul, Nat.reduceLT, Nat.reduceBEq, Nat.reduceEqDiff, Nat.reduceLeDiff]
  · have hgq : g = q := by
      by_cases h : g = q + 1
      · rw [h, Nat.add_mul, Nat.one_mul, Nat.mul_comm q] at hl; omega
      · omega
    rw [if_neg hl] at hW1v
    simp only [hl, decide_false] at hls
    refine ⟨W1, hW1l, hW1o, ?_, ?_⟩
    · rw [hgq, Nat.mul_comm q] at hW1v; omega
    · rw [hgq] at hls e7 hgm
      simp only [e0, e1, e5, e7, hls, wrap32m, hgm, FT, Int.reduceEq, Int.reduceToNat, Int.reduceLE, Int.reduceLT, Int.reduceAdd, Int.reduceMul, Int.reduceSub, Int.reduceNeg, Nat.reduceAdd, Nat.reduceSub, Nat.reduceMul, Nat.reduceLT, Nat.reduceBEq, Nat.reduceEqDiff, Nat.reduceLeDiff]
end
end Go.Proofs.Sw.W
namespace Go.Proofs.Sw.W
open Go.Ab
structure DvI (U0 U O : List Nat) (V n E j : Nat) : Prop where
  ul : U.length = E
  uo : okD U
  ol : O.length = E - n
  oo : okD O
  top : vd (U.drop j) < V
  low : U.take j = U0.take j
  vl : vd (O.drop j) * V + vd (U.drop j) = vd (U0.drop j)
theorem DvI.win {U0 U O : List Nat} {V n E j : Nat} (h : DvI U0 U O V n E (j + 1)) (hj : j + n < E) (hV : V < 4294967296 ^ n) :
    ((U.drop j).take (n + 1)).length = n + 1 ∧ okD ((U.drop j).take (n + 1)) ∧ vd ((U.drop j).take (n + 1)) < 4294967296 * V ∧ vd (U.drop j) = vd ((U.drop j).take (n + 1)) ∧ vd (U.drop (j + n + 1)) = 0 := by
  have h1 := okD_get h.uo j
  have h2 := vd_drop U (j := j) (by rw [h.ul]; omega)
  have h3 := h.top
  have h4 : vd (U.drop j) < 4294967296 * V := by omega
  have h5 : (U.drop j) = (U.drop j).take (n + 1) ++ U.drop (j + n + 1) := by
    rw [show U.drop (j + n + 1) = (U.drop j).drop (n + 1) by rw [List.drop_drop]; rfl, List.take_append_drop]
  have hl : ((U.drop j).take (n + 1)).length = n + 1 := by rw [List.length_take, List.length_drop, h.ul]; omega
  have hok : okD ((U.drop j).take (n + 1)) := fun d hd => h.uo d (List.mem_of_mem_drop (List.mem_of_mem_take hd))
  have h6 : vd (U.drop j) = vd ((U.drop j).take (n + 1)) + 4294967296 ^ (n + 1) * vd (U.drop (j + n + 1)) := by
    conv => lhs; rw [h5, vd_append, hl]
  have h7 : 4294967296 * V < 4294967296 ^ (n + 1) := by rw [Nat.pow_succ, Nat.mul_comm]; omega
  have h8 : vd (U.drop (j + n + 1)) = 0 := by
    by_cases hz : vd (U.drop (j + n + 1)) = 0
    · exact hz
    · have := Nat.mul_le_mul_left (4294967296 ^ (n + 1)) (show 1 ≤ vd (U.drop (j + n + 1)) by omega)
      omega
  rw [h8, Nat.mul_zero, Nat.add_zero] at h6
  exact ⟨hl, hok, by omega, h6, h8⟩
theorem DvI.step {U0 U O W' : List Nat} {V n E j : Nat} (h : DvI U0 U O V n E (j + 1)) (hj : j + n < E) (hV : V < 4294967296 ^ n) (hVp : 0 < V) (hU0 : U0.length = E) (hWl : W'.length = n + 1) (hWo : okD W') (hWv : vd W' = vd ((U.drop j).take (n + 1)) % V) (hq : vd ((U.drop j).take (n + 1)) / V < 4294967296) :
    DvI U0 (U.take j ++ (W' ++ U.drop (j + n + 1))) (O.set j (vd ((U.drop j).take (n + 1)) / V)) V n E j := by
  obtain ⟨_, _, w3, w4, w5⟩ := h.win hj hV
  have hul := h.ul
  have hdl : (U.take j).length = j := by rw [List.length_take]; omega
  have hdr : (U.take j ++ (W' ++ U.drop (j + n + 1))).drop j = W' ++ U.drop (j + n + 1) := by
    have := List.drop_left (l₁ := U.take j) (l₂ := W' ++ U.drop (j + n + 1))
    rwa [hdl] at this
  have hvd : vd (W' ++ U.drop (j + n + 1)) = vd W' := by rw [vd_append, w5, Nat.mul_zero, Nat.add_zero]
  obtain ⟨w, hw⟩ : ∃ w, w = vd ((U.drop j).take (n + 1)) := ⟨_, rfl⟩
  rw [← hw] at hWv hq w3 w4 ⊢
  refine ⟨?_, ?_, by rw [List.length_set]; exact h.ol, okD_set h.oo hq, ?_, ?_, ?_⟩
  · rw [List.length_append, List.length_append, hdl, hWl, List.length_drop]; omega
  · exact okD_append.2 ⟨fun d hd => h.uo d (List.mem_of_mem_take hd), okD_append.2 ⟨hWo, fun d hd => h.uo d (List.mem_of_mem_drop hd)⟩⟩
  · rw [hdr, hvd, hWv]; exact Nat.mod_lt _ hVp
  · have := List.take_left (l₁ := U.take j) (l₂ := W' ++ U.drop (j + n + 1))
    rw [hdl] at this
    rw [this]
    have h2 := congrArg (List.take j) h.low
    rwa [List.take_take, List.take_take, show min j (j + 1) = j by omega] at h2
  · have hg : U.getD j 0 = U0.getD j 0 := by
      have := congrArg (·.getD j 0) h.low
      simpa [List.getD_eq_getElem?_getD, List.getElem?_take] using this
    rw [hdr, hvd, hWv, vd_drop _ (by rw [List.length_set, h.ol]; omega), drop_set, getD_set_self (by rw [h.ol]; omega), vd_drop U0 (by omega), ← h.vl, ← hg]
    have h2 := vd_drop U (j := j) (by omega)
    have h3 := Nat.div_add_mod w V
    rw [Nat.add_mul, Nat.mul_assoc, Nat.mul_add, Nat.mul_comm (w / V)]
    omega
section
variable [Globals]
theorem sliceU {U : List Nat} {X : Heap} {E j m : Nat} (hU : U.length = E) (h : j + (m + 3) ≤ E) : sliceO (rD U :: X) 1 (.hsl 0 0 E E 1) (some (.c (.int .i64 (j : Int)))) (some (.c (.int .i64 ((j + (m + 3) : Nat) : Int)))) = some (.hsl 0 j (m + 3) E 1) := by
  have b1 : boundA E (some (.c (.int .i64 ((j + (m + 3) : Nat) : Int)))) = some (j + (m + 3)) := by
    show (if 0 ≤ ((j + (m + 3) : Nat) : Int) then some (((j + (m + 3) : Nat) : Int)).toNat else none) = _
    rw [if_pos (by omega), Int.toNat_natCast]
  have b2 : boundA 0 (some (.c (.int .i64 (j : Int)))) = some j := by
    show (if 0 ≤ (j : Int) then some (j : Int).toNat else none) = _
    rw [if_pos (by omega), Int.toNat_natCast]
  have hr : rowOf (rD U :: X) 0 E = some (102, encD U) := rowOf_eq (fz := false) rfl (by rw [encD_length, hU])
  simp only [sliceO, b1, b2, Option.bind_some, hr]
  rw [if_pos ⟨by omega, by omega, by omega, trivial, rfl⟩, if_neg (by omega)]
  simp only [Nat.mul_one, Nat.zero_add]
  rw [show j + (m + 3) - j = m + 3 by omega]
set_option maxHeartbeats 8000000 in
theorem loop_div (kf : Nat) (v U0 : List Nat) (x12 : AV) (nl : Bool) (cap : Option Nat) (m E s : Nat) (hv : okD v) (hvl : v.length = m + 2) (hn : 2147483648 ≤ v.getD (m + 1) 0) (hU0 : U0.length = E) (hEm : m + 2 < E) (hE6 : E ≤ 1000000) (hkf : m + 20 < kf) (O0 : List Nat) (h0 : DvI U0 U0 O0 (vd v) (m + 2) E (E - (m + 2))) (k : Nat) (l : Ass) (z : Option Out) (hz : loopR Try.prog tab (kf + 2) none LB134_16 134 106 [10, 11, 13, 15, 16, 17] 3 k l ([rD U0, rD [0], rD O0]) = z) (hk : E - (m + 2) < k) (a10 : asc l 10 = ii s) (a11 : asc l 11 = sD v nl cap) (a13 : asc l 13 = .hsl 0 0 E E 1) (a15 : asc l 15 = ii (m + 2 : Nat)) (a16 : asc l 16 = .hsl 2 0 (E - (m + 2)) (E - (m + 2)) 1) (a17 : asc l 17 = ii ((E : Int) - (m + 2 : Nat) - 1 - 0)) :
    ∃ l' U O, z = some (.exit 0 (fr 106 l') [rD U, rD [0], rD O]) ∧ asc l' 10 = ii s ∧ asc l' 13 = .hsl 0 0 E E 1 ∧ asc l' 16 = .hsl 2 0 (E - (m + 2)) (E - (m + 2)) 1 ∧ DvI U0 U O (vd v) (m + 2) E 0 := by
  subst hz
  refine loop_nat (E - (m + 2)) (fun k l H => loopR Try.prog tab (kf + 2) none LB134_16 134 106 [10, 11, 13, 15, 16, 17] 3 k l H)
    (fun i l H => ∃ (U : List Nat), ∃ (O : List Nat), asc l 10 = ii s ∧ asc l 11 = sD v nl cap ∧ asc l 13 = .hsl 0 0 E E 1 ∧ asc l 15 = ii (m + 2 : Nat) ∧ asc l 16 = .hsl 2 0 (E - (m + 2)) (E - (m + 2)) 1 ∧ asc l 17 = ii ((E : Int) - (m + 2 : Nat) - 1 - i) ∧ (DvI U0 U O (vd v) (m + 2) E (E - (m + 2) - i)) ∧ H = ([rD U, rD [0], rD O]))
    (fun z => ∃ l' U O, z = some (.exit 0 (fr 106 l') [rD U, rD [0], rD O]) ∧ asc l' 10 = ii s ∧ asc l' 13 = .hsl 0 0 E E 1 ∧ asc l' 16 = .hsl 2 0 (E - (m + 2)) (E - (m + 2)) 1 ∧ DvI U0 U O (vd v) (m + 2) E 0) ?_ (E - (m + 2)) 0 k l _ (by omega) hk ⟨U0, O0, a10, a11, a13, a15, a16, a17, h0, rfl⟩
  clear hk a10 a11 a13 a15 a16 a17
  rintro i k l H hi ⟨U, O, a10, a11, a13, a15, a16, a17, hp, rfl⟩
  have ht : trim 3 (fr 106 (keep l [10, 11, 13, 15, 16, 17])) ([rD U, rD [0], rD O]) = ([rD U, rD [0], rD O]) := by
    exact trim_same rfl
  by_cases hc : i < (E - (m + 2))
  · have hc' : (i : Int) < ((E - (m + 2) : Nat) : Int) := by omega
    have hc0 : (0 : Int) ≤ i := by omega
    have hw : IntKind.wrap .i64 ((i : Int) + 1) = ((i + 1 : Nat) : Int) := by rw [wrap64 (by omega) (by omega)]; omega
    obtain ⟨j, hj⟩ : ∃ j, E - (m + 2) = j + 1 + i := ⟨E - (m + 2) - 1 - i, by omega⟩
    have e1 : E - (m + 2) - i = j + 1 := by omega
    have e2 : E - (m + 2) - (i + 1) = j := by omega
    have e3 : (E : Int) - (m + 2 : Nat) - 1 - (i : Int) = (j : Int) := by omega
    have e4 : (E : Int) - (m + 2 : Nat) - 1 - ((i + 1 : Nat) : Int) = (j : Int) - 1 := by omega
    rw [e3] at a17
    rw [e1] at hp
    rw [e2, e4]
    have hjE : j + (m + 2) < E := by omega
    have hVl := vd_lt hv
    rw [hvl] at hVl
    have hVp : 0 < vd v := by
      have := vd_top2 hvl
      have h2 : 0 < 4294967296 ^ m * (v.getD m 0 + 4294967296 * v.getD (m + 1) 0) := Nat.mul_pos (Nat.pow_pos (by omega)) (by omega)
      omega
    obtain ⟨w1, w2, w3, w4, w5⟩ := hp.win hjE hVl
    have hUl := hp.ul
    have hOl := hp.ol
    have hpre : (U.take j).length = j := by rw [List.length_take]; omega
    obtain ⟨W', d1, d2, d3, hdg⟩ := digit_ev kf v ((U.drop j).take (m + 2 + 1)) (U.take j) (U.drop (j + (m + 2) + 1)) nl cap m j E hv w2 hvl w1 hpre (by rw [List.length_drop, hUl]; omega) hE6 hn w3 hkf
    have hUe : U.take j ++ ((U.drop j).take (m + 2 + 1) ++ U.drop (j + (m + 2) + 1)) = U := by
      rw [show U.drop (j + (m + 2) + 1) = (U.drop j).drop (m + 2 + 1) by rw [List.drop_drop]; rfl, List.take_append_drop, List.take_append_drop]
    rw [hUe] at hdg
    have hqB : vd ((U.drop j).take (m + 2 + 1)) / vd v < 4294967296 := by rw [Nat.div_lt_iff_lt_mul hVp]; exact w3
    have hst := hp.step hjE hVl hVp hU0 d1 d2 d3 hqB
    obtain ⟨U', hU'⟩ : ∃ U', U' = U.take j ++ (W' ++ U.drop (j + (m + 2) + 1)) := ⟨_, rfl⟩
    obtain ⟨q, hqd⟩ : ∃ q, q = vd ((U.drop j).take (m + 2 + 1)) / vd v := ⟨_, rfl⟩
    rw [← hU', ← hqd] at hdg hst
    have helU := encD_length U
    have helU' := encD_length U'
    have helO := encD_length O
    have hU'l := hst.ul
    have hj0 : (0 : Int) ≤ j := by omega
    have hw2 : IntKind.wrap .i64 ((j : Int) - 1) = (j : Int) - 1 := by rw [wrap64 (by omega) (by omega)]
    have hw3 : IntKind.wrap .i64 ((j : Int) + ((m + 2 : Nat) : Int)) = ((j + (m + 2) : Nat) : Int) := by rw [wrap64 (by omega) (by omega)]; omega
    have hw4 : IntKind.wrap .i64 (((j + (m + 2) : Nat) : Int) + 1) = ((j + (m + 3) : Nat) : Int) := by rw [wrap64 (by omega) (by omega)]; omega
    have hjq : j < E - (m + 2) := by omega
    have hjq' : (j : Int) < ((E - (m + 2) : Nat) : Int) := by omega
    have hset := encD_set (l := O) (i := j) (d := q)
    have hslc := fun X : Heap => sliceU (X := X) (j := j) (m := m) hUl (by omega)
    simp only [loopR_succ, ht]
    simp only [a10, a11, a13, a15, a16, a17, hj0, hw2, hw3, hw4, hslc, hdg, helU, hUl, helU', hU'l, helO, hOl, hjq, hjq', hset, loopR_succ, loopOf, findLoop, firstRegion, Option.some_or, Option.none_or, Option.getD_some, Option.some.injEq, Try.f134, FT, Int.reduceEq, Int.reduceToNat, Int.reduceLE, Int.reduceLT, Int.reduceAdd, Int.reduceMul, Int.reduceSub, Int.reduceNeg, Nat.reduceAdd, Nat.reduceSub, Nat.reduceMul, Nat.reduceLT, Nat.reduceBEq, Nat.reduceEqDiff, Nat.reduceLeDiff]
    exact .inr ⟨_, _, hc, rfl, U', _, (by rfl), (by rfl), (by rfl), (by rfl), (by rfl), (by rfl), hst, rfl⟩
  · refine .inl ?_
    obtain rfl : i = (E - (m + 2)) := by omega
    have hc' : ¬ ((((E - (m + 2)) : Nat) : Int) < (((E - (m + 2)) : Nat) : Int)) := by omega
    have hlt : ¬ ((0 : Int) ≤ (E : Int) - (m + 2 : Nat) - 1 - (E - (m + 2) : Nat)) := by omega
    rw [Nat.sub_self] at hp
    simp only [loopR_succ, ht]
    simp only [a10, a11, a13, a15, a16, a17, hlt, loopR_succ, loopOf, findLoop, firstRegion, Option.some_or, Option.none_or, Option.getD_some, Option.some.injEq, Try.f134, FT, Int.reduceEq, Int.reduceToNat, Int.reduceLE, Int.reduceLT, Int.reduceAdd, Int.reduceMul, Int.reduceSub, Int.reduceNeg, Nat.reduceAdd, Nat.reduceSub, Nat.reduceMul, Nat.reduceLT, Nat.reduceBEq, Nat.reduceEqDiff, Nat.reduceLeDiff]
    exact ⟨_, U, O, rfl, (by rfl), (by rfl), (by rfl), hp⟩
end
end Go.Proofs.Sw.W
namespace Go.Proofs.Sw.W
open Go.Ab
theorem norm_shift {b : List Nat} {m s : Nat} (hb : okD b) (hbl : b.length = m + 2) (h1 : 2147483648 ≤ b.getD (m + 1) 0 * 2 ^ s) (h2 : b.getD (m + 1) 0 * 2 ^ s < 4294967296) (hs : s < 32) :
    (dig (vd b * 2 ^ s)).length = m + 2 ∧ 2147483648 ≤ (dig (vd b * 2 ^ s)).getD (m + 1) 0 ∧ 4294967296 ^ (m + 1) ≤ vd b * 2 ^ s := by
  obtain ⟨t, ht⟩ : ∃ t, t = b.getD (m + 1) 0 := ⟨_, rfl⟩
  rw [← ht] at h1 h2
  have hp : 0 < 2 ^ s := Nat.pow_pos (by omega)
  have hb1 := vd_take b (m + 1)
  rw [List.take_of_length_le (by omega), ← ht] at hb1
  have hb2 := take_lt hb (m + 1)
  obtain ⟨X, hX⟩ : ∃ X, X = 4294967296 ^ (m + 1) := ⟨_, rfl⟩
  rw [← hX] at hb1 hb2 ⊢
  have hXp : 0 < X := by rw [hX]; exact Nat.pow_pos (by omega)
  have ht1 : (t + 1) * 2 ^ s ≤ 4294967296 := by
    rw [pow_s hs, Nat.mul_comm (2 ^ s)]
    refine Nat.mul_le_mul_right _ ?_
    by_cases h : t + 1 ≤ 2 ^ (32 - s)
    · exact h
    · exfalso
      have := Nat.mul_le_mul_right (2 ^ s) (show 2 ^ (32 - s) ≤ t by omega)
      rw [Nat.mul_comm, ← pow_s hs] at this
      omega
  obtain ⟨V, hV⟩ : ∃ V, V = vd b * 2 ^ s := ⟨_, rfl⟩
  rw [← hV]
  have hlo : X * 2147483648 ≤ V := by
    have e1 := Nat.mul_le_mul_left X h1
    have e2 : X * (t * 2 ^ s) ≤ V := by
      rw [hV, ← Nat.mul_assoc]
      exact Nat.mul_le_mul_right _ (by omega)
    omega
  have hhi : V < 4294967296 ^ (m + 2) := by
    have e1 : vd b < X * (t + 1) := by rw [Nat.mul_add, Nat.mul_one]; omega
    have e2 : V < X * (t + 1) * 2 ^ s := by rw [hV]; exact Nat.mul_lt_mul_of_pos_right e1 hp
    have e3 : X * (t + 1) * 2 ^ s ≤ X * 4294967296 := by rw [Nat.mul_assoc]; exact Nat.mul_le_mul_left _ ht1
    have e4 : 4294967296 ^ (m + 2) = X * 4294967296 := by rw [hX, ← Nat.pow_succ]
    omega
  have hl1 := dig_len hhi
  have hvv := vd_dig V
  have hok := (can_dig V).ok
  have hl2 : (dig V).length = m + 2 := by
    by_cases h : (dig V).length ≤ m + 1
    · exfalso
      have h3 := vd_lt hok
      have h4 : 4294967296 ^ (dig V).length ≤ 4294967296 ^ (m + 1) := Nat.pow_le_pow_right (by omega) h
      rw [← hX] at h4
      omega
    · omega
  refine ⟨hl2, ?_, by omega⟩
  have hv1 := vd_take (dig V) (m + 1)
  rw [List.take_of_length_le (by omega), ← hX, hvv] at hv1
  have hv2 := take_lt hok (m + 1)
  rw [← hX] at hv2
  by_cases h : 2147483648 ≤ (dig V).getD (m + 1) 0
  · exact h
  · exfalso
    have e1 := Nat.mul_le_mul_left X (show (dig V).getD (m + 1) 0 + 1 ≤ 2147483648 by omega)
    rw [Nat.mul_add, Nat.mul_one] at e1
    omega
theorem div_start {A v : List Nat} {m : Nat} (hA : okD A) (hAl : m + 2 ≤ A.length) (hV : 4294967296 ^ (m + 1) ≤ vd v) : DvI (A ++ [0]) (A ++ [0]) (List.replicate (A.length + 1 - (m + 2)) 0) (vd v) (m + 2) (A.length + 1) (A.length + 1 - (m + 2)) := by
  refine ⟨by simp, okD_append.2 ⟨hA, fun d hd => by rw [List.mem_singleton.1 hd]; omega⟩, by simp, fun d hd => by rw [List.eq_of_mem_replicate hd]; omega, ?_, rfl, ?_⟩
  · rw [List.drop_append_of_le_length (by omega), vd_snoc, Nat.mul_zero, Nat.add_zero]
    have h1 : vd (A.drop (A.length + 1 - (m + 2))) < 4294967296 ^ (A.drop (A.length + 1 - (m + 2))).length := vd_lt fun d hd => hA d (List.mem_of_mem_drop hd)
    rw [List.length_drop, show A.length - (A.length + 1 - (m + 2)) = m + 1 by omega] at h1
    omega
  · rw [List.drop_of_length_le (by simp)]
    simp [vd]
theorem div_done {A U O : List Nat} {a b s n E : Nat} (hb : 0 < b) (h : DvI (A ++ [0]) U O (b * 2 ^ s) n E 0) (hA : vd A = a * 2 ^ s) : vd O = a / b ∧ vd U / 2 ^ s = a % b := by
  have hp : 0 < 2 ^ s := Nat.pow_pos (by omega)
  have hVp : 0 < b * 2 ^ s := Nat.mul_pos hb hp
  have h1 := h.vl
  have h2 := h.top
  rw [List.drop_zero, List.drop_zero, List.drop_zero, vd_snoc, Nat.mul_zero, Nat.add_zero, hA] at h1
  rw [List.drop_zero] at h2
  constructor
  · have e1 : (vd U + vd O * (b * 2 ^ s)) / (b * 2 ^ s) = vd U / (b * 2 ^ s) + vd O := Nat.add_mul_div_right _ _ hVp
    rw [Nat.add_comm, h1, Nat.mul_div_mul_right _ _ hp, Nat.div_eq_of_lt h2] at e1
    omega
  · have e1 : (vd U + vd O * (b * 2 ^ s)) % (b * 2 ^ s) = vd U % (b * 2 ^ s) := Nat.add_mul_mod_self_right ..
    rw [Nat.add_comm, h1, Nat.mul_mod_mul_right, Nat.mod_eq_of_lt h2] at e1
    rw [← e1, Nat.mul_div_cancel _ hp]
section
variable [Globals]
theorem apU {A : List Nat} {X : Heap} {nl : Bool} (hA : A.length ≤ 1000000) : apO 102 1 4 (some 0) (sD A nl (some A.length)) (.slot :: X) (some ([.int .u32 0], 1)) = some (.hsl 0 0 (A.length + 1) ((A.length + 1) * 1) 1, rD (A ++ [0]) :: X) := by
  have h1 : (A.length + 1) * 4 ≤ roomBytes := Nat.le_trans (show (A.length + 1) * 4 ≤ 4000004 by omega) (by decide)
  have h2 : encD (A ++ [0]) = encD A ++ [.int .u32 0] := by rw [encD_append]; rfl
  unfold apO
  simp only [Option.bind_some]
  rw [if_neg (by omega), if_pos ⟨by omega, h1, by rw [encD_length, Nat.mul_one]⟩]
  rw [← h2]
  rfl
theorem div_ev (k : Nat) (a b : List Nat) (nl nl2 : Bool) (cap cap2 : Option Nat) (ha : okD a) (hb : Can b) (hb0 : b ≠ []) (hla : a.length ≤ 50000) (hlb : b.length ≤ 50000) (hk : a.length + b.length + 100 < k) :
    ∃ nl3 cap3 nl4 cap4, run (k+5) 134 [sD a nl cap, sD b nl2 cap2] = some (.tup [sD (dig (vd a / vd b)) nl3 cap3, sD (dig (vd a % vd b)) nl4 cap4, ii 0]) := by
  have htb := trim_ev (k + 3) b nl2 cap2 (by omega) (by omega)
  rw [hb.tr] at htb
  have hcm := cmp_can (k + 2) a b nl nl2 cap (some b.length) ha hb.ok (by omega) (by omega) (by omega)
  have hbl : 0 < b.length := List.length_pos_iff.2 hb0
  have hbz : ¬ (b.length : Int) = 0 := by omega
  have hlast := trim_last (l := b) (by rw [hb.tr]; exact hb0)
  rw [hb.tr] at hlast
  have hbp : 0 < vd b := by
    by_cases h : vd b = 0
    · exact absurd (can_zero hb h) hb0
    · omega
  simp only [run, ii] at htb hcm
  by_cases hlt : vd a < vd b
  · obtain ⟨nl3, cap3, hno⟩ := norm_ev (k + 2) a nl cap (by omega) (by omega)
    rw [dig_of ha] at hno
    have hc0 : cmpN (vd a) (vd b) < 0 := by unfold cmpN; rw [if_pos hlt]; decide
    rw [Nat.div_eq_of_lt hlt, Nat.mod_eq_of_lt hlt]
    refine ⟨true, some 0, nl3, cap3, ?_⟩
    simp only [run] at hno
    rw [run, ev134, ans_trim]
    simp only [Try.f134, ii, htb, hbz, hcm, hc0, hno, FT, Int.reduceEq, Int.reduceToNat, Int.reduceLE, Int.reduceLT, Int.reduceAdd, Int.reduceMul, Int.reduceSub, Int.reduceNeg, Nat.reduceAdd, Nat.reduceSub, Nat.reduceMul, Nat.reduceLT, Nat.reduceBEq, Nat.reduceEqDiff, Nat.reduceLeDiff]
    try rfl
  · have hc0 : ¬ cmpN (vd a) (vd b) < 0 := by unfold cmpN; rw [if_neg hlt]; split <;> decide
    by_cases h1 : b.length = 1
    · obtain ⟨d, hd⟩ : ∃ d, b = [d] := List.length_eq_one_iff.1 h1
      subst hd
      have hdv : vd [d] = d := by simp [vd]
      have hdB : d < 4294967296 := hb.ok d (by simp)
      have hd0 : 0 < d := by omega
      rw [hdv] at hc0 ⊢
      have hds := divs_ev (k + 2) a d nl cap ha hd0 hdB (by omega) (by omega)
      have hr := Nat.mod_lt (vd a) hd0
      obtain ⟨nl3, cap3, hno⟩ := norm_ev (k + 2) [vd a % d] false none (by simp) (by simp)
      have hro : okD [vd a % d] := fun x hx => by rw [List.mem_singleton.1 hx]; omega
      have hdo := dig_of hro
      rw [show vd [vd a % d] = vd a % d by simp [vd]] at hdo
      rw [hdo] at hno
      obtain ⟨H2, hdsx, _, hold⟩ := hand1 (k := k + 4) (f := 134) (r := 8) (i := 3) (id := 1) (g := 136) (a := [vd a % d]) (H := [.slot, rD [vd a % d]]) (by rfl) (by rfl) (by rfl) hno
      refine ⟨false, some (dig (vd a / d)).length, nl3, cap3, ?_⟩
      have henc : encD [vd a % d] = [.int .u32 ((vd a % d : Nat) : Int)] := rfl
      have henb : encD [d] = [.int .u32 (d : Int)] := rfl
      simp only [run, ii, sD, henb, List.length_cons, List.length_nil, Nat.reduceAdd] at hds htb hcm
      simp only [run, sD, rD, henc, List.length_cons, List.length_nil, Nat.reduceAdd] at hno hdsx
      rw [run, ev134, ans_trim]
      simp only [Try.f134, ii, sD, henb, List.length_cons, List.length_nil, htb, hcm, hdv, hc0, hds, hno, hdsx, strict_slice, strict_c, strict1_c, strict0_c, Nat.le_refl, FT, Int.reduceEq, Int.reduceToNat, Int.reduceLE, Int.reduceLT, Int.reduceAdd, Int.reduceMul, Int.reduceSub, Int.reduceNeg, Nat.reduceAdd, Nat.reduceSub, Nat.reduceMul, Nat.reduceLT, Nat.reduceBEq, Nat.reduceEqDiff, Nat.reduceLeDiff]
    · obtain ⟨m, hm⟩ : ∃ m, b.length = m + 2 := ⟨b.length - 2, by omega⟩
      have h1' : ¬ ((m + 2 : Nat) : Int) = 1 := by omega
      have h0' : ¬ ((m + 2 : Nat) : Int) = 0 := by omega
      have htl : b.getD (m + 1) 0 ≠ 0 := by rw [hm] at hlast; exact hlast
      have htB := okD_get hb.ok (m + 1)
      obtain ⟨s, hlz, hs32, hs1, hs2⟩ := lz32_ev (k + 2) (b.getD (m + 1) 0) (by omega) htB
      obtain ⟨g1, g2, g3⟩ := norm_shift hb.ok hm hs1 hs2 hs32
      have hsb := shl_ev (k + 2) b s nl2 (some b.length) hb.ok (by omega) (by omega) (by omega)
      have hsa := shl_ev (k + 2) a s nl cap ha (by omega) (by omega) (by omega)
      obtain ⟨V, hV⟩ : ∃ V, V = dig (vd b * 2 ^ s) := ⟨_, rfl⟩
      obtain ⟨A, hA⟩ : ∃ A, A = dig (vd a * 2 ^ s) := ⟨_, rfl⟩
      have hVv : vd V = vd b * 2 ^ s := by rw [hV, vd_dig]
      have hAv : vd A = vd a * 2 ^ s := by rw [hA, vd_dig]
      have hVo : okD V := by rw [hV]; exact (can_dig _).ok
      have hAo : okD A := by rw [hA]; exact (can_dig _).ok
      have hAl : m + 2 ≤ A.length := by
        rw [hA, ← g1]
        exact dig_len_mono (Nat.mul_le_mul_right _ (by omega))
      have hAu : A.length ≤ a.length + 1 := by
        rw [hA]
        refine dig_len ?_
        have h3 := vd_lt ha
        have h4 : 2 ^ s < 4294967296 := Nat.lt_of_lt_of_le (Nat.pow_lt_pow_right (by omega) hs32) (by decide)
        rw [Nat.pow_succ]
        exact Nat.mul_lt_mul'' h3 h4
      rw [← hV] at g1 g2 hsb
      rw [← hA] at hsa
      rw [← hVv] at g3
      have hst := div_start hAo hAl g3
      have hw1 : IntKind.wrap .i64 (((m + 2 : Nat) : Int) - 1) = ((m + 1 : Nat) : Int) := by rw [wrap64 (by omega) (by omega)]; omega
      have hw2 : IntKind.wrap .i64 (((A.length + 1 : Nat) : Int) - ((m + 2 : Nat) : Int)) = ((A.length + 1 - (m + 2) : Nat) : Int) := by rw [wrap64 (by omega) (by omega)]; omega
      have hw3 : IntKind.wrap .i64 (((A.length + 1 - (m + 2) : Nat) : Int) - 1) = ((A.length + 1 - (m + 2) : Nat) : Int) - 1 := by rw [wrap64 (by omega) (by omega)]
      have p1 : (0 : Int) ≤ ((m + 1 : Nat) : Int) := by omega
      have p2 : ((m + 1 : Nat) : Int) < ((m + 2 : Nat) : Int) := by omega
      have hbx := encD_get (l := b) (i := m + 1) (by omega)
      have helb := encD_length b
      have q1 : (0 : Int) ≤ ((A.length + 1 - (m + 2) : Nat) : Int) := by omega
      have q2 : (A.length + 1 - (m + 2)) * 4 ≤ roomBytes := Nat.le_trans (show (A.length + 1 - (m + 2)) * 4 ≤ 4000000 by omega) (by decide)
      have q3 : A.length + 1 - (m + 2) ≤ roomBytes := Nat.le_trans (show A.length + 1 - (m + 2) ≤ 1000000 by omega) (by decide)
      have hap := fun X : Heap => apU (A := A) (X := X) (nl := false) (by omega)
      simp only [run, ii, sD, hm, g1] at hlz hsb hsa htb hcm
      rw [run, ev134, ans_trim]
      simp only [Try.f134, ii, sD, hm, h1', h0', htb, hcm, hc0, hw1, p1, p2, hbx, helb, hlz, hsb, hsa, hap, hw2, hw3, q1, q2, q3, encD_rep0, g1, FT, Int.reduceEq, Int.reduceToNat, Int.reduceLE, Int.reduceLT, Int.reduceAdd, Int.reduceMul, Int.reduceSub, Int.reduceNeg, Nat.reduceAdd, Nat.reduceSub, Nat.reduceMul, Nat.reduceLT, Nat.reduceBEq, Nat.reduceEqDiff, Nat.reduceLeDiff]
      rw [evalCode_loopB LB134_16 lp134_16]; rotate_left; rfl; rfl; rfl
      generalize hz : loopR _ _ _ _ _ _ _ _ _ _ _ _ = z
      obtain ⟨l', U, O, rfl, e10, e13, e16, hI⟩ := loop_div (k + 2) V (A ++ [0]) (.c (.int .i64 0)) false (some (m + 2)) m (A.length + 1) s hVo g1 g2 (by simp) (by omega) (by omega) (by omega) _ hst _ _ z hz (by omega) (by rfl) (by rw [sD, g1]; rfl) (by rfl) (by rfl) (by rfl) (by
        rw [show ((A.length + 1 : Nat) : Int) - ((m + 2 : Nat) : Int) - 1 - 0 = ((A.length + 1 - (m + 2) : Nat) : Int) - 1 by omega]; rfl)
      clear hz
      rw [hVv] at hI
      obtain ⟨r1, r2⟩ := div_done hbp hI hAv
      have hUl := hI.ul
      have hOl := hI.ol
      have hdO := dig_of hI.oo
      rw [r1] at hdO
      obtain ⟨nl4, cap4, hsr⟩ := shr_ev (k + 2) U s false none hI.uo hs32 (by omega) (by omega)
      rw [r2] at hsr
      obtain ⟨H2, hd1, hl2, hold⟩ := hand12 (k := k + 4) (f := 134) (r := 19) (i := 2) (id := 0) (g := 146) (a := U) (x := .int .i64 (s : Int)) (H := [rD U, rD [0], rD O]) (by rfl) (by rfl) (by rfl) hsr
      have h22 := hold 2 (by omega)
      simp only [List.getElem?_cons_zero, List.getElem?_cons_succ] at h22
      obtain ⟨H3, hd2, _, _⟩ := trim_call (k := k + 3) (f := 134) (r := 20) (i := 1) (id := 2) (a := O) (H := H2) h22 (by omega) (by omega)
      have htr := trim_ev (k + 3) O false none (by omega) (by omega)
      rw [hdO] at hd2 htr
      have helU := encD_length U
      have helO := encD_length O
      have htU : (encD U).take U.length = encD U := List.take_of_length_le (by rw [helU]; exact Nat.le_refl _)
      have htO : (encD O).take O.length = encD O := List.take_of_length_le (by rw [helO]; exact Nat.le_refl _)
      refine ⟨false, some (dig (vd a / vd b)).length, nl4, cap4, ?_⟩
      simp only [run, ii, sD, rD, hUl, hOl] at hsr hd1 htr hd2 helU helO htU htO h22
      simp only [e10, e13, e16, ii, hsr, hd1, htr, hd2, helU, helO, htU, htO, h22, strict_slice, strict_c, strict1_c, strict0_c, strict_tup, Nat.le_refl, FT, Int.reduceEq, Int.reduceToNat, Int.reduceLE, Int.reduceLT, Int.reduceAdd, Int.reduceMul, Int.reduceSub, Int.reduceNeg, Nat.reduceAdd, Nat.reduceSub, Nat.reduceMul, Nat.reduceLT, Nat.reduceBEq, Nat.reduceEqDiff, Nat.reduceLeDiff]
end
end Go.Proofs.Sw.W
namespace Go.Proofs.Sw.W
open Go.Ab
theorem ediv_uniq {x y n m : Int} (hy : y ≠ 0) (h : y * n + m = x) (h0 : 0 ≤ m) (h1 : m < y.natAbs) : n = x / y ∧ m = x % y := by
  by_cases hp : 0 < y
  · have := (Int.ediv_emod_unique (a := x) (b := y) (r := m) (q := n) hp).2 ⟨by omega, h0, by omega⟩
    exact ⟨this.1.symm, this.2.symm⟩
  · have := (Int.ediv_emod_unique (a := x) (b := -y) (r := m) (q := -n) (by omega)).2 ⟨by rw [Int.neg_mul_neg]; omega, h0, by omega⟩
    rw [Int.ediv_neg, Int.emod_neg] at this
    exact ⟨by omega, this.2.symm⟩
def dN (x y : Int) : Int := sgn (!(decide (x < 0) == decide (y < 0))) (x.natAbs / y.natAbs)
def dM (x y : Int) : Int := sgn (decide (x < 0)) (x.natAbs % y.natAbs)
theorem dNM (x y : Int) (hy : y ≠ 0) : (dM x y < 0 → dN x y - (if y < 0 then -1 else if 0 < y then 1 else 0) = x / y ∧ dM x y + y.natAbs = x % y) ∧ (¬ dM x y < 0 → dN x y = x / y ∧ dM x y = x % y) := by
  obtain ⟨X, hX⟩ : ∃ X, X = x.natAbs := ⟨_, rfl⟩
  obtain ⟨Y, hY⟩ : ∃ Y, Y = y.natAbs := ⟨_, rfl⟩
  have hYp : 0 < Y := by omega
  have h1 := Nat.div_add_mod X Y
  have h2 := Nat.mod_lt X hYp
  unfold dN dM
  rw [← hX, ← hY]
  obtain ⟨q, hq⟩ : ∃ q, q = X / Y := ⟨_, rfl⟩
  obtain ⟨r, hr⟩ : ∃ r, r = X % Y := ⟨_, rfl⟩
  rw [← hq, ← hr] at h1 ⊢
  rw [← hr] at h2
  obtain ⟨Z, hZ⟩ : ∃ Z : Int, Z = (Y : Int) * (q : Int) := ⟨_, rfl⟩
  have hZ1 : Z + r = X := by rw [hZ, ← Int.natCast_mul]; omega
  by_cases hx : x < 0 <;> by_cases hyn : y < 0
  · have ey : y = -(Y : Int) := by omega
    have ex : x = -(X : Int) := by omega
    simp only [hx, hyn, decide_true, sgn, if_true]
    constructor
    · intro hm
      refine ediv_uniq hy ?_ (by omega) (by omega)
      rw [ey, Int.mul_sub, Int.neg_mul]
      simp
      omega
    · intro hm
      refine ediv_uniq hy ?_ (by omega) (by omega)
      rw [ey, Int.neg_mul]
      simp
      omega
  · have ey : y = (Y : Int) := by omega
    have ex : x = -(X : Int) := by omega
    have hyp : 0 < y := by omega
    simp only [hx, hyn, hyp, decide_true, decide_false, sgn, if_true, if_false]
    constructor
    · intro hm
      refine ediv_uniq hy ?_ (by omega) (by omega)
      rw [ey, Int.mul_sub]
      simp [Int.mul_neg]
      omega
    · intro hm
      refine ediv_uniq hy ?_ (by omega) (by omega)
      rw [ey]
      simp [Int.mul_neg]
      omega
  · have ey : y = -(Y : Int) := by omega
    have ex : x = (X : Int) := by omega
    simp only [hx, hyn, decide_true, decide_false, sgn, if_true]
    constructor
    · intro hm
      exfalso
      simp at hm
      omega
    · intro hm
      refine ediv_uniq hy ?_ (by simp) (by simp; omega)
      rw [ey]
      simp [Int.neg_mul, Int.mul_neg]
      omega
  · have ey : y = (Y : Int) := by omega
    have ex : x = (X : Int) := by omega
    simp only [hx, hyn, decide_false, sgn]
    constructor
    · intro hm
      exfalso
      simp at hm
      omega
    · intro hm
      refine ediv_uniq hy ?_ (by simp) (by simp; omega)
      rw [ey]
      simp
      omega
section
variable [Globals]
theorem nD_sgn (b : Bool) (n : Nat) : nD (sgn b n) = dig n := by rw [nD, sgn_abs]
theorem nD_one {c : Int} (h : c.natAbs ≤ 1) : (nD c).length ≤ 1 := dig_len (k := 1) (by omega)
theorem DivMod_ev (k : Nat) (x y : RI) (hy : y.v ≠ 0) (hx : (nD x.v).length ≤ 40000) (hyl : (nD y.v).length ≤ 40000) (hk : (nD x.v).length + (nD y.v).length + 120 < k) :
    ∃ z w : RI, z.v = x.v / y.v ∧ w.v = x.v % y.v ∧ run (k+7) 119 [aW x, aW y] = some (.tup [aW z, aW w, ii 0]) := by
  obtain ⟨nl3, cap3, nl4, cap4, hd⟩ := div_ev (k + 1) (nD x.v) (nD y.v) x.nl y.nl x.cap y.cap (can_dig _).ok (can_dig _) (dig_pos (by omega)) (by omega) (by omega) (by omega)
  rw [vd_dig, vd_dig] at hd
  have hm1 := made_ev (k + 5) (!(decide (x.v < 0) == decide (y.v < 0))) (x.v.natAbs / y.v.natAbs) nl3 cap3
  have hm2 := made_ev (k + 5) (decide (x.v < 0)) (x.v.natAbs % y.v.natAbs) nl4 cap4
  have hval := dNM x.v y.v hy
  have hnl : (nD (dN x.v y.v)).length ≤ 40000 := by
    rw [dN, nD_sgn]
    exact Nat.le_trans (dig_len_mono (Nat.div_le_self _ _)) hx
  have hml : (nD (dM x.v y.v)).length ≤ 40000 := by
    rw [dM, nD_sgn]
    exact Nat.le_trans (dig_len_mono (Nat.mod_le _ _)) hx
  have hnl2 : (nD (dN x.v y.v)).length ≤ (nD x.v).length := by
    rw [dN, nD_sgn]
    exact dig_len_mono (Nat.div_le_self _ _)
  have hml2 : (nD (dM x.v y.v)).length ≤ (nD x.v).length := by
    rw [dM, nD_sgn]
    exact dig_len_mono (Nat.mod_le _ _)
  rw [show sgn (!(decide (x.v < 0) == decide (y.v < 0))) (x.v.natAbs / y.v.natAbs) = dN x.v y.v from rfl] at hm1
  rw [show sgn (decide (x.v < 0)) (x.v.natAbs % y.v.natAbs) = dM x.v y.v from rfl] at hm2
  obtain ⟨n0, hn0⟩ : ∃ n0 : RI, n0 = ⟨dN x.v y.v, nl3, cap3⟩ := ⟨_, rfl⟩
  obtain ⟨m0, hm0⟩ : ∃ m0 : RI, m0 = ⟨dM x.v y.v, nl4, cap4⟩ := ⟨_, rfl⟩
  have hn0v : n0.v = dN x.v y.v := by rw [hn0]
  have hm0v : m0.v = dM x.v y.v := by rw [hm0]
  rw [← hn0] at hm1
  rw [← hm0] at hm2
  by_cases hneg : dM x.v y.v < 0
  · obtain ⟨ab, hab, h1⟩ := Abs_ev (k + 4) y
    have habl : (nD ab.v).length = (nD y.v).length := by rw [hab]; simp [nD]
    obtain ⟨w, hw, h2⟩ := Add_ev (k + 2) m0 ab (by rw [hm0v]; omega) (by omega) (by rw [hm0v]; omega)
    have h3 := Sign_ev (k + 5) y
    obtain ⟨sg, hsg⟩ : ∃ sg : Int, sg = (if y.v < 0 then -1 else if 0 < y.v then 1 else 0) := ⟨_, rfl⟩
    have hsg1 : sg.natAbs ≤ 1 := by rw [hsg]; split <;> (try split) <;> decide
    rw [← hsg] at h3 hval
    obtain ⟨o, ho, h4⟩ := Of_ev (k + 2) sg (by omega) (by omega) (by omega)
    have hol := nD_one (c := o.v) (by rw [ho]; exact hsg1)
    obtain ⟨z, hz, h5⟩ := Sub_ev (k + 1) n0 o (by rw [hn0v]; omega) (by omega) (by rw [hn0v]; omega)
    obtain ⟨v1, v2⟩ := hval.1 hneg
    refine ⟨z, w, by rw [hz, hn0v, ho, v1], by rw [hw, hm0v, hab, v2], ?_⟩
    have hneg' : m0.v < 0 := by rw [hm0v]; exact hneg
    simp only [run, aW, bb, ii, hneg', decide_true] at hd hm1 hm2 h1 h2 h3 h4 h5
    rw [run, ev119, ans_trim]
    simp only [Try.f119, aW, bb, ii, hd, FT, Int.reduceEq, Int.reduceToNat, Int.reduceLE, Int.reduceLT, Int.reduceAdd, Int.reduceMul, Int.reduceSub, Int.reduceNeg, Nat.reduceAdd, Nat.reduceSub, Nat.reduceMul, Nat.reduceLT, Nat.reduceBEq, Nat.reduceEqDiff, Nat.reduceLeDiff]
    rw [evalCode_drawn Try.f119 4 dr119_4]; rotate_left; rfl
    simp (config := { maxSteps := 1000000 }) only [hm1, hm2, hneg', decide_true, EVd, List.getElem?_nil, Nat.reducePow, Nat.reduceDiv, Nat.reduceMod, FT, Int.reduceEq, Int.reduceToNat, Int.reduceLE, Int.reduceLT, Int.reduceAdd, Int.reduceMul, Int.reduceSub, Int.reduceNeg, Nat.reduceAdd, Nat.reduceSub, Nat.reduceMul, Nat.reduceLT, Nat.reduceBEq, Nat.reduceEqDiff, Nat.reduceLeDiff]
    rw [evalCode_drawn Try.f119 6 dr119_6]; rotate_left; rfl
    simp (config := { maxSteps := 1000000 }) only [h1, h2, EVd, List.getElem?_nil, Nat.reducePow, Nat.reduceDiv, Nat.reduceMod, FT, Int.reduceEq, Int.reduceToNat, Int.reduceLE, Int.reduceLT, Int.reduceAdd, Int.reduceMul, Int.reduceSub, Int.reduceNeg, Nat.reduceAdd, Nat.reduceSub, Nat.reduceMul, Nat.reduceLT, Nat.reduceBEq, Nat.reduceEqDiff, Nat.reduceLeDiff]
    rw [evalCode_drawn Try.f119 7 dr119_7]; rotate_left; rfl
    simp (config := { maxSteps := 1000000 }) only [h3, h4, h5, EVd, List.getElem?_nil, Nat.reducePow, Nat.reduceDiv, Nat.reduceMod, FT, Int.reduceEq, Int.reduceToNat, Int.reduceLE, Int.reduceLT, Int.reduceAdd, Int.reduceMul, Int.reduceSub, Int.reduceNeg, Nat.reduceAdd, Nat.reduceSub, Nat.reduceMul, Nat.reduceLT, Nat.reduceBEq, Nat.reduceEqDiff, Nat.reduceLeDiff]
    rw [evalCode_drawn Try.f119 8 dr119_8]; rotate_left; rfl
    simp (config := { maxSteps := 1000000 }) only [aW, bb, EVd, List.getElem?_nil, Nat.reducePow, Nat.reduceDiv, Nat.reduceMod, FT, Int.reduceEq, Int.reduceToNat, Int.reduceLE, Int.reduceLT, Int.reduceAdd, Int.reduceMul, Int.reduceSub, Int.reduceNeg, Nat.reduceAdd, Nat.reduceSub, Nat.reduceMul, Nat.reduceLT, Nat.reduceBEq, Nat.reduceEqDiff, Nat.reduceLeDiff]
  · obtain ⟨v1, v2⟩ := hval.2 hneg
    refine ⟨n0, m0, by rw [hn0v, v1], by rw [hm0v, v2], ?_⟩
    have hneg' : ¬ m0.v < 0 := by rw [hm0v]; exact hneg
    simp only [run, aW, bb, ii, hneg', decide_false] at hd hm1 hm2
    rw [run, ev119, ans_trim]
    simp only [Try.f119, aW, bb, ii, hd, FT, Int.reduceEq, Int.reduceToNat, Int.reduceLE, Int.reduceLT, Int.reduceAdd, Int.reduceMul, Int.reduceSub, Int.reduceNeg, Nat.reduceAdd, Nat.reduceSub, Nat.reduceMul, Nat.reduceLT, Nat.reduceBEq, Nat.reduceEqDiff, Nat.reduceLeDiff]
    rw [evalCode_drawn Try.f119 4 dr119_4]; rotate_left; rfl
    simp (config := { maxSteps := 1000000 }) only [hm1, hm2, hneg', decide_false, EVd, List.getElem?_nil, Nat.reducePow, Nat.reduceDiv, Nat.reduceMod, FT, Int.reduceEq, Int.reduceToNat, Int.reduceLE, Int.reduceLT, Int.reduceAdd, Int.reduceMul, Int.reduceSub, Int.reduceNeg, Nat.reduceAdd, Nat.reduceSub, Nat.reduceMul, Nat.reduceLT, Nat.reduceBEq, Nat.reduceEqDiff, Nat.reduceLeDiff]
    rw [evalCode_drawn Try.f119 8 dr119_8]; rotate_left; rfl
    simp (config := { maxSteps := 1000000 }) only [aW, bb, hneg', decide_false, EVd, List.getElem?_nil, Nat.reducePow, Nat.reduceDiv, Nat.reduceMod, FT, Int.reduceEq, Int.reduceToNat, Int.reduceLE, Int.reduceLT, Int.reduceAdd, Int.reduceMul, Int.reduceSub, Int.reduceNeg, Nat.reduceAdd, Nat.reduceSub, Nat.reduceMul, Nat.reduceLT, Nat.reduceBEq, Nat.reduceEqDiff, Nat.reduceLeDiff]
theorem power_ev (k n : Nat) (hn : n ≤ 1000) (hk : n + 50 < k) : ∃ z : RI, z.v = ((2 ^ n : Nat) : Int) ∧ run (k+6) 129 [ii n] = some (aW z) := by
  obtain ⟨o, ho, h1⟩ := Of_ev (k + 1) 1 (by omega) (by omega) (by omega)
  have hol : (dig o.v.natAbs).length ≤ 1 := nD_one (by rw [ho]; decide)
  have h2 := shl_ev (k + 2) (dig o.v.natAbs) n o.nl o.cap (can_dig _).ok (by omega) (by omega) (by omega)
  rw [vd_dig, ho, show Int.natAbs 1 * 2 ^ n = 2 ^ n by simp] at h2
  have h3 := made_ev (k + 3) false (2 ^ n) false (some (dig (2 ^ n)).length)
  refine ⟨⟨sgn false (2 ^ n), false, some (dig (2 ^ n)).length⟩, by simp [sgn], ?_⟩
  have hn1 : ¬ o.v < 0 := by omega
  have hsh : run (k + 5) 141 [aW o, ii n] = some (.tup [aW ⟨sgn false (2 ^ n), false, some (dig (2 ^ n)).length⟩, ii 0]) := by
    simp only [run, aW, bb, ii, ho] at h2 h3
    rw [run, ev141, ans_trim]
    simp only [Try.f141, aW, bb, ii, ho, h2, h3, FT, Int.reduceEq, Int.reduceToNat, Int.reduceLE, Int.reduceLT, Int.reduceAdd, Int.reduceMul, Int.reduceSub, Int.reduceNeg, Nat.reduceAdd, Nat.reduceSub, Nat.reduceMul, Nat.reduceLT, Nat.reduceBEq, Nat.reduceEqDiff, Nat.reduceLeDiff]
    try simp only [show ¬ (1 : Int) < 0 by decide, decide_false, h3, FT, Int.reduceEq, Int.reduceToNat, Int.reduceLE, Int.reduceLT, Int.reduceAdd, Int.reduceMul, Int.reduceSub, Int.reduceNeg, Nat.reduceAdd, Nat.reduceSub, Nat.reduceMul, Nat.reduceLT, Nat.reduceBEq, Nat.reduceEqDiff, Nat.reduceLeDiff]
  simp only [run, aW, bb, ii] at h1 hsh
  rw [run, ev129, ans_trim]
  simp only [Try.f129, aW, bb, ii, h1, hsh, FT, Int.reduceEq, Int.reduceToNat, Int.reduceLE, Int.reduceLT, Int.reduceAdd, Int.reduceMul, Int.reduceSub, Int.reduceNeg, Nat.reduceAdd, Nat.reduceSub, Nat.reduceMul, Nat.reduceLT, Nat.reduceBEq, Nat.reduceEqDiff, Nat.reduceLeDiff]
end
end Go.Proofs.Sw.W
namespace Go.Proofs.Sw
open Go.Ab
variable [Globals]
structure Sem (α : Type) where
  f : Int → Int → α → α → Option α
  d : α
  G : α → Prop
  one : ∀ c a b, f 1 c a b = some a
  two : ∀ o c a b b', o ≠ 3 → o ≠ 4 → f o c a b = f o c a b'
  comm : ∀ c a b, G a → G b → f 3 c a b = f 3 c b a
  good : ∀ o c a b v, G a → G b → f o c a b = some v → G v
  gd : G d
section
variable {α : Type} (M : Sem α)
def stepE (R : List α) (x : Ins) : Option (List α) := (M.f x.op x.c (R.getD x.a.toNat M.d) (R.getD x.b.toNat M.d)).map fun v => R.set x.to.toNat v
def runE : List Ins → List α → Option (List α)
  | [], R => some R
  | x :: l, R => match stepE M R x with
    | some Q => runE l Q
    | none => none
theorem runE_append : ∀ (a b : List Ins) (R : List α), runE M (a ++ b) R = (runE M a R).bind (runE M b)
  | [], b, R => rfl
  | x :: a, b, R => by
    rw [List.cons_append, runE, runE]
    cases stepE M R x with
    | none => rfl
    | some Q => exact runE_append a b Q
theorem runE_snoc (a : List Ins) (x : Ins) (R : List α) : runE M (a ++ [x]) R = (runE M a R).bind (fun Q => stepE M Q x) := by
  rw [runE_append]
  cases runE M a R with
  | none => rfl
  | some Q =>
    show runE M [x] Q = stepE M Q x
    rw [runE]
    cases stepE M Q x <;> rfl
theorem getDA_set {l : List α} {i k : Nat} {v d : α} (hi : i < l.length) : (l.set i v).getD k d = if k = i then v else l.getD k d := by
  rw [List.getD_eq_getElem?_getD, List.getD_eq_getElem?_getD, List.getElem?_set]
  by_cases h : i = k
  · subst h; simp [hi]
  · simp [h, show ¬ k = i from fun e => h e.symm]
theorem set_getD {l : List α} {i : Nat} {d : α} (hi : i < l.length) : l.set i (l.getD i d) = l := by
  rw [List.getD_eq_getElem?_getD, List.getElem?_eq_getElem hi]
  exact List.set_getElem_self hi
end
end Go.Proofs.Sw
namespace Go.Proofs.Sw
open Go.Ab
variable [Globals]
theorem all_of {α : Type} {l : List α} {p : α → Bool} (h : ∀ j, (h : j < l.length) → p l[j] = true) : l.all p = true := by
  rw [List.all_eq_true]
  intro x hx
  obtain ⟨j, hj, rfl⟩ := List.getElem_of_mem hx
  exact h j hj
theorem all_not {α : Type} {l : List α} {p : α → Bool} {i : Nat} (h : i < l.length) (hp : p l[i] = false) : l.all p = false := by
  rw [List.all_eq_false]; exact ⟨l[i], List.getElem_mem h, by simp [hp]⟩
theorem loop_Check_10 (kf : Nat) (hkf : 4 ≤ kf) (ins regs : Int) (ov : IV) (code : List Ins) (nl : Bool) (cap : Option Nat) (hlen : code.length ≤ 4611686018427387904) (k : Nat) (l : Ass) (H : Heap) (z : Option Out)
    (hz : loopR Try.prog tab kf none LB62_10 62 72 [1, 58, 59, 60] 1 k l H = z) (hk : code.length < k)
    (h1 : asc l 1 = .ptr 0 0) (h58 : asc l 58 = sC code nl cap) (h59 : asc l 59 = ii code.length) (h60 : asc l 60 = ii (0 : Nat)) (hH : H = [cP ins regs (sC code nl cap) (.c ov)]) :
    ∃ l' H', (z = some (.exit 2 (fr 72 l') H') ∧ code.all (fun i => mayM i regs) = true) ∨
      (z = some (.ret (fr 72 l') H') ∧ (∃ n, asc l' 2 = ii n) ∧ asc l' 3 = ii 80 ∧ code.all (fun i => mayM i regs) = false) := by
  subst hz
  obtain ⟨kf, rfl⟩ : ∃ j, kf = j + 4 := ⟨kf - 4, by omega⟩
  refine loop_nat code.length (fun k l H => loopR Try.prog tab (kf + 4) none LB62_10 62 72 [1, 58, 59, 60] 1 k l H)
    (fun i l H => asc l 1 = .ptr 0 0 ∧ asc l 58 = sC code nl cap ∧ asc l 59 = ii code.length ∧ asc l 60 = ii i ∧ (∀ j, (h : j < i) → ∀ h2 : j < code.length, mayM code[j] regs = true) ∧ H.take 1 = [cP ins regs (sC code nl cap) (.c ov)])
    (fun z => ∃ l' H', (z = some (.exit 2 (fr 72 l') H') ∧ code.all (fun i => mayM i regs) = true) ∨
      (z = some (.ret (fr 72 l') H') ∧ (∃ n, asc l' 2 = ii n) ∧ asc l' 3 = ii 80 ∧ code.all (fun i => mayM i regs) = false)) ?_ code.length 0 k l H (by omega) hk ⟨h1, h58, h59, h60, fun j h => absurd h (by omega), by rw [hH]; rfl⟩
  clear h1 h58 h59 h60 hk hH
  rintro i k l H hi ⟨h1, h58, h59, h60, hp, hH⟩
  have ht : trim 1 (fr 72 (keep l [1, 58, 59, 60])) H = [cP ins regs (sC code nl cap) (.c ov)] := by
    rw [trim_fr (by simp only [h1, h58, h59, h60, EVb, EVc, Int.reduceEq, Int.reduceToNat, Int.reduceLE, Int.reduceLT, Int.reduceAdd, Int.reduceMul, Int.reduceSub, Int.reduceNeg, Nat.reduceAdd, Nat.reduceSub, Nat.reduceMul, Nat.reduceLT, Nat.reduceBEq, Nat.reduceEqDiff, Nat.reduceLeDiff]) (by rw [hH]; simp only [EVb, EVc, Int.reduceEq, Int.reduceToNat, Int.reduceLE, Int.reduceLT, Int.reduceAdd, Int.reduceMul, Int.reduceSub, Int.reduceNeg, Nat.reduceAdd, Nat.reduceSub, Nat.reduceMul, Nat.reduceLT, Nat.reduceBEq, Nat.reduceEqDiff, Nat.reduceLeDiff]), hH]
  by_cases hc : i < code.length
  · have hc' : ((i : Int) < code.length) := by omega
    have hc0 : (0 : Int) ≤ i := by omega
    have hx := encCode_get hc
    have hw := wrap_succ hc hlen
    obtain ⟨x, hX⟩ : ∃ x, x = code[i] := ⟨_, rfl⟩
    rw [← hX] at hx
    have hm := may_ev kf x.op x.to x.a x.b x.c regs
    simp only [run, aI, ii, bb] at hm
    cases hd : mayM x regs with
    | false =>
      rw [show mayM ⟨x.op, x.to, x.a, x.b, x.c⟩ regs = false from hd] at hm
      refine .inl ?_
      simp only [loopR_succ, ht]
      simp only [h1, h58, h59, h60, hc', hc0, hx, hm, loopR_succ, loopOf, findLoop, firstRegion, Option.some_or, Option.none_or, Option.getD_some, Option.some.injEq, Try.f62, FT, Int.reduceEq, Int.reduceToNat, Int.reduceLE, Int.reduceLT, Int.reduceAdd, Int.reduceMul, Int.reduceSub, Int.reduceNeg, Nat.reduceAdd, Nat.reduceSub, Nat.reduceMul, Nat.reduceLT, Nat.reduceBEq, Nat.reduceEqDiff, Nat.reduceLeDiff]
      exact ⟨_, _, .inr ⟨rfl, ⟨_, rfl⟩, (by rfl), all_not hc (by rw [← hX]; exact hd)⟩⟩
    | true =>
      rw [show mayM ⟨x.op, x.to, x.a, x.b, x.c⟩ regs = true from hd] at hm
      refine .inr ?_
      simp only [loopR_succ, ht]
      simp only [h1, h58, h59, h60, hc', hc0, hx, hm, hw, loopR_succ, loopOf, findLoop, firstRegion, Option.some_or, Option.none_or, Option.getD_some, Option.some.injEq, Try.f62, FT, Int.reduceEq, Int.reduceToNat, Int.reduceLE, Int.reduceLT, Int.reduceAdd, Int.reduceMul, Int.reduceSub, Int.reduceNeg, Nat.reduceAdd, Nat.reduceSub, Nat.reduceMul, Nat.reduceLT, Nat.reduceBEq, Nat.reduceEqDiff, Nat.reduceLeDiff]
      refine ⟨_, _, hc, rfl, (by rfl), (by rfl), (by rfl), (by rfl), fun j hj h2 => ?_, (by rfl)⟩
      by_cases e : j = i
      · subst e; rw [← hX]; exact hd
      · exact hp j (by omega) h2
  · have hc' : ¬ ((i : Int) < code.length) := by omega
    refine .inl ?_
    simp only [loopR_succ, ht]
    simp only [h1, h58, h59, h60, hc', loopR_succ, loopOf, findLoop, firstRegion, Option.some_or, Option.none_or, Option.getD_some, Option.some.injEq, Try.f62, FT, Int.reduceEq, Int.reduceToNat, Int.reduceLE, Int.reduceLT, Int.reduceAdd, Int.reduceMul, Int.reduceSub, Int.reduceNeg, Nat.reduceAdd, Nat.reduceSub, Nat.reduceMul, Nat.reduceLT, Nat.reduceBEq, Nat.reduceEqDiff, Nat.reduceLeDiff]
    exact ⟨_, _, .inl ⟨rfl, all_of fun j hj => hp j (by omega) hj⟩⟩
theorem check_ev (k : Nat) (p : Pg) (nl : Bool) (cap : Option Nat) (nl2 : Bool) (cap2 : Option Nat) (hk : p.outs.length + p.code.length + 10 ≤ k) :
    ∃ n, run (k+1) 62 [aP p nl cap nl2 cap2] = some (.tup [ii n, ii (checkE p)]) := by
  obtain ⟨ins, regs, code, outs⟩ := p
  simp only at hk
  rw [run, ev62, ans_trim]
  simp only [Try.f62, aP, ii, bb, EVb, condO_ite, Int.reduceEq, Int.reduceToNat, Int.reduceLE, Int.reduceLT, Int.reduceAdd, Int.reduceMul, Int.reduceSub, Int.reduceNeg, Nat.reduceAdd, Nat.reduceSub, Nat.reduceMul, Nat.reduceLT, Nat.reduceBEq, Nat.reduceEqDiff, Nat.reduceLeDiff, FACTS, TYPES]
  by_cases hm : headM ⟨ins, regs, code, outs⟩ = true
  · have hm' := hm
    simp only [headM, decide_eq_true_eq] at hm'
    have q1 : ¬ ins < 1 := by omega
    have q2 : ¬ regs < ins := by omega
    have q3 : ¬ 128 < regs := by omega
    have q4 : ¬ (16384 : Int) < code.length := by omega
    have q5 : ¬ (outs.length : Int) < 1 := by omega
    have q6 : ¬ (128 : Int) < outs.length := by omega
    simp only [q1, q2, q3, q4, q5, q6, FT, Int.reduceEq, Int.reduceToNat, Int.reduceLE, Int.reduceLT, Int.reduceAdd, Int.reduceMul, Int.reduceSub, Int.reduceNeg, Nat.reduceAdd, Nat.reduceSub, Nat.reduceMul, Nat.reduceLT, Nat.reduceBEq, Nat.reduceEqDiff, Nat.reduceLeDiff]
    rw [evalCode_loopB LB62_4 lp62_4]; rotate_left; rfl; rfl; rfl
    generalize hz : loopR _ _ _ _ _ _ _ _ _ _ _ _ = z
    obtain ⟨l1, ⟨rfl, g1, ho⟩ | ⟨rfl, g1, g2, ho⟩⟩ := loop_Check_4 k ins regs (sC code nl cap) (sI outs nl2 cap2) outs nl2 cap2 (by omega) _ _ _ z hz (by omega) (by rfl) (by rfl) (by rfl) (by rfl) (by rfl)
    · simp only [g1, FT, Int.reduceEq, Int.reduceToNat, Int.reduceLE, Int.reduceLT, Int.reduceAdd, Int.reduceMul, Int.reduceSub, Int.reduceNeg, Nat.reduceAdd, Nat.reduceSub, Nat.reduceMul, Nat.reduceLT, Nat.reduceBEq, Nat.reduceEqDiff, Nat.reduceLeDiff]
      clear hz
      rw [evalCode_loopB LB62_10 lp62_10]; rotate_left; rfl; rfl; rfl
      generalize hz : loopR _ _ _ _ _ _ _ _ _ _ _ _ = z
      obtain ⟨l2, H2, ⟨rfl, hc⟩ | ⟨rfl, ⟨n, g2⟩, g3, hc⟩⟩ := loop_Check_10 k (by omega) ins regs (.slice (encInts outs) outs.length nl2 cap2) code nl cap (by omega) _ _ _ z hz (by omega) (by exact g1) (by rfl) (by rfl) (by rfl) (by rfl)
      · refine ⟨0, ?_⟩
        simp only [FT, Int.reduceEq, Int.reduceToNat, Int.reduceLE, Int.reduceLT, Int.reduceAdd, Int.reduceMul, Int.reduceSub, Int.reduceNeg, Nat.reduceAdd, Nat.reduceSub, Nat.reduceMul, Nat.reduceLT, Nat.reduceBEq, Nat.reduceEqDiff, Nat.reduceLeDiff]
        simp [checkE, rightM, hm, show outsM ⟨ins, regs, code, outs⟩ = _ from ho, show codeM ⟨ins, regs, code, outs⟩ = _ from hc]
      · refine ⟨n, ?_⟩
        simp only [g2, g3, FT, Int.reduceEq, Int.reduceToNat, Int.reduceLE, Int.reduceLT, Int.reduceAdd, Int.reduceMul, Int.reduceSub, Int.reduceNeg, Nat.reduceAdd, Nat.reduceSub, Nat.reduceMul, Nat.reduceLT, Nat.reduceBEq, Nat.reduceEqDiff, Nat.reduceLeDiff]
        simp [checkE, rightM, hm, show outsM ⟨ins, regs, code, outs⟩ = _ from ho, show codeM ⟨ins, regs, code, outs⟩ = _ from hc]
    · refine ⟨-1, ?_⟩
      simp only [g1, g2, FT, Int.reduceEq, Int.reduceToNat, Int.reduceLE, Int.reduceLT, Int.reduceAdd, Int.reduceMul, Int.reduceSub, Int.reduceNeg, Nat.reduceAdd, Nat.reduceSub, Nat.reduceMul, Nat.reduceLT, Nat.reduceBEq, Nat.reduceEqDiff, Nat.reduceLeDiff]
      simp [checkE, rightM, hm, show outsM ⟨ins, regs, code, outs⟩ = _ from ho]
  · refine ⟨-1, ?_⟩
    have hr : checkE ⟨ins, regs, code, outs⟩ = 80 := by simp [checkE, rightM, hm]
    rw [hr]
    simp only [headM, decide_eq_true_eq] at hm
    repeat' (first
    | (rw [condO_dec]; split <;> simp only [*, FT, Int.reduceEq, Int.reduceToNat, Int.reduceLE, Int.reduceLT, Int.reduceAdd, Int.reduceMul, Int.reduceSub, Int.reduceNeg, Nat.reduceAdd, Nat.reduceSub, Nat.reduceMul, Nat.reduceLT, Nat.reduceBEq, Nat.reduceEqDiff, Nat.reduceLeDiff])
    | (rw [condO_ite]; split <;> simp only [*, FT, Int.reduceEq, Int.reduceToNat, Int.reduceLE, Int.reduceLT, Int.reduceAdd, Int.reduceMul, Int.reduceSub, Int.reduceNeg, Nat.reduceAdd, Nat.reduceSub, Nat.reduceMul, Nat.reduceLT, Nat.reduceBEq, Nat.reduceEqDiff, Nat.reduceLeDiff])
    | (split <;> simp only [*, FT, Int.reduceEq, Int.reduceToNat, Int.reduceLE, Int.reduceLT, Int.reduceAdd, Int.reduceMul, Int.reduceSub, Int.reduceNeg, Nat.reduceAdd, Nat.reduceSub, Nat.reduceMul, Nat.reduceLT, Nat.reduceBEq, Nat.reduceEqDiff, Nat.reduceLeDiff]))
    all_goals first
      | rfl
      | (exfalso; omega)
theorem right_ev (k : Nat) (p : Pg) (nl : Bool) (cap : Option Nat) (nl2 : Bool) (cap2 : Option Nat) (hk : p.outs.length + p.code.length + 11 ≤ k) :
    run (k+1) 85 [aP p nl cap nl2 cap2] = some (bb (rightM p)) := by
  obtain ⟨k, rfl⟩ : ∃ j, k = j + 1 := ⟨k - 1, by omega⟩
  obtain ⟨n, hc⟩ := check_ev k p nl cap nl2 cap2 (by omega)
  simp only [run, aP, ii, bb] at hc
  rw [run, ev85, ans_trim]
  simp only [Try.f85, aP, ii, bb, hc, FT, Int.reduceEq, Int.reduceToNat, Int.reduceLE, Int.reduceLT, Int.reduceAdd, Int.reduceMul, Int.reduceSub, Int.reduceNeg, Nat.reduceAdd, Nat.reduceSub, Nat.reduceMul, Nat.reduceLT, Nat.reduceBEq, Nat.reduceEqDiff, Nat.reduceLeDiff]
  cases hr : rightM p <;> simp [checkE, hr]
end Go.Proofs.Sw
namespace Go.Proofs.Sw
open Go.Ab
variable [Globals]
abbrev hI (id n : Nat) : AV := .hsl id 0 n n 1
theorem encInts_set {l : List Int} {r : Nat} {v : Int} : (encInts l).set r (.int .i64 v) = encInts (l.set r v) := by simp [encInts, List.map_set]
theorem mayM_facts {i : Ins} {regs : Int} (h : mayM i regs = true) : (1 ≤ i.op ∧ i.op ≤ 8) ∧ (0 ≤ i.to ∧ i.to < regs) ∧ (0 ≤ i.a ∧ i.a < regs) ∧ (i.op = 3 ∨ i.op = 4 → 0 ≤ i.b ∧ i.b < regs) := by
  simp only [mayM, Bool.and_eq_true, decide_eq_true_eq] at h
  obtain ⟨⟨⟨⟨m1, m2, m3, m4, m5⟩, _⟩, m6⟩, m7⟩ := h
  exact ⟨⟨m1, m2⟩, ⟨m3, m4⟩, m6, m7⟩
end Go.Proofs.Sw
namespace Go.Proofs.Sw.W
open Go.Ab
def numF (op c a b : Int) : Option Int :=
  if op = 2 then some (-a) else if op = 3 then some (a + b) else if op = 4 then some (a - b) else
  if op = 5 then some (a * c) else if op = 7 then some (a * ((2 ^ c.toNat : Nat) : Int)) else
  if op = 6 then (if a % c = 0 then some (a / c) else none) else
  if op = 8 then (if a % ((2 ^ c.toNat : Nat) : Int) = 0 then some (a / ((2 ^ c.toNat : Nat) : Int)) else none) else some a
def numSem : Sem Int where
  f := numF
  d := 0
  G := fun _ => True
  one := fun c a b => rfl
  two := fun o c a b b' h3 h4 => by simp only [numF, h3, h4, if_false]
  comm := fun c a b _ _ => by show some _ = some _; rw [Int.add_comm]
  good := fun _ _ _ _ _ _ _ _ => trivial
  gd := trivial
section
variable [Globals]
theorem nD_lt (x : Int) : x.natAbs < 4294967296 ^ (nD x).length := by
  have := vd_lt (can_dig x.natAbs).ok
  rwa [vd_dig] at this
theorem nD_mul (x y : Int) : (nD (x * y)).length ≤ (nD x).length + (nD y).length := by
  refine dig_len ?_
  rw [Int.natAbs_mul, Nat.pow_add]
  exact Nat.mul_lt_mul'' (nD_lt x) (nD_lt y)
theorem nD_add (x y : Int) {n : Nat} (hx : (nD x).length ≤ n) (hy : (nD y).length ≤ n) : (nD (x + y)).length ≤ n + 1 := by
  refine dig_len ?_
  have h1 := nD_lt x
  have h2 := nD_lt y
  have h3 : 4294967296 ^ (nD x).length ≤ 4294967296 ^ n := Nat.pow_le_pow_right (by omega) hx
  have h4 : 4294967296 ^ (nD y).length ≤ 4294967296 ^ n := Nat.pow_le_pow_right (by omega) hy
  have h5 : 4294967296 ^ (n + 1) = 4294967296 ^ n * 4294967296 := Nat.pow_succ ..
  omega
theorem nD_neg (x : Int) : nD (-x) = nD x := by simp [nD]
theorem nD_sub (x y : Int) {n : Nat} (hx : (nD x).length ≤ n) (hy : (nD y).length ≤ n) : (nD (x - y)).length ≤ n + 1 := by
  rw [Int.sub_eq_add_neg]
  exact nD_add _ _ hx (by rw [nD_neg]; exact hy)
theorem nD_div (x y : Int) (hy : y ≠ 0) : (nD (x / y)).length ≤ (nD x).length + 1 := by
  obtain ⟨h1, h2⟩ := dNM x y hy
  have hq : (nD (dN x y)).length ≤ (nD x).length := by
    rw [dN, nD_sgn]
    exact dig_len_mono (Nat.div_le_self _ _)
  by_cases h : dM x y < 0
  · rw [← (h1 h).1]
    by_cases h0 : (nD x).length = 0
    · exfalso
      have hx0 : x.natAbs = 0 := by
        have := List.eq_nil_of_length_eq_zero h0
        exact dig_nil.1 this
      rw [dM, hx0] at h
      simp [sgn] at h
    · refine nD_sub _ _ hq (Nat.le_trans (nD_one ?_) (by omega))
      split <;> (try split) <;> decide
  · rw [← (h2 h).1]; omega
theorem numF_small {op c a b v : Int} {n : Nat} (hc : 5 ≤ op ∧ op ≤ 8 → (op = 5 ∨ op = 6 → c ≠ 0 ∧ -512 ≤ c ∧ c ≤ 512) ∧ (op = 7 ∨ op = 8 → 1 ≤ c ∧ c ≤ 64)) (ha : (nD a).length ≤ n) (hb : (nD b).length ≤ n) (h : numF op c a b = some v) : (nD v).length ≤ n + 3 := by
  have hp2 : ∀ h : 1 ≤ c ∧ c ≤ 64, (nD ((2 ^ c.toNat : Nat) : Int)).length ≤ 3 := fun h => by
    refine dig_len (k := 3) ?_
    rw [Int.natAbs_natCast]
    exact Nat.lt_of_le_of_lt (Nat.pow_le_pow_right (by omega) (show c.toNat ≤ 64 by omega)) (by decide)
  unfold numF at h
  by_cases h2 : op = 2
  · rw [if_pos h2] at h
    obtain rfl := Option.some.inj h
    rw [nD_neg]; omega
  rw [if_neg h2] at h
  by_cases h3 : op = 3
  · rw [if_pos h3] at h
    obtain rfl := Option.some.inj h
    have := nD_add a b ha hb; omega
  rw [if_neg h3] at h
  by_cases h4 : op = 4
  · rw [if_pos h4] at h
    obtain rfl := Option.some.inj h
    have := nD_sub a b ha hb; omega
  rw [if_neg h4] at h
  by_cases h5 : op = 5
  · rw [if_pos h5] at h
    obtain rfl := Option.some.inj h
    have h6 := (hc (by omega)).1 (.inl h5)
    have h7 : (nD c).length ≤ 1 := dig_len (k := 1) (by omega)
    have := nD_mul a c; omega
  rw [if_neg h5] at h
  by_cases h7 : op = 7
  · rw [if_pos h7] at h
    obtain rfl := Option.some.inj h
    have h8 := hp2 ((hc (by omega)).2 (.inl h7))
    have := nD_mul a ((2 ^ c.toNat : Nat) : Int); omega
  rw [if_neg h7] at h
  by_cases h6 : op = 6
  · rw [if_pos h6] at h
    split at h
    · obtain rfl := Option.some.inj h
      have h8 := (hc (by omega)).1 (.inr h6)
      have := nD_div a c h8.1; omega
    · cases h
  rw [if_neg h6] at h
  by_cases h8 : op = 8
  · rw [if_pos h8] at h
    split at h
    · obtain rfl := Option.some.inj h
      have hp0 : 0 < 2 ^ c.toNat := Nat.pow_pos (by omega)
      have := nD_div a ((2 ^ c.toNat : Nat) : Int) (by omega); omega
    · cases h
  rw [if_neg h8] at h
  obtain rfl := Option.some.inj h
  omega
def encN : List RI → List IV
  | [] => []
  | x :: l => .bool (decide (x.v < 0)) :: .slice (encD (dig x.v.natAbs)) (dig x.v.natAbs).length x.nl x.cap :: encN l
abbrev rN (l : List RI) : AObj := .row false 140 (encN l)
theorem encN_length : ∀ l : List RI, (encN l).length = l.length * 2
  | [] => rfl
  | x :: l => by rw [encN, List.length_cons, List.length_cons, encN_length l, List.length_cons]; omega
theorem encN_append : ∀ (a b : List RI), encN (a ++ b) = encN a ++ encN b
  | [], b => rfl
  | x :: a, b => by rw [List.cons_append, encN, encN, encN_append a b]; rfl
abbrev zN : RI := ⟨0, true, some 0⟩
theorem encN_two : ∀ {l : List RI} {i : Nat} (h : i < l.length), ((encN l).drop (i * 2)).take 2 = [.bool (decide ((l.getD i zN).v < 0)), .slice (encD (dig (l.getD i zN).v.natAbs)) (dig (l.getD i zN).v.natAbs).length (l.getD i zN).nl (l.getD i zN).cap]
  | x :: l, 0, _ => rfl
  | x :: l, i + 1, h => by
    have ih := encN_two (l := l) (i := i) (by simpa using h)
    rw [encN, show (i + 1) * 2 = i * 2 + 1 + 1 by omega]
    have e : (x :: l).getD (i + 1) zN = l.getD i zN := by simp
    rw [e]
    exact ih
abbrev fnsV : AV := .agg [.c (.fn 114), .c (.fn 115), .c (.fn 116), .c (.fn 117), .c (.fn 118)]
theorem numbers_ev (k : Nat) : run (k+1) 93 [] = some fnsV := by kernel_rfl
theorem over_ev (k : Nat) (x y : RI) (hy : y.v ≠ 0) (hx : (nD x.v).length ≤ 40000) (hyl : (nD y.v).length ≤ 40000) (hk : (nD x.v).length + (nD y.v).length + 120 < k) :
    ∃ z : RI, z.v = x.v / y.v ∧ run (k+8) 118 [aW x, aW y] = some (.tup [aW z, bb (decide (x.v % y.v = 0))]) := by
  obtain ⟨z, w, hz, hw, h1⟩ := DivMod_ev k x y hy hx hyl hk
  have h2 := Sign_ev (k + 6) w
  have h3 : (decide ((if w.v < 0 then (-1 : Int) else if 0 < w.v then 1 else 0) = 0)) = decide (x.v % y.v = 0) := by
    rw [← hw, decide_eq_decide]
    split
    · omega
    · split <;> omega
  obtain ⟨sg, hsg⟩ : ∃ sg : Int, sg = (if w.v < 0 then (-1 : Int) else if 0 < w.v then 1 else 0) := ⟨_, rfl⟩
  rw [← hsg] at h2 h3
  refine ⟨z, hz, ?_⟩
  simp only [run, aW, bb, ii] at h1 h2
  rw [run, ev118, ans_trim]
  simp only [Try.f118, aW, bb, ii, h1, FT, Int.reduceEq, Int.reduceToNat, Int.reduceLE, Int.reduceLT, Int.reduceAdd, Int.reduceMul, Int.reduceSub, Int.reduceNeg, Nat.reduceAdd, Nat.reduceSub, Nat.reduceMul, Nat.reduceLT, Nat.reduceBEq, Nat.reduceEqDiff, Nat.reduceLeDiff]
  rw [evalCode_drawn Try.f118 2 dr118_2]; rotate_left; rfl
  simp only [h2, h3, EVd, List.getElem?_nil, Nat.reducePow, Nat.reduceDiv, Nat.reduceMod, FT, Int.reduceEq, Int.reduceToNat, Int.reduceLE, Int.reduceLT, Int.reduceAdd, Int.reduceMul, Int.reduceSub, Int.reduceNeg, Nat.reduceAdd, Nat.reduceSub, Nat.reduceMul, Nat.reduceLT, Nat.reduceBEq, Nat.reduceEqDiff, Nat.reduceLeDiff]
end
end Go.Proofs.Sw.W
