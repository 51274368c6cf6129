/- A part of the proof: what functions of the program answer; conditions stand in each theorem. -/
import Derived.Test.YtefdgfdahmaciaaVA
set_option linter.unusedVariables false
set_option linter.unusedSimpArgs false
set_option linter.unusedSectionVars false
namespace Go.Proofs.Sw
open Go.Ab
variable [Globals]
abbrev nD (x : Int) : List Nat := dig x.natAbs
theorem dig_len_mono {m n : Nat} (h : m ≤ n) : (dig m).length ≤ (dig n).length := by
  by_cases hlt : (dig n).length < (dig m).length
  · have := can_len (can_dig n).ok (can_dig m) hlt
    rw [vd_dig, vd_dig] at this
    omega
  · omega
theorem Add_ev (k : Nat) (x y : RI) (hx : (nD x.v).length ≤ 50000) (hy : (nD y.v).length ≤ 50000) (hk : (nD x.v).length + (nD y.v).length + 10 ≤ k) : ∃ z : RI, z.v = x.v + y.v ∧ run (k+2) 138 [aN x, aN y] = some (aN z) := by
  by_cases hs : decide (x.v < 0) = decide (y.v < 0)
  · obtain ⟨nl3, cap3, h1⟩ := plus_ev k (nD x.v) (nD y.v) x.nl y.nl x.cap y.cap (can_dig _).ok (can_dig _).ok (by omega) (by omega) (by omega)
    have hpl := plusD_len (nD x.v) (nD y.v)
    have h2 := norm_num k (decide (x.v < 0)) (plusD (nD x.v) (nD y.v)) nl3 cap3 (plusD_ok _ _) (by omega) (by omega)
    rw [plusD_vd (can_dig _).ok (can_dig _).ok, vd_dig, vd_dig] at h2
    have hv : sgn (decide (x.v < 0)) (x.v.natAbs + y.v.natAbs) = x.v + y.v := by
      unfold sgn
      rw [decide_eq_decide] at hs
      by_cases h : x.v < 0
      · rw [if_pos (by simpa using h)]; omega
      · rw [if_neg (by simpa using h)]; omega
    rw [hv] at h2
    refine ⟨⟨x.v + y.v, nl3, cap3⟩, rfl, ?_⟩
    rw [hs] at h2
    simp only [run, bb, aN] at h1 h2
    rw [run, ev138, ans_trim]
    simp only [Try.f138, aN, bb, hs, FT, Int.reduceEq, Int.reduceToNat, Int.reduceLE, Int.reduceLT, Int.reduceAdd, Int.reduceMul, Int.reduceSub, Int.reduceNeg, Nat.reduceAdd, Nat.reduceSub, Nat.reduceMul, Nat.reduceLT, Nat.reduceBEq, Nat.reduceEqDiff, Nat.reduceLeDiff]
    rw [evalCode_drawn Try.f138 2 dr138_2]; rotate_left; rfl
    simp only [h1, h2, EVd, List.getElem?_nil, Nat.reducePow, Nat.reduceDiv, Nat.reduceMod, FT, Int.reduceEq, Int.reduceToNat, Int.reduceLE, Int.reduceLT, Int.reduceAdd, Int.reduceMul, Int.reduceSub, Int.reduceNeg, Nat.reduceAdd, Nat.reduceSub, Nat.reduceMul, Nat.reduceLT, Nat.reduceBEq, Nat.reduceEqDiff, Nat.reduceLeDiff]
  · have hs' : (decide (x.v < 0) == decide (y.v < 0)) = false := by simpa using hs
    have h0 := size_ev k (nD x.v) (nD y.v) x.nl y.nl x.cap y.cap (can_dig _) (can_dig _) (by omega) (by omega)
    rw [vd_dig, vd_dig] at h0
    by_cases hge : y.v.natAbs ≤ x.v.natAbs
    · have hc : (0 : Int) ≤ cmpN x.v.natAbs y.v.natAbs := by unfold cmpN; (repeat' split) <;> omega
      have hlm := dig_len_mono hge
      obtain ⟨nl3, cap3, h1⟩ := minus_ev k (nD x.v) (nD y.v) x.nl y.nl x.cap y.cap (can_dig _).ok (can_dig _).ok (by omega) (by omega) (by omega)
      have hpl := minusD_len (nD x.v) (nD y.v)
      have h2 := norm_num k (decide (x.v < 0)) (minusD (nD x.v) (nD y.v)) nl3 cap3 (minusD_ok (can_dig _).ok (can_dig _).ok) (by omega) (by omega)
      rw [minusD_vd (can_dig _).ok (can_dig _).ok hlm (by rw [vd_dig, vd_dig]; exact hge), vd_dig, vd_dig] at h2
      have hv : sgn (decide (x.v < 0)) (x.v.natAbs - y.v.natAbs) = x.v + y.v := by
        unfold sgn
        rw [decide_eq_decide] at hs
        by_cases h : x.v < 0
        · rw [if_pos (by simpa using h)]; omega
        · rw [if_neg (by simpa using h)]; omega
      rw [hv] at h2
      refine ⟨⟨x.v + y.v, nl3, cap3⟩, rfl, ?_⟩
      simp only [run, bb, aN, ii] at h0 h1 h2
      rw [run, ev138, ans_trim]
      simp only [Try.f138, aN, bb, hs, hs', h0, hc, FT, Int.reduceEq, Int.reduceToNat, Int.reduceLE, Int.reduceLT, Int.reduceAdd, Int.reduceMul, Int.reduceSub, Int.reduceNeg, Nat.reduceAdd, Nat.reduceSub, Nat.reduceMul, Nat.reduceLT, Nat.reduceBEq, Nat.reduceEqDiff, Nat.reduceLeDiff]
      rw [evalCode_drawn Try.f138 4 dr138_4]; rotate_left; rfl
      simp only [h1, h2, EVd, List.getElem?_nil, Nat.reducePow, Nat.reduceDiv, Nat.reduceMod, FT, Int.reduceEq, Int.reduceToNat, Int.reduceLE, Int.reduceLT, Int.reduceAdd, Int.reduceMul, Int.reduceSub, Int.reduceNeg, Nat.reduceAdd, Nat.reduceSub, Nat.reduceMul, Nat.reduceLT, Nat.reduceBEq, Nat.reduceEqDiff, Nat.reduceLeDiff]
    · have hc : ¬ (0 : Int) ≤ cmpN x.v.natAbs y.v.natAbs := by unfold cmpN; rw [if_pos (by omega)]; omega
      have hlm := dig_len_mono (show x.v.natAbs ≤ y.v.natAbs by omega)
      obtain ⟨nl3, cap3, h1⟩ := minus_ev k (nD y.v) (nD x.v) y.nl x.nl y.cap x.cap (can_dig _).ok (can_dig _).ok (by omega) (by omega) (by omega)
      have hpl := minusD_len (nD y.v) (nD x.v)
      have h2 := norm_num k (decide (y.v < 0)) (minusD (nD y.v) (nD x.v)) nl3 cap3 (minusD_ok (can_dig _).ok (can_dig _).ok) (by omega) (by omega)
      rw [minusD_vd (can_dig _).ok (can_dig _).ok hlm (by rw [vd_dig, vd_dig]; omega), vd_dig, vd_dig] at h2
      have hv : sgn (decide (y.v < 0)) (y.v.natAbs - x.v.natAbs) = x.v + y.v := by
        unfold sgn
        rw [decide_eq_decide] at hs
        by_cases h : y.v < 0
        · rw [if_pos (by simpa using h)]; omega
        · rw [if_neg (by simpa using h)]; omega
      rw [hv] at h2
      refine ⟨⟨x.v + y.v, nl3, cap3⟩, rfl, ?_⟩
      simp only [run, bb, aN, ii] at h0 h1 h2
      rw [run, ev138, ans_trim]
      simp only [Try.f138, aN, bb, hs, hs', h0, hc, FT, Int.reduceEq, Int.reduceToNat, Int.reduceLE, Int.reduceLT, Int.reduceAdd, Int.reduceMul, Int.reduceSub, Int.reduceNeg, Nat.reduceAdd, Nat.reduceSub, Nat.reduceMul, Nat.reduceLT, Nat.reduceBEq, Nat.reduceEqDiff, Nat.reduceLeDiff]
      rw [evalCode_drawn Try.f138 5 dr138_5]; rotate_left; rfl
      simp only [h1, h2, EVd, List.getElem?_nil, Nat.reducePow, Nat.reduceDiv, Nat.reduceMod, FT, Int.reduceEq, Int.reduceToNat, Int.reduceLE, Int.reduceLT, Int.reduceAdd, Int.reduceMul, Int.reduceSub, Int.reduceNeg, Nat.reduceAdd, Nat.reduceSub, Nat.reduceMul, Nat.reduceLT, Nat.reduceBEq, Nat.reduceEqDiff, Nat.reduceLeDiff]
end Go.Proofs.Sw
namespace Go.Proofs.Sw
open Go.Ab
variable [Globals]
theorem vd_set : ∀ (l : List Nat) (k v : Nat), k < l.length → vd (l.set k v) + 65536 ^ k * l.getD k 0 = vd l + 65536 ^ k * v
  | [], k, v, h => by simp at h
  | d :: l, 0, v, _ => by simp [vd]; omega
  | d :: l, k + 1, v, h => by
    have ih := vd_set l k v (by simpa using h)
    rw [List.set_cons_succ, vd, vd, Nat.pow_succ]
    have e1 : (d :: l).getD (k + 1) 0 = l.getD k 0 := by simp
    rw [e1, Nat.mul_comm (65536 ^ k) 65536, Nat.mul_assoc, Nat.mul_assoc]
    omega
theorem getDN_set {l : List Nat} {i k v : Nat} : (l.set i v).getD k 0 = if i = k ∧ i < l.length then v else l.getD k 0 := by
  rw [List.getD_eq_getElem?_getD, List.getD_eq_getElem?_getD, List.getElem?_set]
  by_cases h : i = k
  · subst h
    by_cases h2 : i < l.length
    · simp [h2]
    · simp [h2]
  · simp [h]
theorem okD_set {l : List Nat} {k v : Nat} (h : okD l) (hv : v < 65536) : okD (l.set k v) := fun d hd => by
  rcases List.mem_or_eq_of_mem_set hd with hd | rfl
  · exact h d hd
  · exact hv
def mS (O : List Nat) (x : Nat) (y : List Nat) (p : Nat) : Nat → List Nat × Nat
  | 0 => (O, 0)
  | j + 1 => ((mS O x y p j).1.set (p + j) (((mS O x y p j).2 + (mS O x y p j).1.getD (p + j) 0 + x * y.getD j 0) % 65536), ((mS O x y p j).2 + (mS O x y p j).1.getD (p + j) 0 + x * y.getD j 0) / 65536)
structure MuOk (y : List Nat) (L p : Nat) (O : List Nat) : Prop where
  len : O.length = L
  ok : okD O
  zero : ∀ k, p + y.length ≤ k → O.getD k 0 = 0
theorem mul_le16 {x y : Nat} (hx : x < 65536) (hy : y < 65536) : x * y ≤ 4294836225 := by
  have : x * y ≤ 65535 * 65535 := Nat.mul_le_mul (by omega) (by omega)
  omega
theorem mS_facts {O : List Nat} {x : Nat} {y : List Nat} {L p : Nat} (hO : MuOk y L p O) (hx : x < 65536) (hy : okD y) : ∀ j, j ≤ y.length + 1 →
    (mS O x y p j).1.length = L ∧ okD (mS O x y p j).1 ∧ (mS O x y p j).2 ≤ 65535 ∧ (∀ k, p + j ≤ k → (mS O x y p j).1.getD k 0 = O.getD k 0)
  | 0, _ => ⟨hO.len, hO.ok, by simp [mS], fun k _ => rfl⟩
  | j + 1, hj => by
    obtain ⟨h1, h2, h3, h4⟩ := mS_facts hO hx hy j (by omega)
    have h5 := okD_get h2 (p + j)
    have h6 := mul_le16 hx (okD_get hy j)
    refine ⟨by rw [mS, List.length_set]; exact h1, okD_set h2 (Nat.mod_lt _ (by omega)), ?_, fun k hk => ?_⟩
    · rw [mS]; simp only; omega
    · rw [mS]
      simp only
      rw [getDN_set, if_neg (by omega)]
      exact h4 k (by omega)
theorem mS_vd {O : List Nat} {x : Nat} {y : List Nat} {L p : Nat} (hO : MuOk y L p O) (hx : x < 65536) (hy : okD y) (hL : p + y.length < L) : ∀ j, j ≤ y.length + 1 →
    vd (mS O x y p j).1 + 65536 ^ (p + j) * (mS O x y p j).2 = vd O + 65536 ^ p * (x * vd (y.take j))
  | 0, _ => by simp [mS, vd]
  | j + 1, hj => by
    have ih := mS_vd hO hx hy hL j (by omega)
    obtain ⟨h1, h2, h3, h4⟩ := mS_facts hO hx hy j (by omega)
    have hs := vd_set (mS O x y p j).1 (p + j) (((mS O x y p j).2 + (mS O x y p j).1.getD (p + j) 0 + x * y.getD j 0) % 65536) (by omega)
    rw [mS]
    simp only
    generalize (mS O x y p j).1 = P at h1 h2 h4 hs ih ⊢
    generalize (mS O x y p j).2 = c at h3 hs ih ⊢
    have hm := Nat.div_add_mod (c + P.getD (p + j) 0 + x * y.getD j 0) 65536
    obtain ⟨s, hss⟩ : ∃ s, s = c + P.getD (p + j) 0 + x * y.getD j 0 := ⟨_, rfl⟩
    rw [← hss] at hs hm ⊢
    obtain ⟨q, hq⟩ : ∃ q, q = 65536 ^ (p + j) := ⟨_, rfl⟩
    rw [vd_take, show p + (j + 1) = (p + j) + 1 by omega, Nat.pow_succ]
    have hpj : 65536 ^ p * (x * (65536 ^ j * y.getD j 0)) = q * (x * y.getD j 0) := by
      rw [hq, Nat.pow_add, Nat.mul_assoc]
      congr 1
      rw [← Nat.mul_assoc, ← Nat.mul_assoc, Nat.mul_comm x]
    rw [← hq] at hs ih ⊢
    rw [Nat.mul_add x, Nat.mul_add, hpj]
    have e1 : q * (s % 65536) + q * 65536 * (s / 65536) = q * s := by
      rw [Nat.mul_assoc, ← Nat.mul_add]
      congr 1
      omega
    have e2 : q * s = q * c + q * P.getD (p + j) 0 + q * (x * y.getD j 0) := by
      rw [hss, Nat.mul_add, Nat.mul_add]
    omega
def mN (O : List Nat) (x : Nat) (y : List Nat) (p : Nat) : Nat := y.length + (if 0 < (mS O x y p y.length).2 then 1 else 0)
theorem mN_end {O : List Nat} {x : Nat} {y : List Nat} {L p : Nat} (hO : MuOk y L p O) (hx : x < 65536) (hy : okD y) : (mS O x y p (mN O x y p)).2 = 0 := by
  unfold mN
  split
  · rename_i h
    obtain ⟨h1, h2, h3, h4⟩ := mS_facts hO hx hy y.length (by omega)
    have h5 := h4 (p + y.length) (by omega)
    rw [hO.zero _ (by omega)] at h5
    rw [mS]
    simp only
    rw [h5, getD_out (Nat.le_refl _)]
    omega
  · rw [Nat.add_zero]; omega
def mO (O : List Nat) (x : Nat) (y : List Nat) (p : Nat) : List Nat := (mS O x y p (mN O x y p)).1
theorem mO_ok {O : List Nat} {x : Nat} {y : List Nat} {L p : Nat} (hO : MuOk y L p O) (hx : x < 65536) (hy : okD y) : MuOk y L (p + 1) (mO O x y p) := by
  have hn : mN O x y p ≤ y.length + 1 := by unfold mN; split <;> omega
  obtain ⟨h1, h2, h3, h4⟩ := mS_facts hO hx hy (mN O x y p) hn
  exact ⟨h1, h2, fun k hk => by rw [mO, h4 k (by omega)]; exact hO.zero k (by omega)⟩
theorem mO_vd {O : List Nat} {x : Nat} {y : List Nat} {L p : Nat} (hO : MuOk y L p O) (hx : x < 65536) (hy : okD y) (hL : p + y.length < L) : vd (mO O x y p) = vd O + 65536 ^ p * (x * vd y) := by
  have hn : mN O x y p ≤ y.length + 1 := by unfold mN; split <;> omega
  have hn2 : y.length ≤ mN O x y p := by unfold mN; omega
  have h := mS_vd hO hx hy hL (mN O x y p) hn
  rw [mN_end hO hx hy, Nat.mul_zero, Nat.add_zero, List.take_of_length_le hn2] at h
  exact h
def muA (x y : List Nat) (L : Nat) : Nat → List Nat
  | 0 => List.replicate L 0
  | i + 1 => mO (muA x y L i) (x.getD i 0) y i
theorem vd_rep (L : Nat) : vd (List.replicate L 0) = 0 := by
  induction L with
  | zero => rfl
  | succ n ih => rw [List.replicate_succ, vd, ih]
theorem mA_ok {x y : List Nat} (hx : okD x) (hy : okD y) (L : Nat) : ∀ i, MuOk y L i (muA x y L i)
  | 0 => ⟨by simp [muA], fun d hd => by rw [muA] at hd; rw [List.eq_of_mem_replicate hd]; omega, fun k _ => by
      rw [muA, List.getD_eq_getElem?_getD, List.getElem?_replicate]; split <;> rfl⟩
  | i + 1 => mO_ok (mA_ok hx hy L i) (okD_get hx i) hy
theorem mA_vd {x y : List Nat} (hx : okD x) (hy : okD y) {L : Nat} (hL : L = x.length + y.length + 1) : ∀ i, i ≤ x.length → vd (muA x y L i) = vd (x.take i) * vd y
  | 0, _ => by rw [muA, vd_rep]; simp [vd]
  | i + 1, hi => by
    rw [muA, mO_vd (mA_ok hx hy L i) (okD_get hx i) hy (by omega), mA_vd hx hy hL i (by omega), vd_take, Nat.add_mul, Nat.mul_assoc]
end Go.Proofs.Sw
namespace Go.Proofs.Sw
open Go.Ab
variable [Globals]
theorem loop_Mul7 (kf : Nat) (x0 y0 : IV) (X y : List Nat) (nl nl2 : Bool) (cap cap2 : Option Nat) (o2 : AObj) (ho2 : AObj.under 4 o2 = true) (O : List Nat) (p L : Nat) (hO : MuOk y L p O) (hX : okD X) (hy : okD y) (hp : p < X.length) (hL : L = X.length + y.length + 1) (hLb : L ≤ 200000) (k : Nat) (l : Ass) (z : Option Out) (hz : loopR Try.prog tab kf none LB139_7 139 82 [2, 3, 4, 5, 6, 7, 8] 4 k l ([.cells 43 [.c x0, sD X nl cap], .cells 43 [.c y0, sD y nl2 cap2], o2, rD (mS O (X.getD p 0) y p 0).1]) = z) (hk : mN O (X.getD p 0) y p < k) (a2 : asc l 2 = .ptr 0 0) (a3 : asc l 3 = .ptr 1 0) (a4 : asc l 4 = .ptr 2 0) (a5 : asc l 5 = .hsl 3 0 L L 1) (a6 : asc l 6 = ii p) (a7 : asc l 7 = .c (.int .u64 ((mS O (X.getD p 0) y p 0).2 : Nat))) (a8 : asc l 8 = ii 0) :
    ∃ l', z = some (.exit 2 (fr 82 l') ([.cells 43 [.c x0, sD X nl cap], .cells 43 [.c y0, sD y nl2 cap2], o2, rD (mS O (X.getD p 0) y p (mN O (X.getD p 0) y p)).1])) ∧ asc l' 2 = .ptr 0 0 ∧ asc l' 3 = .ptr 1 0 ∧ asc l' 4 = .ptr 2 0 ∧ asc l' 5 = .hsl 3 0 L L 1 ∧ asc l' 6 = ii p ∧ asc l' 7 = .c (.int .u64 ((mS O (X.getD p 0) y p (mN O (X.getD p 0) y p)).2 : Nat)) ∧ asc l' 8 = ii (mN O (X.getD p 0) y p) := by
  subst hz
  have hn : mN O (X.getD p 0) y p ≤ y.length + 1 := by unfold mN; split <;> omega
  refine loop_nat (mN O (X.getD p 0) y p) (fun k l H => loopR Try.prog tab kf none LB139_7 139 82 [2, 3, 4, 5, 6, 7, 8] 4 k l H)
    (fun i l H => asc l 2 = .ptr 0 0 ∧ asc l 3 = .ptr 1 0 ∧ asc l 4 = .ptr 2 0 ∧ asc l 5 = .hsl 3 0 L L 1 ∧ asc l 6 = ii p ∧ asc l 7 = .c (.int .u64 ((mS O (X.getD p 0) y p i).2 : Nat)) ∧ asc l 8 = ii i ∧ ∃ G, H = ([.cells 43 [.c x0, sD X nl cap], .cells 43 [.c y0, sD y nl2 cap2], o2, rD (mS O (X.getD p 0) y p i).1]) ++ G)
    (fun z => ∃ l', z = some (.exit 2 (fr 82 l') ([.cells 43 [.c x0, sD X nl cap], .cells 43 [.c y0, sD y nl2 cap2], o2, rD (mS O (X.getD p 0) y p (mN O (X.getD p 0) y p)).1])) ∧ asc l' 2 = .ptr 0 0 ∧ asc l' 3 = .ptr 1 0 ∧ asc l' 4 = .ptr 2 0 ∧ asc l' 5 = .hsl 3 0 L L 1 ∧ asc l' 6 = ii p ∧ asc l' 7 = .c (.int .u64 ((mS O (X.getD p 0) y p (mN O (X.getD p 0) y p)).2 : Nat)) ∧ asc l' 8 = ii (mN O (X.getD p 0) y p)) ?_ (mN O (X.getD p 0) y p) 0 k l _ (by omega) hk ⟨a2, a3, a4, a5, a6, a7, a8, [], by rw [List.append_nil]⟩
  clear hk a2 a3 a4 a5 a6 a7 a8
  rintro i k l H hi ⟨a2, a3, a4, a5, a6, a7, a8, G, rfl⟩
  have ht : trim 4 (fr 82 (keep l [2, 3, 4, 5, 6, 7, 8])) (([.cells 43 [.c x0, sD X nl cap], .cells 43 [.c y0, sD y nl2 cap2], o2, rD (mS O (X.getD p 0) y p i).1]) ++ G) = ([.cells 43 [.c x0, sD X nl cap], .cells 43 [.c y0, sD y nl2 cap2], o2, rD (mS O (X.getD p 0) y p i).1]) := trim_app (by simp) (by simp only [a2, a3, a4, a5, a6, a7, a8, ho2, EVb, EVc, Int.reduceEq, Int.reduceToNat, Int.reduceLE, Int.reduceLT, Int.reduceAdd, Int.reduceMul, Int.reduceSub, Int.reduceNeg, Nat.reduceAdd, Nat.reduceSub, Nat.reduceMul, Nat.reduceLT, Nat.reduceBEq, Nat.reduceEqDiff, Nat.reduceLeDiff]) (by simp only [ho2, EVb, EVc, Int.reduceEq, Int.reduceToNat, Int.reduceLE, Int.reduceLT, Int.reduceAdd, Int.reduceMul, Int.reduceSub, Int.reduceNeg, Nat.reduceAdd, Nat.reduceSub, Nat.reduceMul, Nat.reduceLT, Nat.reduceBEq, Nat.reduceEqDiff, Nat.reduceLeDiff])
  by_cases hc : i < (mN O (X.getD p 0) y p)
  · have hc' : (i : Int) < ((mN O (X.getD p 0) y p : Nat) : Int) := by omega
    have hc0 : (0 : Int) ≤ i := by omega
    have hw : IntKind.wrap .i64 ((i : Int) + 1) = ((i + 1 : Nat) : Int) := by rw [wrap64 (by omega) (by omega)]; omega
    have hx := okD_get hX p
    obtain ⟨h1, h2, h3, h4⟩ := mS_facts hO hx hy i (by omega)
    have hms : mS O (X.getD p 0) y p (i + 1) = ((mS O (X.getD p 0) y p i).1.set (p + i) (((mS O (X.getD p 0) y p i).2 + (mS O (X.getD p 0) y p i).1.getD (p + i) 0 + (X.getD p 0) * y.getD i 0) % 65536), ((mS O (X.getD p 0) y p i).2 + (mS O (X.getD p 0) y p i).1.getD (p + i) 0 + (X.getD p 0) * y.getD i 0) / 65536) := rfl
    have hor : i < y.length ∨ 0 < (mS O (X.getD p 0) y p i).2 := by
      unfold mN at hc
      split at hc
      · rename_i hp
        by_cases e : i = y.length
        · rw [← e] at hp; exact .inr hp
        · omega
      · omega
    rw [hms]
    obtain ⟨P, hPP⟩ : ∃ P, P = (mS O (X.getD p 0) y p i).1 := ⟨_, rfl⟩
    obtain ⟨c, hcc⟩ : ∃ c, c = (mS O (X.getD p 0) y p i).2 := ⟨_, rfl⟩
    rw [← hPP] at h1 h2 ht ⊢
    rw [← hcc] at h3 a7 hor ⊢
    have hd := okD_get h2 (p + i)
    have hP := encD_get (l := P) (i := p + i) (by omega)
    have hel := encD_length P
    rw [h1] at hel
    have hXg := encD_get hp
    obtain ⟨x, hxx⟩ : ∃ x, x = X.getD p 0 := ⟨_, rfl⟩
    rw [← hxx] at hx hXg hc ⊢
    have hpX : (p : Int) < X.length := by omega
    have hp0 : (0 : Int) ≤ p := by omega
    have wp : IntKind.wrap .i64 ((p : Int) + (i : Int)) = ((p + i : Nat) : Int) := by rw [wrap64 (by omega) (by omega)]; omega
    have hpN : p + i < L := by omega
    have hpl : (0 : Int) ≤ ((p + i : Nat) : Int) := by omega
    have hpl2 : ((p + i : Nat) : Int) < ((L : Nat) : Int) := by omega
    obtain ⟨d, hdd⟩ : ∃ d, d = P.getD (p + i) 0 := ⟨_, rfl⟩
    rw [← hdd] at hd hP ⊢
    have d1 := wr64 (n := d) (by omega)
    have w0 : IntKind.wrap .u64 ((c : Int) + (d : Int)) = ((c + d : Nat) : Int) := by rw [wrapu64 (by omega) (by omega)]; omega
    by_cases hib : i < y.length
    · have hib' : (i : Int) < y.length := by omega
      have hyg := encD_get hib
      have hyd := okD_get hy i
      obtain ⟨yy, hyy⟩ : ∃ yy, yy = y.getD i 0 := ⟨_, rfl⟩
      rw [← hyy] at hyg hyd ⊢
      have hmu := mul_le16 hx hyd
      have d2 := wr64 (n := x) (by omega)
      have d3 := wr64 (n := yy) (by omega)
      have w1 : IntKind.wrap .u64 ((x : Int) * (yy : Int)) = ((x * yy : Nat) : Int) := by
        rw [show (x : Int) * (yy : Int) = ((x * yy : Nat) : Int) by simp, wrapu64 (by omega) (by omega)]
      have w2 : IntKind.wrap .u64 (((c + d : Nat) : Int) + ((x * yy : Nat) : Int)) = ((c + d + x * yy : Nat) : Int) := by rw [wrapu64 (by omega) (by omega)]; omega
      have r1 := tmod16 (c + d + x * yy)
      have r2 := tdiv16 (c + d + x * yy)
      have r3 := wr32 (n := (c + d + x * yy) % 65536) (by omega)
      have r4 := wr64 (n := (c + d + x * yy) / 65536) (by omega)
      simp only [loopR_succ, ht]
      simp only [a2, a3, a4, a5, a6, a7, a8, hc', hc0, hw, hP, hel, hpl, hpl2, hpN, wp, d1, w0, r1, r2, r3, r4, hib', loopR_succ, loopOf, findLoop, firstRegion, Option.some_or, Option.none_or, Option.getD_some, Option.some.injEq, Try.f139, FT, Int.reduceEq, Int.reduceToNat, Int.reduceLE, Int.reduceLT, Int.reduceAdd, Int.reduceMul, Int.reduceSub, Int.reduceNeg, Nat.reduceAdd, Nat.reduceSub, Nat.reduceMul, Nat.reduceLT, Nat.reduceBEq, Nat.reduceEqDiff, Nat.reduceLeDiff]
      rw [evalCode_drawn Try.f139 11 dr139_11]; rotate_left; rfl
      simp only [a2, a3, a4, a5, a6, a7, a8, hc', hc0, hw, hP, hel, hXg, hyg, hpX, hp0, hib', d2, d3, w1, w2, EVd, List.getElem?_nil, Nat.reducePow, Nat.reduceDiv, Nat.reduceMod, FT, Int.reduceEq, Int.reduceToNat, Int.reduceLE, Int.reduceLT, Int.reduceAdd, Int.reduceMul, Int.reduceSub, Int.reduceNeg, Nat.reduceAdd, Nat.reduceSub, Nat.reduceMul, Nat.reduceLT, Nat.reduceBEq, Nat.reduceEqDiff, Nat.reduceLeDiff]
      try simp only [a2, a3, a4, a5, a6, a7, a8, hc', hc0, hw, hP, hel, hpl, hpl2, hpN, wp, r1, r2, r3, r4, encD_set, FT, Int.reduceEq, Int.reduceToNat, Int.reduceLE, Int.reduceLT, Int.reduceAdd, Int.reduceMul, Int.reduceSub, Int.reduceNeg, Nat.reduceAdd, Nat.reduceSub, Nat.reduceMul, Nat.reduceLT, Nat.reduceBEq, Nat.reduceEqDiff, Nat.reduceLeDiff]
      refine .inr ⟨_, _, hc, rfl, (by rfl), (by rfl), (by rfl), (by rfl), (by rfl), (by rfl), (by rfl), ?_⟩
      exact ⟨_, by rfl⟩
    · have hib' : ¬ (i : Int) < y.length := by omega
      have hcp : (0 : Int) < ((c : Nat) : Int) := by omega
      rw [getD_out (show y.length ≤ i by omega)]
      simp only [Nat.mul_zero, Nat.add_zero]
      have r1 := tmod16 (c + d)
      have r2 := tdiv16 (c + d)
      have r3 := wr32 (n := (c + d) % 65536) (by omega)
      have r4 := wr64 (n := (c + d) / 65536) (by omega)
      simp only [loopR_succ, ht]
      simp only [a2, a3, a4, a5, a6, a7, a8, hc', hc0, hw, hP, hel, hpl, hpl2, hpN, wp, d1, w0, r1, r2, r3, r4, hib', hcp, encD_set, loopR_succ, loopOf, findLoop, firstRegion, Option.some_or, Option.none_or, Option.getD_some, Option.some.injEq, Try.f139, FT, Int.reduceEq, Int.reduceToNat, Int.reduceLE, Int.reduceLT, Int.reduceAdd, Int.reduceMul, Int.reduceSub, Int.reduceNeg, Nat.reduceAdd, Nat.reduceSub, Nat.reduceMul, Nat.reduceLT, Nat.reduceBEq, Nat.reduceEqDiff, Nat.reduceLeDiff]
      refine .inr ⟨_, _, hc, rfl, (by rfl), (by rfl), (by rfl), (by rfl), (by rfl), (by rfl), (by rfl), ?_⟩
      exact ⟨_, by rfl⟩
  · refine .inl ?_
    obtain rfl : i = (mN O (X.getD p 0) y p) := by omega
    have hc' : ¬ ((((mN O (X.getD p 0) y p) : Nat) : Int) < (((mN O (X.getD p 0) y p) : Nat) : Int)) := by omega
    have hend := mN_end (p := p) hO (okD_get hX p) hy
    have hnb : ¬ ((mN O (X.getD p 0) y p : Nat) : Int) < y.length := by unfold mN; split <;> omega
    rw [hend] at a7
    simp only [loopR_succ, ht]
    simp only [a2, a3, a4, a5, a6, a7, a8, hc', hnb, loopR_succ, loopOf, findLoop, firstRegion, Option.some_or, Option.none_or, Option.getD_some, Option.some.injEq, Try.f139, FT, Int.reduceEq, Int.reduceToNat, Int.reduceLE, Int.reduceLT, Int.reduceAdd, Int.reduceMul, Int.reduceSub, Int.reduceNeg, Nat.reduceAdd, Nat.reduceSub, Nat.reduceMul, Nat.reduceLT, Nat.reduceBEq, Nat.reduceEqDiff, Nat.reduceLeDiff]
    exact ⟨_, rfl, (by rfl), (by rfl), (by rfl), (by rfl), (by rfl), (by rw [hend]; rfl), (by rfl)⟩
end Go.Proofs.Sw
namespace Go.Proofs.Sw
open Go.Ab
variable [Globals]
theorem loop_Mul3 (kf : Nat) (x0 y0 : IV) (X y : List Nat) (nl nl2 : Bool) (cap cap2 : Option Nat) (o2 : AObj) (ho2 : AObj.under 4 o2 = true) (L : Nat) (hX : okD X) (hy : okD y) (hL : L = X.length + y.length + 1) (hLb : L ≤ 200000) (hkf : y.length + 5 < kf) (k : Nat) (l : Ass) (z : Option Out) (hz : loopR Try.prog tab kf none LB139_3 139 82 [2, 3, 4, 5, 6] 4 k l ([.cells 43 [.c x0, sD X nl cap], .cells 43 [.c y0, sD y nl2 cap2], o2, rD (muA X y L 0)]) = z) (hk : X.length < k) (a2 : asc l 2 = .ptr 0 0) (a3 : asc l 3 = .ptr 1 0) (a4 : asc l 4 = .ptr 2 0) (a5 : asc l 5 = .hsl 3 0 L L 1) (a6 : asc l 6 = ii 0) :
    ∃ l', z = some (.exit 0 (fr 82 l') ([.cells 43 [.c x0, sD X nl cap], .cells 43 [.c y0, sD y nl2 cap2], o2, rD (muA X y L X.length)])) ∧ asc l' 2 = .ptr 0 0 ∧ asc l' 3 = .ptr 1 0 ∧ asc l' 4 = .ptr 2 0 ∧ asc l' 5 = .hsl 3 0 L L 1 ∧ asc l' 6 = ii X.length := by
  subst hz
  refine loop_nat X.length (fun k l H => loopR Try.prog tab kf none LB139_3 139 82 [2, 3, 4, 5, 6] 4 k l H)
    (fun i l H => asc l 2 = .ptr 0 0 ∧ asc l 3 = .ptr 1 0 ∧ asc l 4 = .ptr 2 0 ∧ asc l 5 = .hsl 3 0 L L 1 ∧ asc l 6 = ii i ∧ ∃ G, H = ([.cells 43 [.c x0, sD X nl cap], .cells 43 [.c y0, sD y nl2 cap2], o2, rD (muA X y L i)]) ++ G)
    (fun z => ∃ l', z = some (.exit 0 (fr 82 l') ([.cells 43 [.c x0, sD X nl cap], .cells 43 [.c y0, sD y nl2 cap2], o2, rD (muA X y L X.length)])) ∧ asc l' 2 = .ptr 0 0 ∧ asc l' 3 = .ptr 1 0 ∧ asc l' 4 = .ptr 2 0 ∧ asc l' 5 = .hsl 3 0 L L 1 ∧ asc l' 6 = ii X.length) ?_ X.length 0 k l _ (by omega) hk ⟨a2, a3, a4, a5, a6, [], by rw [List.append_nil]⟩
  clear hk a2 a3 a4 a5 a6
  rintro i k l H hi ⟨a2, a3, a4, a5, a6, G, rfl⟩
  have ht : trim 4 (fr 82 (keep l [2, 3, 4, 5, 6])) (([.cells 43 [.c x0, sD X nl cap], .cells 43 [.c y0, sD y nl2 cap2], o2, rD (muA X y L i)]) ++ G) = ([.cells 43 [.c x0, sD X nl cap], .cells 43 [.c y0, sD y nl2 cap2], o2, rD (muA X y L i)]) := trim_app (by simp) (by simp only [a2, a3, a4, a5, a6, ho2, EVb, EVc, Int.reduceEq, Int.reduceToNat, Int.reduceLE, Int.reduceLT, Int.reduceAdd, Int.reduceMul, Int.reduceSub, Int.reduceNeg, Nat.reduceAdd, Nat.reduceSub, Nat.reduceMul, Nat.reduceLT, Nat.reduceBEq, Nat.reduceEqDiff, Nat.reduceLeDiff]) (by simp only [ho2, EVb, EVc, Int.reduceEq, Int.reduceToNat, Int.reduceLE, Int.reduceLT, Int.reduceAdd, Int.reduceMul, Int.reduceSub, Int.reduceNeg, Nat.reduceAdd, Nat.reduceSub, Nat.reduceMul, Nat.reduceLT, Nat.reduceBEq, Nat.reduceEqDiff, Nat.reduceLeDiff])
  by_cases hc : i < X.length
  · have hc' : (i : Int) < ((X.length : Nat) : Int) := by omega
    have hc0 : (0 : Int) ≤ i := by omega
    have hw : IntKind.wrap .i64 ((i : Int) + 1) = ((i + 1 : Nat) : Int) := by rw [wrap64 (by omega) (by omega)]; omega
    have hcX : (i : Int) < X.length := by omega
    have hn : mN (muA X y L i) (X.getD i 0) y i ≤ y.length + 1 := by unfold mN; split <;> omega
    simp only [loopR_succ, ht]
    simp only [a2, a3, a4, a5, a6, hcX, loopR_succ, loopOf, findLoop, firstRegion, Option.some_or, Option.none_or, Option.getD_some, Option.some.injEq, Try.f139, FT, Int.reduceEq, Int.reduceToNat, Int.reduceLE, Int.reduceLT, Int.reduceAdd, Int.reduceMul, Int.reduceSub, Int.reduceNeg, Nat.reduceAdd, Nat.reduceSub, Nat.reduceMul, Nat.reduceLT, Nat.reduceBEq, Nat.reduceEqDiff, Nat.reduceLeDiff]
    rw [evalCode_loopB LB139_7 lp139_7]; rotate_left; rfl; rfl; rfl
    generalize hz : loopR _ _ _ _ _ _ _ _ _ _ _ _ = z
    obtain ⟨l2, rfl, f2, f3, f4, f5, f6, f7, f8⟩ := loop_Mul7 kf x0 y0 X y nl nl2 cap cap2 o2 ho2 (muA X y L i) i L (mA_ok hX hy L i) hX hy hc hL hLb _ _ z hz (by omega) (by rfl) (by rfl) (by rfl) (by rfl) (by rfl) (by rfl) (by rfl)
    clear hz
    simp only [f2, f3, f4, f5, f6, hw, FT, Int.reduceEq, Int.reduceToNat, Int.reduceLE, Int.reduceLT, Int.reduceAdd, Int.reduceMul, Int.reduceSub, Int.reduceNeg, Nat.reduceAdd, Nat.reduceSub, Nat.reduceMul, Nat.reduceLT, Nat.reduceBEq, Nat.reduceEqDiff, Nat.reduceLeDiff]
    exact .inr ⟨_, _, hc, rfl, (by exact f2), (by exact f3), (by exact f4), (by exact f5), (by rfl), ⟨[], by rfl⟩⟩
  · refine .inl ?_
    obtain rfl : i = X.length := by omega
    have hc' : ¬ (((X.length : Nat) : Int) < ((X.length : Nat) : Int)) := by omega
    have hlt : ¬ ((X.length : Nat) : Int) < X.length := by omega
    simp only [loopR_succ, ht]
    simp only [a2, a3, a4, a5, a6, hc', hlt, loopR_succ, loopOf, findLoop, firstRegion, Option.some_or, Option.none_or, Option.getD_some, Option.some.injEq, Try.f139, FT, Int.reduceEq, Int.reduceToNat, Int.reduceLE, Int.reduceLT, Int.reduceAdd, Int.reduceMul, Int.reduceSub, Int.reduceNeg, Nat.reduceAdd, Nat.reduceSub, Nat.reduceMul, Nat.reduceLT, Nat.reduceBEq, Nat.reduceEqDiff, Nat.reduceLeDiff]
    exact ⟨_, rfl, (by rfl), (by rfl), (by rfl), (by rfl), (by rfl)⟩
theorem encD_rep (L : Nat) : (List.replicate L [IV.int .u32 0]).flatten = encD (List.replicate L 0) := by simp [encD]
theorem Mul_ev (k : Nat) (x y : RI) (hx : (nD x.v).length ≤ 50000) (hy : (nD y.v).length ≤ 50000) (hk : (nD x.v).length + (nD y.v).length + 10 ≤ k) : ∃ z : RI, z.v = x.v * y.v ∧ run (k+2) 139 [aN x, aN y] = some (aN z) := by
  rw [run, ev139, ans_trim]
  have hw1 : IntKind.wrap .i64 (((nD x.v).length : Int) + ((nD y.v).length : Int)) = (((nD x.v).length + (nD y.v).length : Nat) : Int) := by rw [wrap64 (by omega) (by omega)]; omega
  have hw2 : IntKind.wrap .i64 ((((nD x.v).length + (nD y.v).length : Nat) : Int) + 1) = (((nD x.v).length + (nD y.v).length + 1 : Nat) : Int) := by rw [wrap64 (by omega) (by omega)]; omega
  obtain ⟨L, hL⟩ : ∃ L, L = (nD x.v).length + (nD y.v).length + 1 := ⟨_, rfl⟩
  rw [← hL] at hw2
  have q1 : (0 : Int) ≤ L := by omega
  have q2 : L * 4 ≤ roomBytes := Nat.le_trans (show L * 4 ≤ 1000000 by omega) (by decide)
  have q3 : L ≤ roomBytes := Nat.le_trans (show L ≤ 1000000 by omega) (by decide)
  simp only [Try.f139, aN, bb, hw1, hw2, q1, q2, q3, encD_rep, FT, Int.reduceEq, Int.reduceToNat, Int.reduceLE, Int.reduceLT, Int.reduceAdd, Int.reduceMul, Int.reduceSub, Int.reduceNeg, Nat.reduceAdd, Nat.reduceSub, Nat.reduceMul, Nat.reduceLT, Nat.reduceBEq, Nat.reduceEqDiff, Nat.reduceLeDiff]
  rw [evalCode_loopB LB139_3 lp139_3]; rotate_left; rfl; rfl; rfl
  generalize hz : loopR _ _ _ _ _ _ _ _ _ _ _ _ = z
  have hdx := (can_dig x.v.natAbs).ok
  have hdy := (can_dig y.v.natAbs).ok
  obtain ⟨l2, rfl, f2, f3, f4, f5, f6⟩ := loop_Mul3 (k + 1) _ _ (nD x.v) (nD y.v) x.nl y.nl x.cap y.cap _ (by rfl) L hdx hdy hL (by omega) (by omega) _ _ z hz (by omega) (by rfl) (by rfl) (by rfl) (by rfl) (by rfl)
  clear hz
  have hok := mA_ok hdx hdy L (nD x.v).length
  have hvd := mA_vd hdx hdy hL (nD x.v).length (Nat.le_refl _)
  rw [List.take_length, vd_dig, vd_dig] at hvd
  obtain ⟨P, hP⟩ : ∃ P, P = muA (nD x.v) (nD y.v) L (nD x.v).length := ⟨_, rfl⟩
  rw [← hP] at hok hvd ⊢
  obtain ⟨H2, hds, hl2, hold⟩ := norm_call (k := k) (f := 139) (r := 14) (i := 6) (id := 3) (neg := !(decide (x.v < 0) == decide (y.v < 0))) (d := P) (H := [.cells 43 [.c (.bool (decide (x.v < 0))), sD (nD x.v) x.nl x.cap], .cells 43 [.c (.bool (decide (y.v < 0))), sD (nD y.v) y.nl y.cap], .cells 43 [.c (.bool false), .c (.slice [] 0 true (some 0))], rD P]) (by rfl) hok.ok (by rw [hok.len]; omega) (by rw [hok.len]; omega)
  have h21 := hold 2 (by omega)
  simp only [List.getElem?_cons_zero, List.getElem?_cons_succ] at h21
  rw [hok.len, hvd] at hds
  have hv : sgn (!(decide (x.v < 0) == decide (y.v < 0))) (x.v.natAbs * y.v.natAbs) = x.v * y.v := by
    rw [← Int.natAbs_mul]
    unfold sgn
    by_cases h1 : x.v < 0 <;> by_cases h2 : y.v < 0
    · have := Int.mul_pos_of_neg_of_neg h1 h2
      simp only [h1, h2, decide_true]
      simp
      omega
    · have := Int.mul_nonpos_of_nonpos_of_nonneg (show x.v ≤ 0 by omega) (show 0 ≤ y.v by omega)
      simp only [h1, h2, decide_true, decide_false]
      simp
      omega
    · have := Int.mul_nonpos_of_nonneg_of_nonpos (show 0 ≤ x.v by omega) (show y.v ≤ 0 by omega)
      simp only [h1, h2, decide_true, decide_false]
      simp
      omega
    · have := Int.mul_nonneg (show 0 ≤ x.v by omega) (show 0 ≤ y.v by omega)
      simp only [h1, h2, decide_false]
      simp
      omega
  rw [hv] at hds
  have hnn := norm_num k (!(decide (x.v < 0) == decide (y.v < 0))) P false none hok.ok (by rw [hok.len]; omega) (by rw [hok.len]; omega)
  rw [hvd, hv, sD, hok.len] at hnn
  have hel := encD_length P
  rw [hok.len] at hel
  have htk : (encD P).take L = encD P := List.take_of_length_le (by rw [hel]; exact Nat.le_refl _)
  simp only [run, bb] at hnn
  have hset : ∀ X : AObj, (H2.set 2 X)[2]? = some X := fun X => List.getElem?_set_self (by rw [hl2]; simp)
  refine ⟨⟨x.v * y.v, false, none⟩, rfl, ?_⟩
  simp only [f2, f3, f4, f5, f6, hds, h21, hset, strict_slice, strict_c, strict_agg, strict0_c, strict_bool, hel, htk, hnn, Nat.le_refl, FT, Int.reduceEq, Int.reduceToNat, Int.reduceLE, Int.reduceLT, Int.reduceAdd, Int.reduceMul, Int.reduceSub, Int.reduceNeg, Nat.reduceAdd, Nat.reduceSub, Nat.reduceMul, Nat.reduceLT, Nat.reduceBEq, Nat.reduceEqDiff, Nat.reduceLeDiff]
end Go.Proofs.Sw
namespace Go.Proofs.Sw
open Go.Ab
variable [Globals]
theorem Neg_ev (k : Nat) (x : RI) (hx : (nD x.v).length ≤ 50000) (hk : (nD x.v).length + 10 ≤ k) : ∃ z : RI, z.v = -x.v ∧ run (k+2) 156 [aN x] = some (aN z) := by
  have h1 := norm_num k (!decide (x.v < 0)) (nD x.v) x.nl x.cap (can_dig _).ok (by omega) (by omega)
  rw [vd_dig] at h1
  have hv : sgn (!decide (x.v < 0)) x.v.natAbs = -x.v := by
    unfold sgn
    by_cases h : x.v < 0
    · simp [h]; omega
    · simp [h]; omega
  rw [hv] at h1
  refine ⟨⟨-x.v, x.nl, x.cap⟩, rfl, ?_⟩
  simp only [run, bb, aN] at h1
  rw [run, ev156, ans_trim]
  simp only [Try.f156, aN, bb, h1, FT, Int.reduceEq, Int.reduceToNat, Int.reduceLE, Int.reduceLT, Int.reduceAdd, Int.reduceMul, Int.reduceSub, Int.reduceNeg, Nat.reduceAdd, Nat.reduceSub, Nat.reduceMul, Nat.reduceLT, Nat.reduceBEq, Nat.reduceEqDiff, Nat.reduceLeDiff]
theorem Abs_ev (k : Nat) (x : RI) (hx : (nD x.v).length ≤ 50000) (hk : (nD x.v).length + 10 ≤ k) : ∃ z : RI, z.v = x.v.natAbs ∧ run (k+2) 150 [aN x] = some (aN z) := by
  have h1 := norm_num k false (nD x.v) x.nl x.cap (can_dig _).ok (by omega) (by omega)
  rw [vd_dig] at h1
  have hv : sgn false x.v.natAbs = x.v.natAbs := by simp [sgn]
  rw [hv] at h1
  refine ⟨⟨x.v.natAbs, x.nl, x.cap⟩, rfl, ?_⟩
  simp only [run, bb, aN] at h1
  rw [run, ev150, ans_trim]
  simp only [Try.f150, aN, bb, h1, FT, Int.reduceEq, Int.reduceToNat, Int.reduceLE, Int.reduceLT, Int.reduceAdd, Int.reduceMul, Int.reduceSub, Int.reduceNeg, Nat.reduceAdd, Nat.reduceSub, Nat.reduceMul, Nat.reduceLT, Nat.reduceBEq, Nat.reduceEqDiff, Nat.reduceLeDiff]
theorem Sub_ev (k : Nat) (x y : RI) (hx : (nD x.v).length ≤ 50000) (hy : (nD y.v).length ≤ 50000) (hk : (nD x.v).length + (nD y.v).length + 20 ≤ k) : ∃ z : RI, z.v = x.v - y.v ∧ run (k+3) 151 [aN x, aN y] = some (aN z) := by
  obtain ⟨y2, hv, h1⟩ := Neg_ev k y hy (by omega)
  have hn : nD y2.v = nD y.v := by rw [nD, nD, hv, Int.natAbs_neg]
  obtain ⟨z, hz, h2⟩ := Add_ev k x y2 hx (by rw [hn]; exact hy) (by rw [hn]; omega)
  refine ⟨z, by rw [hz, hv]; omega, ?_⟩
  simp only [run, aN, bb] at h1 h2
  rw [run, ev151, ans_trim]
  simp only [Try.f151, aN, bb, FT, Int.reduceEq, Int.reduceToNat, Int.reduceLE, Int.reduceLT, Int.reduceAdd, Int.reduceMul, Int.reduceSub, Int.reduceNeg, Nat.reduceAdd, Nat.reduceSub, Nat.reduceMul, Nat.reduceLT, Nat.reduceBEq, Nat.reduceEqDiff, Nat.reduceLeDiff]
  rw [evalCode_drawn Try.f151 1 dr151_1]; rotate_left; rfl
  simp only [h1, h2, EVd, List.getElem?_nil, Nat.reducePow, Nat.reduceDiv, Nat.reduceMod, FT, Int.reduceEq, Int.reduceToNat, Int.reduceLE, Int.reduceLT, Int.reduceAdd, Int.reduceMul, Int.reduceSub, Int.reduceNeg, Nat.reduceAdd, Nat.reduceSub, Nat.reduceMul, Nat.reduceLT, Nat.reduceBEq, Nat.reduceEqDiff, Nat.reduceLeDiff]
def pwD (n : Nat) : List Nat := (List.replicate (n / 16 + 1) 0).set (n / 16) (2 ^ (n % 16))
theorem pwD_ok (n : Nat) : okD (pwD n) := okD_set (fun d hd => by rw [List.eq_of_mem_replicate hd]; omega) (Nat.lt_of_lt_of_le (Nat.pow_lt_pow_right (by omega) (Nat.mod_lt n (show 16 > 0 by omega))) (by decide))
theorem pwD_len (n : Nat) : (pwD n).length = n / 16 + 1 := by simp [pwD]
theorem shlU {H : Heap} {t : TypeId} {n : Nat} (h : n < 16) : binA Try.prog H .shl t (.c (.int .u32 1)) (.c (.int .i64 (n : Int))) = some (.c (.int .u32 ((2 ^ n : Nat) : Int))) := by
  have e : binA Try.prog H .shl t (.c (.int .u32 1)) (.c (.int .i64 (n : Int))) = if 0 ≤ (n : Int) then some (.c (.int .u32 (IntKind.wrap .u32 (1 * 2 ^ (min (n : Int).toNat 32))))) else none := rfl
  have hp : 2 ^ n < 65536 := Nat.lt_of_lt_of_le (Nat.pow_lt_pow_right (by omega) h) (by decide)
  rw [e, if_pos (by omega), Int.toNat_natCast, Nat.min_eq_left (by omega), Int.one_mul]
  rw [show (2 : Int) ^ n = ((2 ^ n : Nat) : Int) by simp, wr32 (by omega)]
theorem Power_ev (k n : Nat) (hn : n ≤ 1000) (hk : n + 10 ≤ k) : ∃ z : RI, z.v = (vd (pwD n) : Nat) ∧ run (k+2) 126 [ii n] = some (aN z) := by
  have t1 : ((n : Nat) : Int).tdiv 16 = ((n / 16 : Nat) : Int) := rfl
  have t2 : ((n : Nat) : Int).tmod 16 = ((n % 16 : Nat) : Int) := rfl
  have w1 : IntKind.wrap .i64 ((n / 16 : Nat) : Int) = ((n / 16 : Nat) : Int) := by rw [wrap64 (by omega) (by omega)]
  have w2 : IntKind.wrap .i64 (((n / 16 : Nat) : Int) + 1) = ((n / 16 + 1 : Nat) : Int) := by rw [wrap64 (by omega) (by omega)]; omega
  have hp : 2 ^ (n % 16) < 65536 := Nat.lt_of_lt_of_le (Nat.pow_lt_pow_right (by omega) (Nat.mod_lt n (show 16 > 0 by omega))) (by decide)
  have hsh := fun (H : Heap) (t : TypeId) => shlU (H := H) (t := t) (n := n % 16) (by omega)
  have hel : (encD (List.replicate (n / 16 + 1) 0)).length = n / 16 + 1 := by simp [encD]
  have hi0 : (0 : Int) ≤ ((n / 16 : Nat) : Int) := by omega
  have hi1 : ((n / 16 : Nat) : Int) < ((n / 16 + 1 : Nat) : Int) := by omega
  have hi2 : n / 16 < n / 16 + 1 := by omega
  have q1 : (0 : Int) ≤ ((n / 16 + 1 : Nat) : Int) := by omega
  have q2 : (n / 16 + 1) * 4 ≤ roomBytes := Nat.le_trans (show (n / 16 + 1) * 4 ≤ 1000000 by omega) (by decide)
  have q3 : n / 16 + 1 ≤ roomBytes := Nat.le_trans (show n / 16 + 1 ≤ 1000000 by omega) (by decide)
  rw [run, ev126, ans_trim]
  obtain ⟨H2, hds, hl2, hold⟩ := norm_call (k := k) (f := 126) (r := 3) (i := 1) (id := 1) (neg := false) (d := pwD n) (H := [.cells 43 [.c (.bool false), .c (.slice [] 0 true (some 0))], rD (pwD n)]) (by rfl) (pwD_ok n) (by rw [pwD_len]; omega) (by rw [pwD_len]; omega)
  have h21 := hold 0 (by omega)
  simp only [List.getElem?_cons_zero, List.getElem?_cons_succ] at h21
  have hv : sgn false (vd (pwD n)) = (vd (pwD n) : Nat) := rfl
  rw [pwD_len, hv] at hds
  have hset : ∀ X : AObj, (H2.set 0 X)[0]? = some X := fun X => List.getElem?_set_self (by rw [hl2]; simp)
  have hnn := norm_num k false (pwD n) false none (pwD_ok n) (by rw [pwD_len]; omega) (by rw [pwD_len]; omega)
  rw [hv, sD, pwD_len] at hnn
  simp only [run, bb] at hnn
  have hel2 := encD_length (pwD n)
  rw [pwD_len] at hel2
  have htk : (encD (pwD n)).take (n / 16 + 1) = encD (pwD n) := List.take_of_length_le (by rw [hel2]; exact Nat.le_refl _)
  have hfo : (List.replicate (n / 16 + 1) 0).set (n / 16) (2 ^ (n % 16)) = pwD n := rfl
  refine ⟨⟨(vd (pwD n) : Nat), false, none⟩, rfl, ?_⟩
  simp only [Try.f126, ii, t1, t2, w1, w2, q1, q2, q3, encD_rep, hsh, hel, hi0, hi1, hi2, encD_set, hfo, hel2, htk, hnn, hds, h21, hset, strict_slice, strict_c, strict_agg, strict0_c, strict_bool, Nat.le_refl, FT, Int.reduceEq, Int.reduceToNat, Int.reduceLE, Int.reduceLT, Int.reduceAdd, Int.reduceMul, Int.reduceSub, Int.reduceNeg, Nat.reduceAdd, Nat.reduceSub, Nat.reduceMul, Nat.reduceLT, Nat.reduceBEq, Nat.reduceEqDiff, Nat.reduceLeDiff]
end Go.Proofs.Sw
namespace Go.Proofs.Sw
open Go.Ab
variable [Globals]
def tb (t : Nat) : Nat := if t = 0 then 0 else Nat.log2 t + 1
theorem tb_lt {t i : Nat} : i < tb t ↔ 0 < t / 2 ^ i := by
  unfold tb
  by_cases h : t = 0
  · subst h; simp
  · rw [if_neg h]
    have h1 : i ≤ t.log2 ↔ 2 ^ i ≤ t := Nat.le_log2 h
    have h2 : 0 < t / 2 ^ i ↔ 2 ^ i ≤ t := by
      have hp : 0 < 2 ^ i := Nat.pow_pos (by omega)
      constructor
      · intro h3
        by_cases h4 : 2 ^ i ≤ t
        · exact h4
        · rw [Nat.div_eq_of_lt (by omega)] at h3; omega
      · intro h3; exact Nat.div_pos h3 hp
    omega
theorem tb_le {t : Nat} (h : t < 65536) : tb t ≤ 16 := by
  by_cases h1 : 16 < tb t
  · rw [tb_lt] at h1
    rw [Nat.div_eq_of_lt (by exact h)] at h1
    omega
  · omega
def bitsV (d : List Nat) : Nat := if d.length = 0 then 0 else 16 * (d.length - 1) + tb (d.getD (d.length - 1) 0)
theorem bitsV_le {d : List Nat} (h : okD d) : bitsV d ≤ 16 * d.length := by
  unfold bitsV
  have := tb_le (okD_get h (d.length - 1))
  split <;> omega
theorem loop_bits (kf : Nat) (t n0 : Nat) (ht0 : t < 65536) (hn0 : n0 ≤ 100000000) (k : Nat) (l : Ass) (z : Option Out) (hz : loopR Try.prog tab kf none LB154_5 154 25 [3, 4] 0 k l ([]) = z) (hk : tb t < k) (a3 : asc l 3 = ii ((n0 + 0 : Nat) : Int)) (a4 : asc l 4 = .c (.int .u32 ((t / 2 ^ 0 : Nat) : Int))) :
    ∃ l', z = some (.exit 0 (fr 25 l') ([])) ∧ asc l' 3 = ii ((n0 + (tb t) : Nat) : Int) ∧ asc l' 4 = .c (.int .u32 ((t / 2 ^ (tb t) : Nat) : Int)) := by
  subst hz
  have hle := tb_le ht0
  refine loop_nat (tb t) (fun k l H => loopR Try.prog tab kf none LB154_5 154 25 [3, 4] 0 k l H)
    (fun i l H => asc l 3 = ii ((n0 + i : Nat) : Int) ∧ asc l 4 = .c (.int .u32 ((t / 2 ^ i : Nat) : Int)) ∧ ∃ G, H = ([]) ++ G)
    (fun z => ∃ l', z = some (.exit 0 (fr 25 l') ([])) ∧ asc l' 3 = ii ((n0 + (tb t) : Nat) : Int) ∧ asc l' 4 = .c (.int .u32 ((t / 2 ^ (tb t) : Nat) : Int))) ?_ (tb t) 0 k l _ (by omega) hk ⟨a3, a4, [], by rw [List.append_nil]⟩
  clear hk a3 a4
  rintro i k l H hi ⟨a3, a4, G, rfl⟩
  have ht : trim 0 (fr 25 (keep l [3, 4])) (([]) ++ H) = ([]) := trim_app (by simp) (by simp only [a3, a4, EVb, EVc, Int.reduceEq, Int.reduceToNat, Int.reduceLE, Int.reduceLT, Int.reduceAdd, Int.reduceMul, Int.reduceSub, Int.reduceNeg, Nat.reduceAdd, Nat.reduceSub, Nat.reduceMul, Nat.reduceLT, Nat.reduceBEq, Nat.reduceEqDiff, Nat.reduceLeDiff]) (by simp only [EVb, EVc, Int.reduceEq, Int.reduceToNat, Int.reduceLE, Int.reduceLT, Int.reduceAdd, Int.reduceMul, Int.reduceSub, Int.reduceNeg, Nat.reduceAdd, Nat.reduceSub, Nat.reduceMul, Nat.reduceLT, Nat.reduceBEq, Nat.reduceEqDiff, Nat.reduceLeDiff])
  by_cases hc : i < (tb t)
  · have hc' : (i : Int) < ((tb t : Nat) : Int) := by omega
    have hc0 : (0 : Int) ≤ i := by omega
    have hw : IntKind.wrap .i64 ((i : Int) + 1) = ((i + 1 : Nat) : Int) := by rw [wrap64 (by omega) (by omega)]; omega
    have hp := tb_lt.1 hc
    have hdd : t / 2 ^ (i + 1) = t / 2 ^ i / 2 := by rw [Nat.pow_succ, Nat.div_div_eq_div_mul]
    rw [hdd]
    have hs : t / 2 ^ i ≤ t := Nat.div_le_self _ _
    obtain ⟨x, hx⟩ : ∃ x, x = t / 2 ^ i := ⟨_, rfl⟩
    rw [← hx] at hp a4 hs ⊢
    have hp1 : (0 : Int) < ((x : Nat) : Int) := by omega
    have hw1 : IntKind.wrap .i64 (((n0 + i : Nat) : Int) + 1) = ((n0 + (i + 1) : Nat) : Int) := by rw [wrap64 (by omega) (by omega)]; omega
    have hr2 : ((x : Nat) : Int).tdiv 2 = ((x / 2 : Nat) : Int) := rfl
    have hr4 := wr32 (n := x / 2) (by omega)
    simp only [loopR_succ, ht]
    simp only [a3, a4, hc', hc0, hw, hp1, hw1, hr2, hr4, loopR_succ, loopOf, findLoop, firstRegion, Option.some_or, Option.none_or, Option.getD_some, Option.some.injEq, Try.f154, FT, Int.reduceEq, Int.reduceToNat, Int.reduceLE, Int.reduceLT, Int.reduceAdd, Int.reduceMul, Int.reduceSub, Int.reduceNeg, Nat.reduceAdd, Nat.reduceSub, Nat.reduceMul, Nat.reduceLT, Nat.reduceBEq, Nat.reduceEqDiff, Nat.reduceLeDiff]
    exact .inr ⟨_, _, hc, rfl, (by rfl), (by rfl), ⟨[], by rfl⟩⟩
  · refine .inl ?_
    obtain rfl : i = (tb t) := by omega
    have hc' : ¬ ((((tb t) : Nat) : Int) < (((tb t) : Nat) : Int)) := by omega
    have h0 : t / 2 ^ (tb t) = 0 := by
      exact Nat.eq_zero_of_not_pos ((not_congr (tb_lt (t := t) (i := tb t))).1 (by omega))
    rw [h0] at a4
    have hn0 : ¬ (0 : Int) < ((0 : Nat) : Int) := by omega
    simp only [loopR_succ, ht]
    simp only [a3, a4, hc', hn0, loopR_succ, loopOf, findLoop, firstRegion, Option.some_or, Option.none_or, Option.getD_some, Option.some.injEq, Try.f154, FT, Int.reduceEq, Int.reduceToNat, Int.reduceLE, Int.reduceLT, Int.reduceAdd, Int.reduceMul, Int.reduceSub, Int.reduceNeg, Nat.reduceAdd, Nat.reduceSub, Nat.reduceMul, Nat.reduceLT, Nat.reduceBEq, Nat.reduceEqDiff, Nat.reduceLeDiff]
    exact ⟨_, rfl, (by rfl), (by rw [h0]; rfl)⟩
theorem bits_ev (k : Nat) (d : List Nat) (nl : Bool) (cap : Option Nat) (hd : okD d) (hl : d.length ≤ 1000000) (hk : 30 < k) : run (k+1) 154 [sD d nl cap] = some (ii (bitsV d)) := by
  rw [run, ev154, ans_trim]
  unfold bitsV
  by_cases h0 : d.length = 0
  · have h0' : (d.length : Int) = 0 := by omega
    rw [if_pos h0]
    simp only [Try.f154, ii, h0', FT, Int.reduceEq, Int.reduceToNat, Int.reduceLE, Int.reduceLT, Int.reduceAdd, Int.reduceMul, Int.reduceSub, Int.reduceNeg, Nat.reduceAdd, Nat.reduceSub, Nat.reduceMul, Nat.reduceLT, Nat.reduceBEq, Nat.reduceEqDiff, Nat.reduceLeDiff]
  · have h0' : ¬ (d.length : Int) = 0 := by omega
    rw [if_neg h0]
    obtain ⟨j, hj⟩ : ∃ j, d.length = j + 1 := ⟨d.length - 1, by omega⟩
    have e1 : d.length - 1 = j := by omega
    rw [e1]
    have hx := encD_get (l := d) (i := j) (by omega)
    have hw1 : IntKind.wrap .i64 (((j + 1 : Nat) : Int) - 1) = ((j : Nat) : Int) := by rw [wrap64 (by omega) (by omega)]; omega
    have hw2 : IntKind.wrap .i64 (16 * ((j : Nat) : Int)) = ((16 * j : Nat) : Int) := by rw [wrap64 (by omega) (by omega)]; omega
    have hw3 : IntKind.wrap .i64 ((16 : Int) * ((j : Nat) : Int)) = ((16 * j : Nat) : Int) := hw2
    have hj0 : (0 : Int) ≤ (j : Nat) := by omega
    have hj1 : ((j : Nat) : Int) < ((j + 1 : Nat) : Int) := by omega
    have hj2 : j < j + 1 := by omega
    have ht0 := okD_get hd j
    obtain ⟨t, ht⟩ : ∃ t, t = d.getD j 0 := ⟨_, rfl⟩
    rw [← ht] at hx ht0 ⊢
    rw [hj] at h0'
    simp only [Try.f154, ii, sD, hj, h0', hw1, hw2, hx, hj0, hj1, hj2, FT, Int.reduceEq, Int.reduceToNat, Int.reduceLE, Int.reduceLT, Int.reduceAdd, Int.reduceMul, Int.reduceSub, Int.reduceNeg, Nat.reduceAdd, Nat.reduceSub, Nat.reduceMul, Nat.reduceLT, Nat.reduceBEq, Nat.reduceEqDiff, Nat.reduceLeDiff]
    rw [evalCode_loopB LB154_5 lp154_5]; rotate_left; rfl; rfl; rfl
    generalize hz : loopR _ _ _ _ _ _ _ _ _ _ _ _ = z
    obtain ⟨l2, rfl, f3, f4⟩ := loop_bits k t (16 * j) ht0 (by omega) _ _ z hz (by have := tb_le ht0; omega) (by rfl) (by rw [Nat.pow_zero, Nat.div_one]; rfl)
    clear hz
    simp only [f3, f4, FT, Int.reduceEq, Int.reduceToNat, Int.reduceLE, Int.reduceLT, Int.reduceAdd, Int.reduceMul, Int.reduceSub, Int.reduceNeg, Nat.reduceAdd, Nat.reduceSub, Nat.reduceMul, Nat.reduceLT, Nat.reduceBEq, Nat.reduceEqDiff, Nat.reduceLeDiff]
def bitV (d : List Nat) (k : Nat) : Nat := (BitVec.ofInt 32 (((d.getD (k / 16) 0) / 2 ^ (k % 16) : Nat) : Int) &&& BitVec.ofInt 32 1).toNat
theorem bitV_le (d : List Nat) (k : Nat) : bitV d k ≤ 1 := by
  unfold bitV
  rw [BitVec.toNat_and]
  exact Nat.and_le_right
theorem andU {H : Heap} {t : TypeId} {a : Nat} : binA Try.prog H .and t (.c (.int .u32 (a : Int))) (.c (.int .u32 1)) = some (.c (.int .u32 ((BitVec.ofInt 32 (a : Int) &&& BitVec.ofInt 32 1).toNat : Nat))) := by
  have e : binA Try.prog H .and t (.c (.int .u32 (a : Int))) (.c (.int .u32 1)) = some (.c (.int .u32 (IntKind.wrap .u32 ((BitVec.ofInt 32 (a : Int) &&& BitVec.ofInt 32 1).toNat : Nat)))) := rfl
  rw [e, wr32]
  have : (BitVec.ofInt 32 (a : Int) &&& BitVec.ofInt 32 1).toNat ≤ 1 := by rw [BitVec.toNat_and]; exact Nat.and_le_right
  omega
theorem shrU {H : Heap} {t : TypeId} {a n : Nat} (h : n < 16) : binA Try.prog H .shr t (.c (.int .u32 (a : Int))) (.c (.int .i64 (n : Int))) = some (.c (.int .u32 ((a / 2 ^ n : Nat) : Int))) := by
  have e : binA Try.prog H .shr t (.c (.int .u32 (a : Int))) (.c (.int .i64 (n : Int))) = if 0 ≤ (n : Int) then some (.c (.int .u32 ((a : Int).fdiv (2 ^ (min (n : Int).toNat 32))))) else none := rfl
  rw [e, if_pos (by omega), Int.toNat_natCast, Nat.min_eq_left (by omega)]
  rw [show (2 : Int) ^ n = ((2 ^ n : Nat) : Int) by simp, Int.fdiv_eq_ediv_of_nonneg _ (Int.natCast_nonneg _)]
  rfl
theorem bit_ev (k : Nat) (d : List Nat) (nl : Bool) (cap : Option Nat) (hl : d.length ≤ 1000000) (n : Nat) (hn : n / 16 < d.length) : run (k+1) 155 [sD d nl cap, ii n] = some (.c (.int .u32 (bitV d n : Nat))) := by
  have t1 : ((n : Nat) : Int).tdiv 16 = ((n / 16 : Nat) : Int) := rfl
  have t2 : ((n : Nat) : Int).tmod 16 = ((n % 16 : Nat) : Int) := rfl
  have w1 : IntKind.wrap .i64 ((n / 16 : Nat) : Int) = ((n / 16 : Nat) : Int) := by rw [wrap64 (by omega) (by omega)]
  have hx := encD_get hn
  have q0 : (0 : Int) ≤ ((n / 16 : Nat) : Int) := by omega
  have q1 : ((n / 16 : Nat) : Int) < d.length := by omega
  have hsh := fun (H : Heap) (t : TypeId) => shrU (H := H) (t := t) (a := d.getD (n / 16) 0) (n := n % 16) (by omega)
  have han := fun (H : Heap) (t : TypeId) => andU (H := H) (t := t) (a := d.getD (n / 16) 0 / 2 ^ (n % 16))
  have hb : (BitVec.ofInt 32 (((d.getD (n / 16) 0) / 2 ^ (n % 16) : Nat) : Int) &&& BitVec.ofInt 32 1).toNat = bitV d n := rfl
  rw [run, ev155, ans_trim]
  simp only [Try.f155, ii, t1, t2, w1, hx, q0, q1, hn, hsh, han, hb, FT, Int.reduceEq, Int.reduceToNat, Int.reduceLE, Int.reduceLT, Int.reduceAdd, Int.reduceMul, Int.reduceSub, Int.reduceNeg, Nat.reduceAdd, Nat.reduceSub, Nat.reduceMul, Nat.reduceLT, Nat.reduceBEq, Nat.reduceEqDiff, Nat.reduceLeDiff]
end Go.Proofs.Sw
namespace Go.Proofs.Sw
open Go.Ab
variable [Globals]
def dvS (a : List Nat) (b : Nat) : Nat → List Nat × Nat
  | 0 => (List.replicate a.length 0, 0)
  | i + 1 => ((dvS a b i).1.set (a.length - 1 - i) (((dvS a b i).2 * 65536 + a.getD (a.length - 1 - i) 0) / b), ((dvS a b i).2 * 65536 + a.getD (a.length - 1 - i) 0) % b)
theorem dvS_ok {a : List Nat} {b : Nat} (ha : okD a) (hb : 0 < b) : ∀ i, (dvS a b i).1.length = a.length ∧ okD (dvS a b i).1 ∧ (dvS a b i).2 < b
  | 0 => ⟨by simp [dvS], fun d hd => by rw [dvS] at hd; rw [List.eq_of_mem_replicate hd]; omega, by rw [dvS]; exact hb⟩
  | i + 1 => by
    obtain ⟨h1, h2, h3⟩ := dvS_ok ha hb i
    refine ⟨by rw [dvS, List.length_set]; exact h1, okD_set h2 ?_, Nat.mod_lt _ hb⟩
    have := okD_get ha (a.length - 1 - i)
    rw [Nat.div_lt_iff_lt_mul hb]
    have h4 : ((dvS a b i).2 + 1) * 65536 ≤ b * 65536 := Nat.mul_le_mul_right _ h3
    rw [Nat.mul_comm 65536 b]
    omega
theorem loop_div5 (kf : Nat) (a : List Nat) (b : Nat) (nl nl2 : Bool) (cap cap2 : Option Nat) (ha : okD a) (hb0 : 0 < b) (hb1 : b < 65536) (hla : a.length ≤ 100000) (k : Nat) (l : Ass) (z : Option Out) (hz : loopR Try.prog tab kf none LB149_5 149 124 [0, 1, 6, 7, 8] 1 k l ([rD (dvS a b 0).1]) = z) (hk : a.length < k) (a0 : asc l 0 = sD a nl cap) (a1 : asc l 1 = sD [b] nl2 cap2) (a6 : asc l 6 = .hsl 0 0 a.length a.length 1) (a7 : asc l 7 = .c (.int .u64 ((dvS a b 0).2 : Nat))) (a8 : asc l 8 = ii ((a.length : Int) - 1 - 0)) :
    ∃ l', z = some (.exit 0 (fr 124 l') ([rD (dvS a b a.length).1])) ∧ asc l' 0 = sD a nl cap ∧ asc l' 1 = sD [b] nl2 cap2 ∧ asc l' 6 = .hsl 0 0 a.length a.length 1 ∧ asc l' 7 = .c (.int .u64 ((dvS a b a.length).2 : Nat)) ∧ asc l' 8 = ii ((a.length : Int) - 1 - a.length) := by
  subst hz
  refine loop_nat a.length (fun k l H => loopR Try.prog tab kf none LB149_5 149 124 [0, 1, 6, 7, 8] 1 k l H)
    (fun i l H => asc l 0 = sD a nl cap ∧ asc l 1 = sD [b] nl2 cap2 ∧ asc l 6 = .hsl 0 0 a.length a.length 1 ∧ asc l 7 = .c (.int .u64 ((dvS a b i).2 : Nat)) ∧ asc l 8 = ii ((a.length : Int) - 1 - i) ∧ ∃ G, H = ([rD (dvS a b i).1]) ++ G)
    (fun z => ∃ l', z = some (.exit 0 (fr 124 l') ([rD (dvS a b a.length).1])) ∧ asc l' 0 = sD a nl cap ∧ asc l' 1 = sD [b] nl2 cap2 ∧ asc l' 6 = .hsl 0 0 a.length a.length 1 ∧ asc l' 7 = .c (.int .u64 ((dvS a b a.length).2 : Nat)) ∧ asc l' 8 = ii ((a.length : Int) - 1 - a.length)) ?_ a.length 0 k l _ (by omega) hk ⟨a0, a1, a6, a7, a8, [], by rw [List.append_nil]⟩
  clear hk a0 a1 a6 a7 a8
  rintro i k l H hi ⟨a0, a1, a6, a7, a8, G, rfl⟩
  have ht : trim 1 (fr 124 (keep l [0, 1, 6, 7, 8])) (([rD (dvS a b i).1]) ++ G) = ([rD (dvS a b i).1]) := trim_app (by simp) (by simp only [a0, a1, a6, a7, a8, EVb, EVc, Int.reduceEq, Int.reduceToNat, Int.reduceLE, Int.reduceLT, Int.reduceAdd, Int.reduceMul, Int.reduceSub, Int.reduceNeg, Nat.reduceAdd, Nat.reduceSub, Nat.reduceMul, Nat.reduceLT, Nat.reduceBEq, Nat.reduceEqDiff, Nat.reduceLeDiff]) (by simp only [EVb, EVc, Int.reduceEq, Int.reduceToNat, Int.reduceLE, Int.reduceLT, Int.reduceAdd, Int.reduceMul, Int.reduceSub, Int.reduceNeg, Nat.reduceAdd, Nat.reduceSub, Nat.reduceMul, Nat.reduceLT, Nat.reduceBEq, Nat.reduceEqDiff, Nat.reduceLeDiff])
  by_cases hc : i < a.length
  · have hc' : (i : Int) < ((a.length : Nat) : Int) := by omega
    have hc0 : (0 : Int) ≤ i := by omega
    have hw : IntKind.wrap .i64 ((i : Int) + 1) = ((i + 1 : Nat) : Int) := by rw [wrap64 (by omega) (by omega)]; omega
    obtain ⟨j, hj⟩ : ∃ j, a.length = j + 1 + i := ⟨a.length - 1 - i, by omega⟩
    have e2 : a.length - 1 - i = j := by omega
    have e3 : (a.length : Int) - 1 - (i : Int) = (j : Int) := by omega
    have e4 : (a.length : Int) - 1 - ((i + 1 : Nat) : Int) = (j : Int) - 1 := by omega
    rw [e3] at a8
    rw [e4]
    obtain ⟨h1, h2, h3⟩ := dvS_ok ha hb0 i
    have hS : dvS a b (i + 1) = ((dvS a b i).1.set j (((dvS a b i).2 * 65536 + a.getD j 0) / b), ((dvS a b i).2 * 65536 + a.getD j 0) % b) := by rw [← e2]; rfl
    rw [hS]
    obtain ⟨Q, hQ⟩ : ∃ Q, Q = (dvS a b i).1 := ⟨_, rfl⟩
    obtain ⟨r, hr⟩ : ∃ r, r = (dvS a b i).2 := ⟨_, rfl⟩
    rw [← hQ] at h1 h2 ht ⊢
    rw [← hr] at h3 a7 ⊢
    have hel := encD_length Q
    rw [h1] at hel
    have hx := encD_get (l := a) (i := j) (by omega)
    have hd := okD_get ha j
    obtain ⟨x, hxx⟩ : ∃ x, x = a.getD j 0 := ⟨_, rfl⟩
    rw [← hxx] at hx hd ⊢
    have hj0 : (0 : Int) ≤ j := by omega
    have hj1 : (j : Int) < a.length := by omega
    have hjN : j < a.length := by omega
    have hw2 : IntKind.wrap .i64 ((j : Int) - 1) = (j : Int) - 1 := by rw [wrap64 (by omega) (by omega)]
    have d1 := wr64 (n := x) (by omega)
    have d2 := wr64 (n := b) (by omega)
    have w1 : IntKind.wrap .u64 ((r : Int) * 65536) = ((r * 65536 : Nat) : Int) := by rw [wrapu64 (by omega) (by omega)]; omega
    have w2 : IntKind.wrap .u64 (((r * 65536 : Nat) : Int) + (x : Int)) = ((r * 65536 + x : Nat) : Int) := by rw [wrapu64 (by omega) (by omega)]; omega
    have hlt : r * 65536 + x < 4294967296 := by omega
    obtain ⟨y, hy⟩ : ∃ y, y = r * 65536 + x := ⟨_, rfl⟩
    rw [← hy] at w2 hlt ⊢
    have hqb : y / b ≤ y := Nat.div_le_self _ _
    have hrb : y % b < b := Nat.mod_lt _ hb0
    have hbz : ¬ ((b : Nat) : Int) = 0 := by omega
    have t1 : ((y : Nat) : Int).tdiv ((b : Nat) : Int) = ((y / b : Nat) : Int) := rfl
    have t2 : ((y : Nat) : Int).tmod ((b : Nat) : Int) = ((y % b : Nat) : Int) := rfl
    have w3 := wr64 (n := y / b) (by omega)
    have w4 := wr32 (n := y / b) (by omega)
    have hb' : encD [b] = [.int .u32 (b : Int)] := rfl
    simp only [loopR_succ, ht]
    simp only [a0, a1, a6, a7, a8, hc', hc0, hw, hel, hx, hj0, hj1, hjN, hw2, d1, d2, w1, w2, w3, w4, hbz, t1, t2, hb', encD_set, loopR_succ, loopOf, findLoop, firstRegion, Option.some_or, Option.none_or, Option.getD_some, Option.some.injEq, Try.f149, FT, Int.reduceEq, Int.reduceToNat, Int.reduceLE, Int.reduceLT, Int.reduceAdd, Int.reduceMul, Int.reduceSub, Int.reduceNeg, Nat.reduceAdd, Nat.reduceSub, Nat.reduceMul, Nat.reduceLT, Nat.reduceBEq, Nat.reduceEqDiff, Nat.reduceLeDiff]
    exact .inr ⟨_, _, hc, rfl, (by rfl), (by rfl), (by rfl), (by rfl), (by rfl), ⟨_, by rfl⟩⟩
  · refine .inl ?_
    obtain rfl : i = a.length := by omega
    have hc' : ¬ (((a.length : Nat) : Int) < ((a.length : Nat) : Int)) := by omega
    have hlt : ¬ ((0 : Int) ≤ (a.length : Int) - 1 - a.length) := by omega
    simp only [loopR_succ, ht]
    simp only [a0, a1, a6, a7, a8, hc', hlt, loopR_succ, loopOf, findLoop, firstRegion, Option.some_or, Option.none_or, Option.getD_some, Option.some.injEq, Try.f149, FT, Int.reduceEq, Int.reduceToNat, Int.reduceLE, Int.reduceLT, Int.reduceAdd, Int.reduceMul, Int.reduceSub, Int.reduceNeg, Nat.reduceAdd, Nat.reduceSub, Nat.reduceMul, Nat.reduceLT, Nat.reduceBEq, Nat.reduceEqDiff, Nat.reduceLeDiff]
    exact ⟨_, rfl, (by rfl), (by rfl), (by rfl), (by rfl), (by rfl)⟩
end Go.Proofs.Sw
namespace Go.Proofs.Sw
open Go.Ab
variable [Globals]
def szD (a b : List Nat) : Int := if a.length < b.length then -1 else if b.length < a.length then 1 else cmpN (vd a) (vd b)
theorem size_any (k : Nat) (a b : List Nat) (nl nl2 : Bool) (cap cap2 : Option Nat) (ha : okD a) (hb : okD b) (hla : a.length ≤ 100000) (hk : a.length < k) : run (k+1) 109 [sD a nl cap, sD b nl2 cap2] = some (ii (szD a b)) := by
  rw [run, ev109, ans_trim]
  unfold szD
  by_cases h1 : a.length < b.length
  · have h1' : (a.length : Int) < b.length := by omega
    have h0 : ¬ (a.length : Int) = b.length := by omega
    rw [if_pos h1]
    simp only [Try.f109, ii, h0, h1', FT, Int.reduceEq, Int.reduceToNat, Int.reduceLE, Int.reduceLT, Int.reduceAdd, Int.reduceMul, Int.reduceSub, Int.reduceNeg, Nat.reduceAdd, Nat.reduceSub, Nat.reduceMul, Nat.reduceLT, Nat.reduceBEq, Nat.reduceEqDiff, Nat.reduceLeDiff]
  · have h1' : ¬ (a.length : Int) < b.length := by omega
    rw [if_neg h1]
    by_cases h2 : b.length < a.length
    · have h0 : ¬ (a.length : Int) = b.length := by omega
      rw [if_pos h2]
      simp only [Try.f109, ii, h0, h1', FT, Int.reduceEq, Int.reduceToNat, Int.reduceLE, Int.reduceLT, Int.reduceAdd, Int.reduceMul, Int.reduceSub, Int.reduceNeg, Nat.reduceAdd, Nat.reduceSub, Nat.reduceMul, Nat.reduceLT, Nat.reduceBEq, Nat.reduceEqDiff, Nat.reduceLeDiff]
    · have h0 : (a.length : Int) = b.length := by omega
      have hw1 : IntKind.wrap .i64 ((a.length : Int) - 1) = (a.length : Int) - 1 := by rw [wrap64 (by omega) (by omega)]
      have h00 : (b.length : Int) = a.length := by omega
      rw [if_neg h2]
      simp only [Try.f109, ii, h00, hw1, FT, Int.reduceEq, Int.reduceToNat, Int.reduceLE, Int.reduceLT, Int.reduceAdd, Int.reduceMul, Int.reduceSub, Int.reduceNeg, Nat.reduceAdd, Nat.reduceSub, Nat.reduceMul, Nat.reduceLT, Nat.reduceBEq, Nat.reduceEqDiff, Nat.reduceLeDiff]
      rw [evalCode_loopB LB109_6 lp109_6]; rotate_left; rfl; rfl; rfl
      generalize hz : loopR _ _ _ _ _ _ _ _ _ _ _ _ = z
      obtain ⟨l', ⟨rfl, he⟩ | ⟨rfl, he⟩⟩ := loop_size k a b nl nl2 cap cap2 ha hb (by omega) hla _ _ z hz hk (by rfl) (by rfl) (by rw [show (a.length : Int) - 1 - 0 = (a.length : Int) - 1 by omega]; rfl)
      · clear hz
        have hcm : cmpN (vd a) (vd b) = 0 := by
          rw [he]
          unfold cmpN
          rw [if_neg (by omega), if_neg (by omega)]
        rw [hcm]
        simp only [FT, Int.reduceEq, Int.reduceToNat, Int.reduceLE, Int.reduceLT, Int.reduceAdd, Int.reduceMul, Int.reduceSub, Int.reduceNeg, Nat.reduceAdd, Nat.reduceSub, Nat.reduceMul, Nat.reduceLT, Nat.reduceBEq, Nat.reduceEqDiff, Nat.reduceLeDiff]
      · clear hz
        simp only [he, FT, Int.reduceEq, Int.reduceToNat, Int.reduceLE, Int.reduceLT, Int.reduceAdd, Int.reduceMul, Int.reduceSub, Int.reduceNeg, Nat.reduceAdd, Nat.reduceSub, Nat.reduceMul, Nat.reduceLT, Nat.reduceBEq, Nat.reduceEqDiff, Nat.reduceLeDiff]
def rv (o : Option (Nat × List Nat)) (n : Nat) : AV := match o with
  | none => .c (.slice [] 0 true (some 0))
  | some (id, T) => .hsl id 0 n (n + T.length) 1
def RA (o : Option (Nat × List Nat)) (R : List Nat) (H : Heap) : Prop := match o with
  | none => R = []
  | some (id, T) => 0 < id ∧ H[id]? = some (rD (R ++ T))
theorem rv_none {n : Nat} : rv none n = .c (.slice [] 0 true (some 0)) := rfl
theorem rv_some {id n : Nat} {T : List Nat} : rv (some (id, T)) n = .hsl id 0 n (n + T.length) 1 := rfl
theorem rv_len {o : Option (Nat × List Nat)} {R : List Nat} {H : Heap} (h : RA o R H) : lenA Try.prog 41 (rv o R.length) = some (.c (.int .i64 R.length)) := by
  cases o with
  | none =>
    have e : R = [] := h
    subst e
    simp only [rv_none, List.length_nil, FT, Int.reduceEq, Int.reduceToNat, Int.reduceLE, Int.reduceLT, Int.reduceAdd, Int.reduceMul, Int.reduceSub, Int.reduceNeg, Nat.reduceAdd, Nat.reduceSub, Nat.reduceMul, Nat.reduceLT, Nat.reduceBEq, Nat.reduceEqDiff, Nat.reduceLeDiff]
    try rfl
  | some q =>
    obtain ⟨id, T⟩ := q
    simp only [rv_some, FT, Int.reduceEq, Int.reduceToNat, Int.reduceLE, Int.reduceLT, Int.reduceAdd, Int.reduceMul, Int.reduceSub, Int.reduceNeg, Nat.reduceAdd, Nat.reduceSub, Nat.reduceMul, Nat.reduceLT, Nat.reduceBEq, Nat.reduceEqDiff, Nat.reduceLeDiff]
theorem trim_hsl {m N i id off len ext sz : Nat} {l : Ass} {H : Heap} (hi : i < N) (h : asc l i = .hsl id off len ext sz) (hm : m ≤ H.length) : ∃ H', trim m (fr N l) H = H' ∧ m ≤ H'.length ∧ (∀ j, j < m → H'[j]? = H[j]?) ∧ H'[id]? = H[id]? := by
  by_cases hid : id < m
  · obtain ⟨H', h1, h2, h3⟩ := trim_old (L := m) (F := fr N l) hm
    exact ⟨H', h1, h2, h3, h3 id hid⟩
  · refine ⟨H, trim_not hi ?_, hm, fun _ _ => rfl, rfl⟩
    rw [h]
    show decide (id < m) = false
    exact decide_eq_false hid
def dbS (R : List Nat) (c : Nat) : Nat → List Nat × Nat
  | 0 => (R, c)
  | i + 1 => ((dbS R c i).1.set i (((dbS R c i).2 + 2 * (dbS R c i).1.getD i 0) % 65536), ((dbS R c i).2 + 2 * (dbS R c i).1.getD i 0) / 65536)
theorem dbS_ok {R : List Nat} {c : Nat} (hR : okD R) (hc : c ≤ 2) : ∀ i, (dbS R c i).1.length = R.length ∧ okD (dbS R c i).1 ∧ (dbS R c i).2 ≤ 2
  | 0 => ⟨rfl, hR, hc⟩
  | i + 1 => by
    obtain ⟨h1, h2, h3⟩ := dbS_ok hR hc i
    have := okD_get h2 i
    exact ⟨by rw [dbS, List.length_set]; exact h1, okD_set h2 (Nat.mod_lt _ (by omega)), by rw [dbS]; simp only; omega⟩
def dbH (o : Option (Nat × List Nat)) (P : List Nat) (H : Heap) : Heap := match o with
  | none => H
  | some (id, T) => H.set id (rD (P ++ T))
theorem dbH_length (o : Option (Nat × List Nat)) (P : List Nat) (H : Heap) : (dbH o P H).length = H.length := by
  unfold dbH; split <;> simp
theorem dbH_self {o : Option (Nat × List Nat)} {R : List Nat} {H : Heap} (h : RA o R H) : dbH o R H = H := by
  unfold dbH
  split
  · rfl
  · obtain ⟨h1, h2⟩ := h
    obtain ⟨h3, h4⟩ := List.getElem?_eq_some_iff.1 h2
    rw [← h4, List.set_getElem_self]
theorem loop_div18 (kf : Nat) (o : Option (Nat × List Nat)) (R : List Nat) (c : Nat) (H0 : Heap) (M : Nat) (hM : H0.length = M) (hA : RA o R H0) (hR : okD R) (hc2 : c ≤ 2) (hRl : R.length ≤ 1000000) (v0 v1 v9 v11 : AV) (k : Nat) (l : Ass) (z : Option Out) (hz : loopR Try.prog tab kf none LB149_18 149 124 [0, 1, 9, 10, 11, 12, 13] M k l H0 = z) (hk : R.length < k) (a0 : asc l 0 = v0) (a1 : asc l 1 = v1) (a9 : asc l 9 = v9) (a10 : asc l 10 = rv o R.length) (a11 : asc l 11 = v11) (a12 : asc l 12 = .c (.int .u32 ((dbS R c 0).2 : Nat))) (a13 : asc l 13 = ii 0) :
    ∃ l', z = some (.exit 4 (fr 124 l') (dbH o (dbS R c R.length).1 H0)) ∧ asc l' 0 = v0 ∧ asc l' 1 = v1 ∧ asc l' 9 = v9 ∧ asc l' 10 = rv o R.length ∧ asc l' 11 = v11 ∧ asc l' 12 = .c (.int .u32 ((dbS R c R.length).2 : Nat)) := by
  subst hz
  refine loop_nat R.length (fun k l H => loopR Try.prog tab kf none LB149_18 149 124 [0, 1, 9, 10, 11, 12, 13] M k l H)
    (fun i l H => asc l 0 = v0 ∧ asc l 1 = v1 ∧ asc l 9 = v9 ∧ asc l 10 = rv o R.length ∧ asc l 11 = v11 ∧ asc l 12 = .c (.int .u32 ((dbS R c i).2 : Nat)) ∧ asc l 13 = ii i ∧ ((H = dbH o (dbS R c i).1 H0)))
    (fun z => ∃ l', z = some (.exit 4 (fr 124 l') (dbH o (dbS R c R.length).1 H0)) ∧ asc l' 0 = v0 ∧ asc l' 1 = v1 ∧ asc l' 9 = v9 ∧ asc l' 10 = rv o R.length ∧ asc l' 11 = v11 ∧ asc l' 12 = .c (.int .u32 ((dbS R c R.length).2 : Nat))) ?_ R.length 0 k l _ (by omega) hk ⟨a0, a1, a9, a10, a11, a12, a13, (dbH_self hA).symm⟩
  clear hk a0 a1 a9 a10 a11 a12 a13
  rintro i k l H hi ⟨a0, a1, a9, a10, a11, a12, a13, hp⟩
  have ht : trim M (fr 124 (keep l [0, 1, 9, 10, 11, 12, 13])) H = H := by
    exact trim_same (by rw [hp, dbH_length]; exact hM)
  by_cases hc : i < R.length
  · have hc' : (i : Int) < ((R.length : Nat) : Int) := by omega
    have hc0 : (0 : Int) ≤ i := by omega
    have hw : IntKind.wrap .i64 ((i : Int) + 1) = ((i + 1 : Nat) : Int) := by rw [wrap64 (by omega) (by omega)]; omega
    obtain ⟨h1, h2, h3⟩ := dbS_ok hR hc2 i
    obtain ⟨id, T, rfl⟩ : ∃ id T, o = some (id, T) := by
      cases o with
      | none =>
        have : R = [] := hA
        rw [this] at hc; cases hc
      | some q => exact ⟨q.1, q.2, rfl⟩
    rw [rv_some] at a10
    have hS : dbS R c (i + 1) = ((dbS R c i).1.set i (((dbS R c i).2 + 2 * (dbS R c i).1.getD i 0) % 65536), ((dbS R c i).2 + 2 * (dbS R c i).1.getD i 0) / 65536) := rfl
    rw [hS]
    obtain ⟨hA1, hA2⟩ := hA
    have hidl := (List.getElem?_eq_some_iff.1 hA2).1
    obtain ⟨P, hP⟩ : ∃ P, P = (dbS R c i).1 := ⟨_, rfl⟩
    obtain ⟨d, hd⟩ : ∃ d, d = (dbS R c i).2 := ⟨_, rfl⟩
    rw [← hP] at h1 h2 hp ⊢
    rw [← hd] at h3 a12 ⊢
    have hHi : H[id]? = some (rD (P ++ T)) := by rw [hp]; exact List.getElem?_set_self hidl
    have hel : (encD (P ++ T)).length = R.length + T.length := by rw [encD_length, List.length_append, h1]
    have hro : rowOf H id (R.length + T.length) = some (102, encD (P ++ T)) := by
      unfold rowOf; rw [hHi]; simp [hel]
    have hli : rowLive H id = true := by unfold rowLive; rw [hHi]
    have hg : (P ++ T).getD i 0 = P.getD i 0 := by
      rw [List.getD_eq_getElem?_getD, List.getD_eq_getElem?_getD, List.getElem?_append_left (by omega)]
    have hx := encD_get (l := P ++ T) (i := i) (by rw [List.length_append]; omega)
    rw [hg] at hx
    have hsd : (P ++ T).set i ((d + 2 * P.getD i 0) % 65536) = P.set i ((d + 2 * P.getD i 0) % 65536) ++ T := List.set_append_left _ _ (by omega)
    have hdg := okD_get h2 i
    obtain ⟨x, hxx⟩ : ∃ x, x = P.getD i 0 := ⟨_, rfl⟩
    rw [← hxx] at hx hsd hdg ⊢
    have w1 : IntKind.wrap .u32 (2 * (x : Int)) = ((2 * x : Nat) : Int) := by rw [wrap32 (by omega) (by omega)]; omega
    have w2 : IntKind.wrap .u32 ((d : Int) + ((2 * x : Nat) : Int)) = ((d + 2 * x : Nat) : Int) := by rw [wrap32 (by omega) (by omega)]; omega
    have t1 := tmod16 (d + 2 * x)
    have t2 := tdiv16 (d + 2 * x)
    have w3 := wr32 (n := (d + 2 * x) / 65536) (by omega)
    have hiE : (i : Int) < ((R.length + T.length : Nat) : Int) := by omega
    have hiN : i < R.length + T.length := by omega
    have hle : R.length ≤ R.length + T.length := by omega
    simp only [loopR_succ, ht]
    simp only [a0, a1, a9, a10, a11, a12, a13, hc', hc0, hw, hro, hli, hHi, hel, hx, w1, w2, t1, t2, w3, hiE, hiN, hle, encD_set, hsd, loopR_succ, loopOf, findLoop, firstRegion, Option.some_or, Option.none_or, Option.getD_some, Option.some.injEq, Try.f149, FT, Int.reduceEq, Int.reduceToNat, Int.reduceLE, Int.reduceLT, Int.reduceAdd, Int.reduceMul, Int.reduceSub, Int.reduceNeg, Nat.reduceAdd, Nat.reduceSub, Nat.reduceMul, Nat.reduceLT, Nat.reduceBEq, Nat.reduceEqDiff, Nat.reduceLeDiff]
    refine .inr ⟨_, _, hc, rfl, (by rfl), (by rfl), (by rfl), (by rfl), (by rfl), (by rfl), (by rfl), ?_⟩
    rw [hp]
    simp [dbH]
  · refine .inl ?_
    obtain rfl : i = R.length := by omega
    have hc' : ¬ (((R.length : Nat) : Int) < ((R.length : Nat) : Int)) := by omega
    have hln := rv_len hA
    simp only [loopR_succ, ht]
    simp only [a0, a1, a9, a10, a11, a12, a13, hc', hln, loopR_succ, loopOf, findLoop, firstRegion, Option.some_or, Option.none_or, Option.getD_some, Option.some.injEq, Try.f149, FT, Int.reduceEq, Int.reduceToNat, Int.reduceLE, Int.reduceLT, Int.reduceAdd, Int.reduceMul, Int.reduceSub, Int.reduceNeg, Nat.reduceAdd, Nat.reduceSub, Nat.reduceMul, Nat.reduceLT, Nat.reduceBEq, Nat.reduceEqDiff, Nat.reduceLeDiff]
    rw [hp]
    exact ⟨_, rfl, (by rfl), (by rfl), (by rfl), (by rfl), (by rfl), (by rfl)⟩
end Go.Proofs.Sw
namespace Go.Proofs.Sw
open Go.Ab
variable [Globals]
theorem minus_raw (k : Nat) (a b : List Nat) (nl nl2 : Bool) (cap cap2 : Option Nat) (ha : okD a) (hb : okD b) (hla : a.length ≤ 100000) (hlb : b.length ≤ 100000) (hk : a.length < k) (hN : 0 < a.length) :
    evalT Try.prog (mkHints tab) (k+1) (.fn 148) [sD a nl cap, sD b nl2 cap2] [] = some (.hsl 0 0 a.length a.length 1, [rD (minusD a b)]) := by
  have hel : (encD (outM a b a.length)).length = a.length := by rw [encD_length, outM_length]
  rw [ev148]
  simp only [Try.f148, FT, Int.reduceEq, Int.reduceToNat, Int.reduceLE, Int.reduceLT, Int.reduceAdd, Int.reduceMul, Int.reduceSub, Int.reduceNeg, Nat.reduceAdd, Nat.reduceSub, Nat.reduceMul, Nat.reduceLT, Nat.reduceBEq, Nat.reduceEqDiff, Nat.reduceLeDiff]
  rw [evalCode_loopB LB148_4 lp148_4]; rotate_left; rfl; rfl; rfl
  generalize hz : loopR _ _ _ _ _ _ _ _ _ _ _ _ = z
  obtain ⟨l', rfl, e0, e1, e5, e6, e7⟩ := loop_minus k a b nl nl2 cap cap2 ha hb hla hlb _ _ z hz (by omega) (by rfl) (by rfl) (by rfl) (by rfl) (by rfl)
  clear hz
  have g1 := lv_pos (s := 0) (sz := 1) hN
  have g2 := lo_pos (e := 102) (cells := encD (outM a b a.length)) hN
  rw [Nat.mul_one] at g1
  rw [g1] at e5
  rw [g2]
  simp only [e0, e1, e5, e6, e7, hel, FT, Int.reduceEq, Int.reduceToNat, Int.reduceLE, Int.reduceLT, Int.reduceAdd, Int.reduceMul, Int.reduceSub, Int.reduceNeg, Nat.reduceAdd, Nat.reduceSub, Nat.reduceMul, Nat.reduceLT, Nat.reduceBEq, Nat.reduceEqDiff, Nat.reduceLeDiff]
  try rfl
theorem loop_normR (kf : Nat) (d : List Nat) (hl : d.length ≤ 1000000) (H0 : Heap) (M : Nat) (hM : H0.length = M) (id : Nat) (hd : H0[id]? = some (rD d)) (v0 v4 : AV) (k : Nat) (l : Ass) (z : Option Out) (hz : loopR Try.prog tab kf none LB69_2 69 29 [0, 1, 4, 5] M k l H0 = z) (hk : d.length - (trimD d).length < k) (a0 : asc l 0 = v0) (a1 : asc l 1 = .hsl id 0 d.length d.length 1) (a4 : asc l 4 = v4) (a5 : asc l 5 = ii ((d.length - 0 : Nat) : Int)) :
    ∃ l', z = some (.exit 0 (fr 29 l') H0) ∧ asc l' 0 = v0 ∧ asc l' 1 = .hsl id 0 d.length d.length 1 ∧ asc l' 4 = v4 ∧ asc l' 5 = ii (trimD d).length := by
  subst hz
  refine loop_nat (d.length - (trimD d).length) (fun k l H => loopR Try.prog tab kf none LB69_2 69 29 [0, 1, 4, 5] M k l H)
    (fun i l H => asc l 0 = v0 ∧ asc l 1 = .hsl id 0 d.length d.length 1 ∧ asc l 4 = v4 ∧ asc l 5 = ii ((d.length - i : Nat) : Int) ∧ ((H = H0)))
    (fun z => ∃ l', z = some (.exit 0 (fr 29 l') H0) ∧ asc l' 0 = v0 ∧ asc l' 1 = .hsl id 0 d.length d.length 1 ∧ asc l' 4 = v4 ∧ asc l' 5 = ii (trimD d).length) ?_ (d.length - (trimD d).length) 0 k l _ (by omega) hk ⟨a0, a1, a4, a5, rfl⟩
  clear hk a0 a1 a4 a5
  rintro i k l H hi ⟨a0, a1, a4, a5, hp⟩
  have ht : trim M (fr 29 (keep l [0, 1, 4, 5])) H = H := by
    rw [hp]
    exact trim_same hM
  by_cases hc : i < (d.length - (trimD d).length)
  · have hc' : (i : Int) < ((d.length - (trimD d).length : Nat) : Int) := by omega
    have hc0 : (0 : Int) ≤ i := by omega
    have hw : IntKind.wrap .i64 ((i : Int) + 1) = ((i + 1 : Nat) : Int) := by rw [wrap64 (by omega) (by omega)]; omega
    have htl := trim_len d
    obtain ⟨j, hj⟩ : ∃ j, d.length - i = j + 1 := ⟨d.length - i - 1, by omega⟩
    have e1 : d.length - (i + 1) = j := by omega
    have hz := trim_zero (l := d) (i := j) (by omega) (by omega)
    have hx := encD_get (l := d) (i := j) (by omega)
    rw [hz] at hx
    rw [hj] at a5
    rw [e1]
    have hel := encD_length d
    have hro : rowOf H id d.length = some (102, encD d) := by
      rw [hp]; unfold rowOf; rw [hd]; simp [hel]
    have hp1 : (0 : Int) < ((j + 1 : Nat) : Int) := by omega
    have hw1 : IntKind.wrap .i64 (((j + 1 : Nat) : Int) - 1) = (j : Int) := by rw [wrap64 (by omega) (by omega)]; omega
    have hj0 : (0 : Int) ≤ j := by omega
    have hj1 : (j : Int) < d.length := by omega
    have hjN : j < d.length := by omega
    simp only [loopR_succ, ht]
    simp only [a0, a1, a4, a5, hc', hc0, hw, hro, hel, hx, hp1, hw1, hj0, hj1, hjN, loopR_succ, loopOf, findLoop, firstRegion, Option.some_or, Option.none_or, Option.getD_some, Option.some.injEq, Try.f69, FT, Int.reduceEq, Int.reduceToNat, Int.reduceLE, Int.reduceLT, Int.reduceAdd, Int.reduceMul, Int.reduceSub, Int.reduceNeg, Nat.reduceAdd, Nat.reduceSub, Nat.reduceMul, Nat.reduceLT, Nat.reduceBEq, Nat.reduceEqDiff, Nat.reduceLeDiff]
    exact .inr ⟨_, _, hc, rfl, (by rfl), (by rfl), (by rfl), (by rfl), hp⟩
  · refine .inl ?_
    obtain rfl : i = (d.length - (trimD d).length) := by omega
    have hc' : ¬ ((((d.length - (trimD d).length) : Nat) : Int) < (((d.length - (trimD d).length) : Nat) : Int)) := by omega
    have htl := trim_len d
    have e1 : d.length - (d.length - (trimD d).length) = (trimD d).length := by omega
    rw [e1] at a5
    have hel := encD_length d
    have hro : rowOf H id d.length = some (102, encD d) := by
      rw [hp]; unfold rowOf; rw [hd]; simp [hel]
    by_cases h0 : (trimD d).length = 0
    · rw [h0] at a5 ⊢
      simp only [loopR_succ, ht]
      simp only [a0, a1, a4, a5, loopR_succ, loopOf, findLoop, firstRegion, Option.some_or, Option.none_or, Option.getD_some, Option.some.injEq, Try.f69, FT, Int.reduceEq, Int.reduceToNat, Int.reduceLE, Int.reduceLT, Int.reduceAdd, Int.reduceMul, Int.reduceSub, Int.reduceNeg, Nat.reduceAdd, Nat.reduceSub, Nat.reduceMul, Nat.reduceLT, Nat.reduceBEq, Nat.reduceEqDiff, Nat.reduceLeDiff]
      rw [hp]
      exact ⟨_, rfl, (by rfl), (by rfl), (by rfl), (by rfl)⟩
    · obtain ⟨j, hj⟩ : ∃ j, (trimD d).length = j + 1 := ⟨(trimD d).length - 1, by omega⟩
      have hlast := trim_last (l := d) (fun e => h0 (by rw [e]; rfl))
      have hx := encD_get (l := d) (i := j) (by omega)
      have hg : d.getD j 0 = (trimD d).getD j 0 := by
        rw [trim_take d, List.getD_eq_getElem?_getD, List.getD_eq_getElem?_getD, List.getElem?_take, if_pos (by omega)]
      rw [hj, show j + 1 - 1 = j by omega, ← hg] at hlast
      obtain ⟨y, hy⟩ : ∃ y, y = d.getD j 0 := ⟨_, rfl⟩
      rw [← hy] at hlast hx
      have hne : ¬ (y : Int) = 0 := by omega
      rw [hj] at a5 ⊢
      have hp1 : (0 : Int) < ((j + 1 : Nat) : Int) := by omega
      have hw1 : IntKind.wrap .i64 (((j + 1 : Nat) : Int) - 1) = (j : Int) := by rw [wrap64 (by omega) (by omega)]; omega
      have hj0 : (0 : Int) ≤ j := by omega
      have hj1 : (j : Int) < d.length := by omega
      have hjN : j < d.length := by omega
      simp only [loopR_succ, ht]
      simp only [a0, a1, a4, a5, hro, hel, hx, hp1, hw1, hj0, hj1, hjN, hne, loopR_succ, loopOf, findLoop, firstRegion, Option.some_or, Option.none_or, Option.getD_some, Option.some.injEq, Try.f69, FT, Int.reduceEq, Int.reduceToNat, Int.reduceLE, Int.reduceLT, Int.reduceAdd, Int.reduceMul, Int.reduceSub, Int.reduceNeg, Nat.reduceAdd, Nat.reduceSub, Nat.reduceMul, Nat.reduceLT, Nat.reduceBEq, Nat.reduceEqDiff, Nat.reduceLeDiff]
      rw [hp]
      exact ⟨_, rfl, (by rfl), (by rfl), (by rfl), (by rfl)⟩
theorem norm_raw (k : Nat) (d : List Nat) (hl : d.length ≤ 1000000) (H : Heap) (id : Nat) (hd : H[id]? = some (rD d)) (hk : d.length < k) :
    ∃ G, evalT Try.prog (mkHints tab) (k+1) (.fn 69) [bb false, .hsl id 0 d.length d.length 1] H = some (.agg [bb false, .hsl id 0 (trimD d).length d.length 1], H ++ G) := by
  have htl := trim_len d
  have hidl := (List.getElem?_eq_some_iff.1 hd).1
  rw [ev69]
  simp only [Try.f69, bb, FT, Int.reduceEq, Int.reduceToNat, Int.reduceLE, Int.reduceLT, Int.reduceAdd, Int.reduceMul, Int.reduceSub, Int.reduceNeg, Nat.reduceAdd, Nat.reduceSub, Nat.reduceMul, Nat.reduceLT, Nat.reduceBEq, Nat.reduceEqDiff, Nat.reduceLeDiff]
  rw [evalCode_loopB LB69_2 lp69_2]; rotate_left; rfl; rfl; rfl
  generalize hz : loopR _ _ _ _ _ _ _ _ _ _ _ _ = z
  have hd' : (H ++ [AObj.cells 43 [.c (.bool false), .c (.slice [] 0 true (some 0))]])[id]? = some (rD d) := by
    rw [List.getElem?_append_left hidl]; exact hd
  obtain ⟨l', rfl, e0, e1, e4, e5⟩ := loop_normR k d hl _ _ rfl id hd' _ _ _ _ z hz (by omega) (by rfl) (by rfl) (by rfl) (by rfl)
  clear hz
  have hel := encD_length d
  have hro : ∀ G, rowOf (H ++ G) id d.length = some (102, encD d) := fun G => by
    unfold rowOf; rw [List.getElem?_append_left hidl, hd]; simp [hel]
  have hnew : (H ++ [AObj.cells 43 [.c (.bool false), .c (.slice [] 0 true (some 0))]])[H.length]? = some (AObj.cells 43 [.c (.bool false), .c (.slice [] 0 true (some 0))]) := by simp
  have h1 : ((trimD d).length : Int) ≤ d.length := by omega
  have h0 : (0 : Int) ≤ (trimD d).length := by omega
  have hsl : ∀ G, sliceO (H ++ G) 1 (.hsl id 0 d.length d.length 1) none (some (ii (trimD d).length)) = some (.hsl id 0 (trimD d).length d.length 1) := fun G => by
    simp only [sliceO, boundA]
    rw [hro G]
    simp [htl]
  have hset : ∀ a b : AObj, (H ++ [a]).set H.length b = H ++ [b] := fun a b => by rw [List.set_append_right _ _ (Nat.le_refl _), Nat.sub_self]; rfl
  have hnew2 : ∀ a : AObj, (H ++ [a])[H.length]? = some a := fun a => by simp
  simp only [e0, e1, e4, e5, hsl, hnew, hset, hnew2, FT, Int.reduceEq, Int.reduceToNat, Int.reduceLE, Int.reduceLT, Int.reduceAdd, Int.reduceMul, Int.reduceSub, Int.reduceNeg, Nat.reduceAdd, Nat.reduceSub, Nat.reduceMul, Nat.reduceLT, Nat.reduceBEq, Nat.reduceEqDiff, Nat.reduceLeDiff]
  split
  · exact ⟨[], by simp⟩
  · exact ⟨_, rfl⟩
end Go.Proofs.Sw
namespace Go.Proofs.Sw
open Go.Ab
variable [Globals]
def orV (q k : Nat) : Nat := (BitVec.ofInt 32 (q : Int) ||| BitVec.ofInt 32 ((2 ^ (k % 16) : Nat) : Int)).toNat
theorem p16 (k : Nat) : 2 ^ (k % 16) < 65536 := Nat.lt_of_lt_of_le (Nat.pow_lt_pow_right (by omega) (Nat.mod_lt k (show 16 > 0 by omega))) (by decide)
theorem ofInt_nat {n : Nat} (h : n < 65536) : (BitVec.ofInt 32 (n : Int)).toNat = n := by
  rw [BitVec.ofInt_natCast, BitVec.toNat_ofNat]
  exact Nat.mod_eq_of_lt (by omega)
theorem orV_lt {q k : Nat} (h : q < 65536) : orV q k < 65536 := by
  unfold orV
  rw [BitVec.toNat_or, ofInt_nat h, ofInt_nat (p16 k)]
  exact Nat.or_lt_two_pow (n := 16) h (p16 k)
theorem orU {H : Heap} {t : TypeId} {q k : Nat} (h : q < 65536) : binA Try.prog H .or t (.c (.int .u32 (q : Int))) (.c (.int .u32 ((2 ^ (k % 16) : Nat) : Int))) = some (.c (.int .u32 (orV q k : Nat))) := by
  have e : binA Try.prog H .or t (.c (.int .u32 (q : Int))) (.c (.int .u32 ((2 ^ (k % 16) : Nat) : Int))) = some (.c (.int .u32 (IntKind.wrap .u32 (orV q k : Nat)))) := rfl
  rw [e, wr32]
  have := orV_lt (k := k) h
  omega
def dgR (a R : List Nat) (k : Nat) : List Nat := if 0 < (dbS R (bitV a k) R.length).2 then (dbS R (bitV a k) R.length).1 ++ [(dbS R (bitV a k) R.length).2] else (dbS R (bitV a k) R.length).1
def dgS (a b : List Nat) : Nat → List Nat × List Nat
  | 0 => (List.replicate a.length 0, [])
  | i + 1 => if 0 ≤ szD (dgR a (dgS a b i).2 (bitsV a - 1 - i)) b
    then ((dgS a b i).1.set ((bitsV a - 1 - i) / 16) (orV ((dgS a b i).1.getD ((bitsV a - 1 - i) / 16) 0) (bitsV a - 1 - i)), trimD (minusD (dgR a (dgS a b i).2 (bitsV a - 1 - i)) b))
    else ((dgS a b i).1, dgR a (dgS a b i).2 (bitsV a - 1 - i))
theorem okD_snoc {l : List Nat} {d : Nat} (h : okD l) (hd : d < 65536) : okD (l ++ [d]) := fun x hx => by
  rcases List.mem_append.1 hx with hx | hx
  · exact h x hx
  · rw [List.mem_singleton.1 hx]; exact hd
theorem dgR_ok {a R : List Nat} {k : Nat} (hR : okD R) : okD (dgR a R k) ∧ (dgR a R k).length ≤ R.length + 1 := by
  obtain ⟨h1, h2, h3⟩ := dbS_ok hR (show bitV a k ≤ 2 by have := bitV_le a k; omega) R.length
  unfold dgR
  split
  · exact ⟨okD_snoc h2 (by omega), by rw [List.length_append, h1]; simp⟩
  · exact ⟨h2, by omega⟩
theorem dgS_ok {a b : List Nat} (hb : okD b) : ∀ i, (dgS a b i).1.length = a.length ∧ okD (dgS a b i).1 ∧ okD (dgS a b i).2 ∧ (dgS a b i).2.length ≤ i
  | 0 => ⟨by simp [dgS], fun d hd => by rw [dgS] at hd; rw [List.eq_of_mem_replicate hd]; omega, okD_nil, by simp [dgS]⟩
  | i + 1 => by
    obtain ⟨h1, h2, h3, h4⟩ := dgS_ok (a := a) hb i
    obtain ⟨h5, h6⟩ := dgR_ok (a := a) (k := bitsV a - 1 - i) h3
    rw [dgS]
    split
    · refine ⟨by rw [List.length_set]; exact h1, okD_set h2 (orV_lt (okD_get h2 _)), ?_, ?_⟩
      · rw [trim_take]
        exact fun d hd => minusD_ok h5 hb d (List.mem_of_mem_take hd)
      · have h7 := trim_len (minusD (dgR a (dgS a b i).2 (bitsV a - 1 - i)) b)
        rw [minusD_len] at h7
        simp only
        omega
    · exact ⟨h1, h2, h5, by simp only; omega⟩
theorem encD_sc : ∀ l : List Nat, (encD l).all IV.scalar = true
  | [] => rfl
  | b :: l => by
    show (IV.int .u32 (b : Int) :: encD l).all IV.scalar = true
    rw [List.all_cons, encD_sc l]; rfl
theorem viewD {N : Nat} {l : List Nat} {H : Heap} : keepV (some (.hsl 0 0 N N 1, [rD l])) H = some (.hsl H.length 0 N N 1, H ++ [rD l]) := by
  show (if _ ∧ _ then _ else _) = _
  rw [if_pos ⟨rfl, by show (List.all (encD l) IV.scalar && true) = true; rw [encD_sc]; rfl⟩]
  rfl
theorem appR {o : Option (Nat × List Nat)} {P : List Nat} {H : Heap} {x y : Nat} (h : RA o P H) (hb : P.length ≤ 1000000) (h0 : 1 ≤ H.length) : ∃ id T H3, apO 102 1 4 none (rv o P.length) (H ++ [rD [y]]) (some ([.int .u32 (x : Int)], 1)) = some (rv (some (id, T)) (P.length + 1), H3) ∧ 0 < id ∧ H3[id]? = some (rD (P ++ [x] ++ T)) ∧ H3[0]? = H[0]? := by
  cases o with
  | none =>
    have e : P = [] := h
    subst e
    have := apO_nil (e := 102) (sz := 1) (by_ := 4) (m := 1) (nl := true) (H := H ++ [rD [y]]) (cs := [.int .u32 (x : Int)]) (by decide) (Nat.le_trans (show 1 * 4 ≤ 1000000 by decide) (by decide))
    refine ⟨(H ++ [rD [y]]).length, [], (H ++ [rD [y]]) ++ [rD [x]], this, by simp, by simp, ?_⟩
    rw [List.getElem?_append_left (by simp), List.getElem?_append_left (by omega)]
  | some q =>
    obtain ⟨id, T⟩ := q
    obtain ⟨h1, h2⟩ := h
    have hidl := (List.getElem?_eq_some_iff.1 h2).1
    have h3 : (H ++ [rD [y]])[id]? = some (rD (P ++ T)) := by rw [List.getElem?_append_left hidl]; exact h2
    have hel : (encD (P ++ T)).length = P.length + T.length := by rw [encD_length, List.length_append]
    have hro : rowOf (H ++ [rD [y]]) id (P.length + T.length) = some (102, encD (P ++ T)) := by unfold rowOf; rw [h3]; simp [hel]
    have hli : rowLive (H ++ [rD [y]]) id = true := by unfold rowLive; rw [h3]
    have hrb : (P.length + 1) * 4 ≤ Ab.roomBytes := Nat.le_trans (show (P.length + 1) * 4 ≤ 4000004 by omega) (by decide)
    have htk : (encD (P ++ T)).take P.length = encD P := by rw [encD_take, List.take_left' rfl]
    have h0' : ∀ X : AObj, ((H ++ [rD [y]]).set id X)[0]? = H[0]? := fun X => by
      rw [List.getElem?_set_ne (by omega), List.getElem?_append_left (by omega)]
    have hst : ∀ X : AObj, ((H ++ [rD [y]]).set id X)[id]? = some X := fun X => List.getElem?_set_self (by simp; omega)
    cases T with
    | nil =>
      refine ⟨id, [], (H ++ [rD [y]]).set id (rD (P ++ [x])), ?_, h1, by rw [hst]; simp, h0' _⟩
      simp only [rv_some, List.length_nil, Nat.add_zero] at hro ⊢
      unfold apO
      simp only [Option.bind_some, hro]
      rw [if_neg (by omega), if_pos ⟨trivial, trivial, by omega, hrb, trivial, hli⟩, if_neg (by omega)]
      simp only [Nat.mul_one, htk]
      simp [encD, rD]
    | cons t T =>
      refine ⟨id, T, (H ++ [rD [y]]).set id (rD (P ++ [x] ++ T)), ?_, h1, by rw [hst], h0' _⟩
      simp only [rv_some] at hro ⊢
      unfold apO
      simp only [Option.bind_some, hro]
      have hdr : (encD (P ++ t :: T)).drop (P.length + 1) = encD T := by
        rw [encD, ← List.map_drop]
        congr 1
        rw [List.drop_append]
        simp
      rw [if_neg (by omega), if_pos ⟨trivial, trivial, by omega, hrb, trivial, hli⟩, if_pos (by simp)]
      simp only [Nat.mul_one, htk, hdr]
      simp [encD, rD]
      try omega
end Go.Proofs.Sw
