/- A part of the proof: what functions of the program answer; conditions stand in each theorem. -/
import Derived.Test.YtiiannaficbjeaaDoorVC
import Derived.Test.YtiiannaficbjeaaDoorVA
import Derived.Test.YtiiannaficbjeaaDoorRows
import Derived.Test.YtiiannaficbjeaaDoorChecked
import Derived.Test.YtiiannaficbjeaaDoorAbLaw
import Derived.ProofKit
import Derived.LaidMore
import Derived.OpenShut
import Derived.Stop.Joined
import Derived.WalkKit
set_option linter.unusedVariables false
set_option linter.unusedSimpArgs false
set_option linter.unusedSectionVars false
namespace Go.Proofs.Sw.W
open Go.Ab
theorem ediv_uniq {x y n m : Int} (hy : y ≠ 0) (h : y * n + m = x) (h0 : 0 ≤ m) (h1 : m < y.natAbs) : n = x / y ∧ m = x % y := by
  by_cases hp : 0 < y
  · have := (Int.ediv_emod_unique (a := x) (b := y) (r := m) (q := n) hp).2 ⟨by omega, h0, by omega⟩
    exact ⟨this.1.symm, this.2.symm⟩
  · have := (Int.ediv_emod_unique (a := x) (b := -y) (r := m) (q := -n) (by omega)).2 ⟨by rw [Int.neg_mul_neg]; omega, h0, by omega⟩
    rw [Int.ediv_neg, Int.emod_neg] at this
    exact ⟨by omega, this.2.symm⟩
def dN (x y : Int) : Int := sgn (!(decide (x < 0) == decide (y < 0))) (x.natAbs / y.natAbs)
def dM (x y : Int) : Int := sgn (decide (x < 0)) (x.natAbs % y.natAbs)
theorem dNM (x y : Int) (hy : y ≠ 0) : (dM x y < 0 → dN x y - (if y < 0 then -1 else if 0 < y then 1 else 0) = x / y ∧ dM x y + y.natAbs = x % y) ∧ (¬ dM x y < 0 → dN x y = x / y ∧ dM x y = x % y) := by
  obtain ⟨X, hX⟩ : ∃ X, X = x.natAbs := ⟨_, rfl⟩
  obtain ⟨Y, hY⟩ : ∃ Y, Y = y.natAbs := ⟨_, rfl⟩
  have hYp : 0 < Y := by omega
  have h1 := Nat.div_add_mod X Y
  have h2 := Nat.mod_lt X hYp
  unfold dN dM
  rw [← hX, ← hY]
  obtain ⟨q, hq⟩ : ∃ q, q = X / Y := ⟨_, rfl⟩
  obtain ⟨r, hr⟩ : ∃ r, r = X % Y := ⟨_, rfl⟩
  rw [← hq, ← hr] at h1 ⊢
  rw [← hr] at h2
  obtain ⟨Z, hZ⟩ : ∃ Z : Int, Z = (Y : Int) * (q : Int) := ⟨_, rfl⟩
  have hZ1 : Z + r = X := by rw [hZ, ← Int.natCast_mul]; omega
  by_cases hx : x < 0 <;> by_cases hyn : y < 0
  · have ey : y = -(Y : Int) := by omega
    have ex : x = -(X : Int) := by omega
    simp only [hx, hyn, decide_true, sgn, if_true]
    constructor
    · intro hm
      refine ediv_uniq hy ?_ (by omega) (by omega)
      rw [ey, Int.mul_sub, Int.neg_mul]
      simp
      omega
    · intro hm
      refine ediv_uniq hy ?_ (by omega) (by omega)
      rw [ey, Int.neg_mul]
      simp
      omega
  · have ey : y = (Y : Int) := by omega
    have ex : x = -(X : Int) := by omega
    have hyp : 0 < y := by omega
    simp only [hx, hyn, hyp, decide_true, decide_false, sgn, if_true, if_false]
    constructor
    · intro hm
      refine ediv_uniq hy ?_ (by omega) (by omega)
      rw [ey, Int.mul_sub]
      simp [Int.mul_neg]
      omega
    · intro hm
      refine ediv_uniq hy ?_ (by omega) (by omega)
      rw [ey]
      simp [Int.mul_neg]
      omega
  · have ey : y = -(Y : Int) := by omega
    have ex : x = (X : Int) := by omega
    simp only [hx, hyn, decide_true, decide_false, sgn, if_true]
    constructor
    · intro hm
      exfalso
      simp at hm
      omega
    · intro hm
      refine ediv_uniq hy ?_ (by simp) (by simp; omega)
      rw [ey]
      simp [Int.neg_mul, Int.mul_neg]
      omega
  · have ey : y = (Y : Int) := by omega
    have ex : x = (X : Int) := by omega
    simp only [hx, hyn, decide_false, sgn]
    constructor
    · intro hm
      exfalso
      simp at hm
      omega
    · intro hm
      refine ediv_uniq hy ?_ (by simp) (by simp; omega)
      rw [ey]
      simp
      omega
section
variable [Globals]
theorem nD_sgn (b : Bool) (n : Nat) : nD (sgn b n) = dig n := by rw [nD, sgn_abs]
theorem nD_one {c : Int} (h : c.natAbs ≤ 1) : (nD c).length ≤ 1 := dig_len (k := 1) (by omega)
theorem DivMod_ev (k : Nat) (x y : RI) (hy : y.v ≠ 0) (hx : (nD x.v).length ≤ 40000) (hyl : (nD y.v).length ≤ 40000) (hk : (nD x.v).length + (nD y.v).length + 120 < k) :
    ∃ z w : RI, z.v = x.v / y.v ∧ w.v = x.v % y.v ∧ run (k+7) 82 [aW x, aW y] = some (.tup [aW z, aW w, ii 0]) := by
  obtain ⟨nl3, cap3, nl4, cap4, hd⟩ := div_ev (k + 1) (nD x.v) (nD y.v) x.nl y.nl x.cap y.cap (can_dig _).ok (can_dig _) (dig_pos (by omega)) (by omega) (by omega) (by omega)
  rw [vd_dig, vd_dig] at hd
  have hm1 := made_ev (k + 5) (!(decide (x.v < 0) == decide (y.v < 0))) (x.v.natAbs / y.v.natAbs) nl3 cap3
  have hm2 := made_ev (k + 5) (decide (x.v < 0)) (x.v.natAbs % y.v.natAbs) nl4 cap4
  have hval := dNM x.v y.v hy
  have hnl : (nD (dN x.v y.v)).length ≤ 40000 := by
    rw [dN, nD_sgn]
    exact Nat.le_trans (dig_len_mono (Nat.div_le_self _ _)) hx
  have hml : (nD (dM x.v y.v)).length ≤ 40000 := by
    rw [dM, nD_sgn]
    exact Nat.le_trans (dig_len_mono (Nat.mod_le _ _)) hx
  have hnl2 : (nD (dN x.v y.v)).length ≤ (nD x.v).length := by
    rw [dN, nD_sgn]
    exact dig_len_mono (Nat.div_le_self _ _)
  have hml2 : (nD (dM x.v y.v)).length ≤ (nD x.v).length := by
    rw [dM, nD_sgn]
    exact dig_len_mono (Nat.mod_le _ _)
  rw [show sgn (!(decide (x.v < 0) == decide (y.v < 0))) (x.v.natAbs / y.v.natAbs) = dN x.v y.v from rfl] at hm1
  rw [show sgn (decide (x.v < 0)) (x.v.natAbs % y.v.natAbs) = dM x.v y.v from rfl] at hm2
  obtain ⟨n0, hn0⟩ : ∃ n0 : RI, n0 = ⟨dN x.v y.v, nl3, cap3⟩ := ⟨_, rfl⟩
  obtain ⟨m0, hm0⟩ : ∃ m0 : RI, m0 = ⟨dM x.v y.v, nl4, cap4⟩ := ⟨_, rfl⟩
  have hn0v : n0.v = dN x.v y.v := by rw [hn0]
  have hm0v : m0.v = dM x.v y.v := by rw [hm0]
  rw [← hn0] at hm1
  rw [← hm0] at hm2
  by_cases hneg : dM x.v y.v < 0
  · obtain ⟨ab, hab, h1⟩ := Abs_ev (k + 4) y
    have habl : (nD ab.v).length = (nD y.v).length := by rw [hab]; simp [nD]
    obtain ⟨w, hw, h2⟩ := Add_ev (k + 2) m0 ab (by rw [hm0v]; omega) (by omega) (by rw [hm0v]; omega)
    have h3 := Sign_ev (k + 5) y
    obtain ⟨sg, hsg⟩ : ∃ sg : Int, sg = (if y.v < 0 then -1 else if 0 < y.v then 1 else 0) := ⟨_, rfl⟩
    have hsg1 : sg.natAbs ≤ 1 := by rw [hsg]; split <;> (try split) <;> decide
    rw [← hsg] at h3 hval
    obtain ⟨o, ho, h4⟩ := Of_ev (k + 2) sg (by omega) (by omega) (by omega)
    have hol := nD_one (c := o.v) (by rw [ho]; exact hsg1)
    obtain ⟨z, hz, h5⟩ := Sub_ev (k + 1) n0 o (by rw [hn0v]; omega) (by omega) (by rw [hn0v]; omega)
    obtain ⟨v1, v2⟩ := hval.1 hneg
    refine ⟨z, w, by rw [hz, hn0v, ho, v1], by rw [hw, hm0v, hab, v2], ?_⟩
    have hneg' : m0.v < 0 := by rw [hm0v]; exact hneg
    simp only [run, aW, bb, ii, hneg', decide_true] at hd hm1 hm2 h1 h2 h3 h4 h5
    rw [run, ev82, ans_trim]
    simp only [Tryd.f82, aW, bb, ii, hd, FT, Int.reduceEq, Int.reduceToNat, Int.reduceLE, Int.reduceLT, Int.reduceAdd, Int.reduceMul, Int.reduceSub, Int.reduceNeg, Nat.reduceAdd, Nat.reduceSub, Nat.reduceMul, Nat.reduceLT, Nat.reduceBEq, Nat.reduceEqDiff, Nat.reduceLeDiff]
    rw [evalCode_drawn Tryd.f82 4 dr82_4]; rotate_left; rfl
    simp (config := { maxSteps := 1000000 }) only [hm1, hm2, hneg', decide_true, EVd, List.getElem?_nil, Nat.reducePow, Nat.reduceDiv, Nat.reduceMod, FT, Int.reduceEq, Int.reduceToNat, Int.reduceLE, Int.reduceLT, Int.reduceAdd, Int.reduceMul, Int.reduceSub, Int.reduceNeg, Nat.reduceAdd, Nat.reduceSub, Nat.reduceMul, Nat.reduceLT, Nat.reduceBEq, Nat.reduceEqDiff, Nat.reduceLeDiff]
    rw [evalCode_drawn Tryd.f82 6 dr82_6]; rotate_left; rfl
    simp (config := { maxSteps := 1000000 }) only [h1, h2, EVd, List.getElem?_nil, Nat.reducePow, Nat.reduceDiv, Nat.reduceMod, FT, Int.reduceEq, Int.reduceToNat, Int.reduceLE, Int.reduceLT, Int.reduceAdd, Int.reduceMul, Int.reduceSub, Int.reduceNeg, Nat.reduceAdd, Nat.reduceSub, Nat.reduceMul, Nat.reduceLT, Nat.reduceBEq, Nat.reduceEqDiff, Nat.reduceLeDiff]
    rw [evalCode_drawn Tryd.f82 7 dr82_7]; rotate_left; rfl
    simp (config := { maxSteps := 1000000 }) only [h3, h4, h5, EVd, List.getElem?_nil, Nat.reducePow, Nat.reduceDiv, Nat.reduceMod, FT, Int.reduceEq, Int.reduceToNat, Int.reduceLE, Int.reduceLT, Int.reduceAdd, Int.reduceMul, Int.reduceSub, Int.reduceNeg, Nat.reduceAdd, Nat.reduceSub, Nat.reduceMul, Nat.reduceLT, Nat.reduceBEq, Nat.reduceEqDiff, Nat.reduceLeDiff]
    rw [evalCode_drawn Tryd.f82 8 dr82_8]; rotate_left; rfl
    simp (config := { maxSteps := 1000000 }) only [aW, bb, EVd, List.getElem?_nil, Nat.reducePow, Nat.reduceDiv, Nat.reduceMod, FT, Int.reduceEq, Int.reduceToNat, Int.reduceLE, Int.reduceLT, Int.reduceAdd, Int.reduceMul, Int.reduceSub, Int.reduceNeg, Nat.reduceAdd, Nat.reduceSub, Nat.reduceMul, Nat.reduceLT, Nat.reduceBEq, Nat.reduceEqDiff, Nat.reduceLeDiff]
  · obtain ⟨v1, v2⟩ := hval.2 hneg
    refine ⟨n0, m0, by rw [hn0v, v1], by rw [hm0v, v2], ?_⟩
    have hneg' : ¬ m0.v < 0 := by rw [hm0v]; exact hneg
    simp only [run, aW, bb, ii, hneg', decide_false] at hd hm1 hm2
    rw [run, ev82, ans_trim]
    simp only [Tryd.f82, aW, bb, ii, hd, FT, Int.reduceEq, Int.reduceToNat, Int.reduceLE, Int.reduceLT, Int.reduceAdd, Int.reduceMul, Int.reduceSub, Int.reduceNeg, Nat.reduceAdd, Nat.reduceSub, Nat.reduceMul, Nat.reduceLT, Nat.reduceBEq, Nat.reduceEqDiff, Nat.reduceLeDiff]
    rw [evalCode_drawn Tryd.f82 4 dr82_4]; rotate_left; rfl
    simp (config := { maxSteps := 1000000 }) only [hm1, hm2, hneg', decide_false, EVd, List.getElem?_nil, Nat.reducePow, Nat.reduceDiv, Nat.reduceMod, FT, Int.reduceEq, Int.reduceToNat, Int.reduceLE, Int.reduceLT, Int.reduceAdd, Int.reduceMul, Int.reduceSub, Int.reduceNeg, Nat.reduceAdd, Nat.reduceSub, Nat.reduceMul, Nat.reduceLT, Nat.reduceBEq, Nat.reduceEqDiff, Nat.reduceLeDiff]
    rw [evalCode_drawn Tryd.f82 8 dr82_8]; rotate_left; rfl
    simp (config := { maxSteps := 1000000 }) only [aW, bb, hneg', decide_false, EVd, List.getElem?_nil, Nat.reducePow, Nat.reduceDiv, Nat.reduceMod, FT, Int.reduceEq, Int.reduceToNat, Int.reduceLE, Int.reduceLT, Int.reduceAdd, Int.reduceMul, Int.reduceSub, Int.reduceNeg, Nat.reduceAdd, Nat.reduceSub, Nat.reduceMul, Nat.reduceLT, Nat.reduceBEq, Nat.reduceEqDiff, Nat.reduceLeDiff]
theorem power_ev (k n : Nat) (hn : n ≤ 1000) (hk : n + 50 < k) : ∃ z : RI, z.v = ((2 ^ n : Nat) : Int) ∧ run (k+6) 98 [ii n] = some (aW z) := by
  obtain ⟨o, ho, h1⟩ := Of_ev (k + 1) 1 (by omega) (by omega) (by omega)
  have hol : (dig o.v.natAbs).length ≤ 1 := nD_one (by rw [ho]; decide)
  have h2 := shl_ev (k + 2) (dig o.v.natAbs) n o.nl o.cap (can_dig _).ok (by omega) (by omega) (by omega)
  rw [vd_dig, ho, show Int.natAbs 1 * 2 ^ n = 2 ^ n by simp] at h2
  have h3 := made_ev (k + 3) false (2 ^ n) false (some (dig (2 ^ n)).length)
  refine ⟨⟨sgn false (2 ^ n), false, some (dig (2 ^ n)).length⟩, by simp [sgn], ?_⟩
  have hn1 : ¬ o.v < 0 := by omega
  have hsh : run (k + 5) 113 [aW o, ii n] = some (.tup [aW ⟨sgn false (2 ^ n), false, some (dig (2 ^ n)).length⟩, ii 0]) := by
    simp only [run, aW, bb, ii, ho] at h2 h3
    rw [run, ev113, ans_trim]
    simp only [Tryd.f113, aW, bb, ii, ho, h2, h3, FT, Int.reduceEq, Int.reduceToNat, Int.reduceLE, Int.reduceLT, Int.reduceAdd, Int.reduceMul, Int.reduceSub, Int.reduceNeg, Nat.reduceAdd, Nat.reduceSub, Nat.reduceMul, Nat.reduceLT, Nat.reduceBEq, Nat.reduceEqDiff, Nat.reduceLeDiff]
    try simp only [show ¬ (1 : Int) < 0 by decide, decide_false, h3, FT, Int.reduceEq, Int.reduceToNat, Int.reduceLE, Int.reduceLT, Int.reduceAdd, Int.reduceMul, Int.reduceSub, Int.reduceNeg, Nat.reduceAdd, Nat.reduceSub, Nat.reduceMul, Nat.reduceLT, Nat.reduceBEq, Nat.reduceEqDiff, Nat.reduceLeDiff]
  simp only [run, aW, bb, ii] at h1 hsh
  rw [run, ev98, ans_trim]
  simp only [Tryd.f98, aW, bb, ii, h1, hsh, FT, Int.reduceEq, Int.reduceToNat, Int.reduceLE, Int.reduceLT, Int.reduceAdd, Int.reduceMul, Int.reduceSub, Int.reduceNeg, Nat.reduceAdd, Nat.reduceSub, Nat.reduceMul, Nat.reduceLT, Nat.reduceBEq, Nat.reduceEqDiff, Nat.reduceLeDiff]
end
end Go.Proofs.Sw.W
namespace Go.Proofs.Sw.W
open Go.Ab
def numF (op c a b : Int) : Option Int :=
  if op = 2 then some (-a) else if op = 3 then some (a + b) else if op = 4 then some (a - b) else
  if op = 5 then some (a * c) else if op = 7 then some (a * ((2 ^ c.toNat : Nat) : Int)) else
  if op = 6 then (if a % c = 0 then some (a / c) else none) else
  if op = 8 then (if a % ((2 ^ c.toNat : Nat) : Int) = 0 then some (a / ((2 ^ c.toNat : Nat) : Int)) else none) else some a
def numSem : Sem Int where
  f := numF
  d := 0
  G := fun _ => True
  one := fun c a b => rfl
  two := fun o c a b b' h3 h4 => by simp only [numF, h3, h4, if_false]
  comm := fun c a b _ _ => by show some _ = some _; rw [Int.add_comm]
  good := fun _ _ _ _ _ _ _ _ => trivial
  gd := trivial
section
variable [Globals]
theorem nD_lt (x : Int) : x.natAbs < 4294967296 ^ (nD x).length := by
  have := vd_lt (can_dig x.natAbs).ok
  rwa [vd_dig] at this
theorem nD_mul (x y : Int) : (nD (x * y)).length ≤ (nD x).length + (nD y).length := by
  refine dig_len ?_
  rw [Int.natAbs_mul, Nat.pow_add]
  exact Nat.mul_lt_mul'' (nD_lt x) (nD_lt y)
theorem nD_add (x y : Int) {n : Nat} (hx : (nD x).length ≤ n) (hy : (nD y).length ≤ n) : (nD (x + y)).length ≤ n + 1 := by
  refine dig_len ?_
  have h1 := nD_lt x
  have h2 := nD_lt y
  have h3 : 4294967296 ^ (nD x).length ≤ 4294967296 ^ n := Nat.pow_le_pow_right (by omega) hx
  have h4 : 4294967296 ^ (nD y).length ≤ 4294967296 ^ n := Nat.pow_le_pow_right (by omega) hy
  have h5 : 4294967296 ^ (n + 1) = 4294967296 ^ n * 4294967296 := Nat.pow_succ ..
  omega
theorem nD_neg (x : Int) : nD (-x) = nD x := by simp [nD]
theorem nD_sub (x y : Int) {n : Nat} (hx : (nD x).length ≤ n) (hy : (nD y).length ≤ n) : (nD (x - y)).length ≤ n + 1 := by
  rw [Int.sub_eq_add_neg]
  exact nD_add _ _ hx (by rw [nD_neg]; exact hy)
theorem nD_div (x y : Int) (hy : y ≠ 0) : (nD (x / y)).length ≤ (nD x).length + 1 := by
  obtain ⟨h1, h2⟩ := dNM x y hy
  have hq : (nD (dN x y)).length ≤ (nD x).length := by
    rw [dN, nD_sgn]
    exact dig_len_mono (Nat.div_le_self _ _)
  by_cases h : dM x y < 0
  · rw [← (h1 h).1]
    by_cases h0 : (nD x).length = 0
    · exfalso
      have hx0 : x.natAbs = 0 := by
        have := List.eq_nil_of_length_eq_zero h0
        exact dig_nil.1 this
      rw [dM, hx0] at h
      simp [sgn] at h
    · refine nD_sub _ _ hq (Nat.le_trans (nD_one ?_) (by omega))
      split <;> (try split) <;> decide
  · rw [← (h2 h).1]; omega
theorem numF_small {op c a b v : Int} {n : Nat} (hc : 5 ≤ op ∧ op ≤ 8 → (op = 5 ∨ op = 6 → c ≠ 0 ∧ -512 ≤ c ∧ c ≤ 512) ∧ (op = 7 ∨ op = 8 → 1 ≤ c ∧ c ≤ 64)) (ha : (nD a).length ≤ n) (hb : (nD b).length ≤ n) (h : numF op c a b = some v) : (nD v).length ≤ n + 3 := by
  have hp2 : ∀ h : 1 ≤ c ∧ c ≤ 64, (nD ((2 ^ c.toNat : Nat) : Int)).length ≤ 3 := fun h => by
    refine dig_len (k := 3) ?_
    rw [Int.natAbs_natCast]
    exact Nat.lt_of_le_of_lt (Nat.pow_le_pow_right (by omega) (show c.toNat ≤ 64 by omega)) (by decide)
  unfold numF at h
  by_cases h2 : op = 2
  · rw [if_pos h2] at h
    obtain rfl := Option.some.inj h
    rw [nD_neg]; omega
  rw [if_neg h2] at h
  by_cases h3 : op = 3
  · rw [if_pos h3] at h
    obtain rfl := Option.some.inj h
    have := nD_add a b ha hb; omega
  rw [if_neg h3] at h
  by_cases h4 : op = 4
  · rw [if_pos h4] at h
    obtain rfl := Option.some.inj h
    have := nD_sub a b ha hb; omega
  rw [if_neg h4] at h
  by_cases h5 : op = 5
  · rw [if_pos h5] at h
    obtain rfl := Option.some.inj h
    have h6 := (hc (by omega)).1 (.inl h5)
    have h7 : (nD c).length ≤ 1 := dig_len (k := 1) (by omega)
    have := nD_mul a c; omega
  rw [if_neg h5] at h
  by_cases h7 : op = 7
  · rw [if_pos h7] at h
    obtain rfl := Option.some.inj h
    have h8 := hp2 ((hc (by omega)).2 (.inl h7))
    have := nD_mul a ((2 ^ c.toNat : Nat) : Int); omega
  rw [if_neg h7] at h
  by_cases h6 : op = 6
  · rw [if_pos h6] at h
    split at h
    · obtain rfl := Option.some.inj h
      have h8 := (hc (by omega)).1 (.inr h6)
      have := nD_div a c h8.1; omega
    · cases h
  rw [if_neg h6] at h
  by_cases h8 : op = 8
  · rw [if_pos h8] at h
    split at h
    · obtain rfl := Option.some.inj h
      have hp0 : 0 < 2 ^ c.toNat := Nat.pow_pos (by omega)
      have := nD_div a ((2 ^ c.toNat : Nat) : Int) (by omega); omega
    · cases h
  rw [if_neg h8] at h
  obtain rfl := Option.some.inj h
  omega
def encN : List RI → List IV
  | [] => []
  | x :: l => .bool (decide (x.v < 0)) :: .slice (encD (dig x.v.natAbs)) (dig x.v.natAbs).length x.nl x.cap :: encN l
abbrev rN (l : List RI) : AObj := .row false 104 (encN l)
theorem encN_length : ∀ l : List RI, (encN l).length = l.length * 2
  | [] => rfl
  | x :: l => by rw [encN, List.length_cons, List.length_cons, encN_length l, List.length_cons]; omega
theorem encN_append : ∀ (a b : List RI), encN (a ++ b) = encN a ++ encN b
  | [], b => rfl
  | x :: a, b => by rw [List.cons_append, encN, encN, encN_append a b]; rfl
abbrev zN : RI := ⟨0, true, some 0⟩
theorem encN_two : ∀ {l : List RI} {i : Nat} (h : i < l.length), ((encN l).drop (i * 2)).take 2 = [.bool (decide ((l.getD i zN).v < 0)), .slice (encD (dig (l.getD i zN).v.natAbs)) (dig (l.getD i zN).v.natAbs).length (l.getD i zN).nl (l.getD i zN).cap]
  | x :: l, 0, _ => rfl
  | x :: l, i + 1, h => by
    have ih := encN_two (l := l) (i := i) (by simpa using h)
    rw [encN, show (i + 1) * 2 = i * 2 + 1 + 1 by omega]
    have e : (x :: l).getD (i + 1) zN = l.getD i zN := by simp
    rw [e]
    exact ih
abbrev fnsV : AV := .agg [.c (.fn 77), .c (.fn 78), .c (.fn 79), .c (.fn 80), .c (.fn 81)]
theorem numbers_ev (k : Nat) : run (k+1) 53 [] = some fnsV := by kernel_rfl
theorem over_ev (k : Nat) (x y : RI) (hy : y.v ≠ 0) (hx : (nD x.v).length ≤ 40000) (hyl : (nD y.v).length ≤ 40000) (hk : (nD x.v).length + (nD y.v).length + 120 < k) :
    ∃ z : RI, z.v = x.v / y.v ∧ run (k+8) 81 [aW x, aW y] = some (.tup [aW z, bb (decide (x.v % y.v = 0))]) := by
  obtain ⟨z, w, hz, hw, h1⟩ := DivMod_ev k x y hy hx hyl hk
  have h2 := Sign_ev (k + 6) w
  have h3 : (decide ((if w.v < 0 then (-1 : Int) else if 0 < w.v then 1 else 0) = 0)) = decide (x.v % y.v = 0) := by
    rw [← hw, decide_eq_decide]
    split
    · omega
    · split <;> omega
  obtain ⟨sg, hsg⟩ : ∃ sg : Int, sg = (if w.v < 0 then (-1 : Int) else if 0 < w.v then 1 else 0) := ⟨_, rfl⟩
  rw [← hsg] at h2 h3
  refine ⟨z, hz, ?_⟩
  simp only [run, aW, bb, ii] at h1 h2
  rw [run, ev81, ans_trim]
  simp only [Tryd.f81, aW, bb, ii, h1, FT, Int.reduceEq, Int.reduceToNat, Int.reduceLE, Int.reduceLT, Int.reduceAdd, Int.reduceMul, Int.reduceSub, Int.reduceNeg, Nat.reduceAdd, Nat.reduceSub, Nat.reduceMul, Nat.reduceLT, Nat.reduceBEq, Nat.reduceEqDiff, Nat.reduceLeDiff]
  rw [evalCode_drawn Tryd.f81 2 dr81_2]; rotate_left; rfl
  simp only [h2, h3, EVd, List.getElem?_nil, Nat.reducePow, Nat.reduceDiv, Nat.reduceMod, FT, Int.reduceEq, Int.reduceToNat, Int.reduceLE, Int.reduceLT, Int.reduceAdd, Int.reduceMul, Int.reduceSub, Int.reduceNeg, Nat.reduceAdd, Nat.reduceSub, Nat.reduceMul, Nat.reduceLT, Nat.reduceBEq, Nat.reduceEqDiff, Nat.reduceLeDiff]
end
end Go.Proofs.Sw.W
namespace Go.Proofs.Sw
open Go.Ab
variable [Globals]
def divI (c a : Int) : Option Int := if a % c = 0 then some (a / c) else none
theorem divI_mul {c : Int} (q : Int) (hc : c ≠ 0) : divI c (c * q) = some q := by
  unfold divI
  rw [if_pos (Int.mul_emod_right c q), Int.mul_ediv_cancel_left q hc]
theorem divI_some {c a q : Int} (h : divI c a = some q) : a = c * q := by
  unfold divI at h
  split at h
  · rename_i hm
    obtain rfl := Option.some.inj h
    have := Int.emod_add_mul_ediv a c
    rw [hm, Int.zero_add] at this
    exact this.symm
  · cases h
theorem divI_iff {c a q : Int} (hc : c ≠ 0) : divI c a = some q ↔ a = c * q := ⟨divI_some, fun h => by rw [h, divI_mul q hc]⟩
theorem divI_one (a : Int) : divI 1 a = some a := by simp [divI]
theorem divI_neg1 (a : Int) : divI (-1) a = some (a * -1) := by rw [divI_iff (by decide)]; omega
theorem divI_div (c d a : Int) (hc : c ≠ 0) (hd : d ≠ 0) : (divI c a).bind (divI d) = divI (c * d) a := by
  have hcd := Int.mul_ne_zero hc hd
  cases h1 : divI c a with
  | some q =>
    have e := divI_some h1
    rw [Option.bind_some, e]
    cases h2 : divI d q with
    | some r => rw [divI_some h2, ← Int.mul_assoc, divI_mul r hcd]
    | none =>
      cases h3 : divI (c * d) (c * q) with
      | none => rfl
      | some r =>
        have e3 := divI_some h3
        rw [Int.mul_assoc] at e3
        rw [(divI_iff hd).2 (Int.eq_of_mul_eq_mul_left hc e3)] at h2
        cases h2
  | none =>
    cases h3 : divI (c * d) a with
    | none => rfl
    | some r =>
      rw [(divI_iff hc).2 ((divI_some h3).trans (Int.mul_assoc c d r))] at h1
      cases h1
theorem divI_mulc (c d a : Int) (hc : c ≠ 0) (hd : d ≠ 0) : divI (c * d) (a * c) = divI d a := by
  have hcd := Int.mul_ne_zero hc hd
  cases h1 : divI d a with
  | some q => rw [divI_iff hcd, divI_some h1, Int.mul_comm (d * q) c, Int.mul_assoc]
  | none =>
    cases h2 : divI (c * d) (a * c) with
    | none => rfl
    | some q =>
      have e := divI_some h2
      rw [Int.mul_comm a c, Int.mul_assoc] at e
      rw [(divI_iff hd).2 (Int.eq_of_mul_eq_mul_left hc e)] at h1
      cases h1
theorem divI_mneg (c a : Int) (hc : c ≠ 0) : (divI c a).map (fun x => x * -1) = divI (-c) a := by
  have hc' : -c ≠ 0 := by omega
  cases h1 : divI c a with
  | some q => rw [Option.map_some]; refine ((divI_iff hc').2 ?_).symm; rw [divI_some h1, Int.mul_neg, Int.mul_one, Int.neg_mul_neg]
  | none =>
    cases h2 : divI (-c) a with
    | none => rfl
    | some q =>
      have e := divI_some h2
      rw [(divI_iff (q := -q) hc).2 (by rw [e, Int.neg_mul, Int.mul_neg])] at h1
      cases h1
noncomputable def numLin : Lin W.numSem where
  mul c a := a * c
  div := divI
  f2 _ a _ := by show some (-a) = some (a * -1); congr 1; omega
  f3 _ a := by show some (a + a) = some (a * 2); congr 1; omega
  f5 _ _ _ := rfl
  f7 _ _ _ := rfl
  f6 _ _ _ _ := rfl
  f8 _ _ _ := rfl
  m1 a := Int.mul_one a
  mm c d a := by rw [Int.mul_assoc, Int.mul_comm d c]
  d1 := divI_one
  dn := divI_neg1
  dd := divI_div
  dmc := divI_mulc
  md := divI_mneg
end Go.Proofs.Sw
/- What the listed table of math/bits gives: its 64 cells. -/
namespace Go.Proofs.YtiiannaficbjeaaDoor.tab
open Go.ChangeShapes Go.WideShapes Go.ChangeAt Go.RowKit Go.Ab
def tab64 : List Int := [0, 1, 56, 2, 57, 49, 28, 3, 61, 58, 42, 50, 38, 29, 17, 4, 62, 47, 59, 36, 45, 43, 51, 22, 53, 39, 33, 30, 24, 18, 12, 5, 63, 55, 48, 27, 60, 41, 37, 16, 46, 35, 44, 21, 52, 32, 23, 11, 54, 26, 40, 15, 34, 20, 31, 10, 25, 14, 19, 9, 13, 8, 7, 6]
instance tables : Globals := { gl := fun g => if g = 1 then some (tab64.map (IV.int .u8)) else none }
def laid2 : List (String × DataW Unit) := [("math/bits.deBruijn32tab", Rows.laid_math_bits_deBruijn32tab), ("math/bits.deBruijn64tab", Rows.laid_math_bits_deBruijn64tab)]
theorem g64 : Tryd.prog.globalNamed "math/bits.deBruijn64tab" = some 1 := by kernel_rfl
theorem trod_nums {H : Type} {enc : TypeId × Value → H} {P : Program} {w : World} {base : Nat} {spare : Nat → Bool} {held : Bool} {fuel : Nat} {t e : TypeId} {n : Nat} {k : IntKind} {cs : List Value} {ns : List Int} {ps : List MemPlace}
    (ht : P.underlying t = some (.array n e)) (he : P.underlying e = some (.int k)) (hc : P.cellsOf e = 1)
    (h : DataW.trod enc P w base spare held fuel t cs = some (.agg (ns.map fun z => .lit (.int k z)), ps)) : ∀ i, i < n → cs[i]? = (ns[i]?).map (Value.int k) := by
  obtain ⟨xs, m, _, hx, _, hn, hel⟩ := DataW.trod_array ht h
  simp only [Prod.mk.injEq, DataW.agg.injEq] at hx
  intro i hi
  have h1 := hel i hi
  rw [hc, Nat.mul_one] at h1
  have hxi : xs[i]? = some (xs[i]'(by omega)) := List.getElem?_eq_getElem _
  rw [hxi] at h1
  obtain ⟨z, e1, e2, _⟩ := DataW.trod_int he h1
  have h2 : (xs.map (·.1))[i]? = (ns.map fun z => DataW.lit (H := H) (.int k z))[i]? := by rw [← hx.1]
  rw [List.getElem?_map, List.getElem?_map, hxi, e2] at h2
  have hcs : cs[i]? = some (.int k z) := by
    have := congrArg (fun l => l[0]?) e1
    simpa [List.getElem?_take, List.getElem?_drop] using this
  rw [hcs]
  cases hns : ns[i]? with
  | none => rw [hns] at h2; simp at h2
  | some z' =>
    rw [hns] at h2
    simp at h2
    rw [h2]
    rfl
theorem of_laid {W : World} (h : laidMetH Tryd.prog laid2 W) : ∀ (i : Nat), i < 64 → W.cell? ⟨1, i, none⟩ = (tab64[i]?).map (Value.int .u8) := by
  rw [MakeChecks.laidMetH_plain _ _ _ (by kernel_rfl)] at h
  obtain ⟨ps, ⟨g0, t0, cs0, f0, p0, q0, hg0, ht0, hv0, hd0, ⟨g1, t1, cs1, f1, p1, q1, hg1, ht1, hv1, hd1, _, _⟩, _⟩, _, _⟩ := h
  obtain rfl := Option.some.inj (g64.symm.trans hg1)
  have ht : t1 = 175 := Option.some.inj (ht1.symm.trans (by kernel_rfl))
  subst ht
  intro i hi
  rw [World.var?_cell hg1 hv1 i]
  have := trod_nums (n := 64) (k := .u8) (ns := tab64) (by kernel_rfl) (e := 5) (by kernel_rfl) (by kernel_rfl) hd1 i hi
  rw [← this]
  simp
theorem tables_rel {W : World} (h : laidMetH Tryd.prog laid2 W) : ∀ (g : Nat) (cells : List IV), Globals.gl g = some cells → IRel (fun b => b < W.heap.size) W (.iptr cells 0) (.pointer (some ⟨g, 0, none⟩)) := by
  intro g cells hg
  have hg' : (if g = 1 then some (tab64.map (IV.int .u8)) else none) = some cells := hg
  split at hg'
  · rename_i e
    subst e
    injection hg' with hg'
    subst hg'
    have hcell : ∀ j, j < 64 → W.cell? ⟨1, j, none⟩ = some (.int .u8 (tab64.getD j 0)) := by
      intro j hj
      rw [of_laid h j hj, List.getD_eq_getElem?_getD, List.getElem?_eq_getElem (show j < tab64.length from hj)]
      rfl
    have hb : 1 < W.heap.size := by
      have h0 := hcell 0 (by decide)
      rcases Nat.lt_or_ge 1 W.heap.size with hlt | hge
      · exact hlt
      · simp [World.cell?, Array.getElem?_eq_none hge] at h0
    have := IRel.iptr (S := fun b => b < W.heap.size) (w := W) (cells := tab64.map (IV.int .u8)) (off := 0) ⟨1, 0, none⟩ (fun j => .int .u8 (tab64.getD j 0))
      (fun j hj => ⟨hb, by rw [lit_add]; exact hcell j (by simpa [tab64] using hj)⟩)
      (fun j x hj => by
        rw [List.getElem?_map] at hj
        obtain ⟨z, hz, rfl⟩ := Option.map_eq_some_iff.1 hj
        rw [List.getD_eq_getElem?_getD, hz]
        exact .int _ _)
    rwa [lit_add] at this
  · cases hg'
theorem door_met (os : Os) (args : Array Value) : laidMetH Tryd.prog laid2 ((World.doorLaid Tryd.prog 4000 os).forCall (fun _ _ => 0) ⟨#[], args, []⟩).memory :=
  laidMetH_of_parts3 (fuel := 8) (laidMet_of_run' 8 (by kernel_rfl) (by kernel_rfl)) (by kernel_rfl) (by kernel_rfl)
theorem own : ownKnob Tryd.prog.godebug = none := by kernel_rfl
theorem mixed : Tryd.prog.follows .mixedOrders = true := by kernel_rfl
end Go.Proofs.YtiiannaficbjeaaDoor.tab
namespace Go.Proofs.Sw
open Go.Ab Go.Proofs.YtiiannaficbjeaaDoor.tab
theorem tz_ev (k : Nat) {c : Int} (h : powM c ≠ 0) : run (k+3) 87 [.c (.int .u64 (IntKind.wrap .u64 c))] = some (ii (powM c)) := by
  rcases pow_cases h with rfl | rfl | rfl | rfl | rfl | rfl | rfl | rfl | rfl <;> kernel_rfl
theorem and_pow : ∀ n : Nat, n < 511 → (IntKind.wrap .i64 (BitVec.ofInt (IntKind.bits .i64) (n + 2 : Int) &&& BitVec.ofInt (IntKind.bits .i64) (IntKind.wrap .i64 ((n + 2 : Int) - 1))).toNat = 0 ↔ powM (n + 2 : Int) ≠ 0) := by decide +kernel
theorem power_ev (k : Nat) (c : Int) (hc : c ≤ 512) : run (k+4) 65 [ii c] = some (.tup [ii (powM c), bb (decide (powM c ≠ 0))]) := by
  rw [run, ev65, ans_trim]
  by_cases h2 : c < 2
  · have hp : powM c = 0 := by
      by_cases h : powM c ≠ 0
      · rcases pow_cases h with rfl | rfl | rfl | rfl | rfl | rfl | rfl | rfl | rfl <;> omega
      · simpa using h
    simp only [Tryd.f65, ii, bb, h2, hp, FT, Int.reduceEq, Int.reduceToNat, Int.reduceLE, Int.reduceLT, Int.reduceAdd, Int.reduceMul, Int.reduceSub, Int.reduceNeg, Nat.reduceAdd, Nat.reduceSub, Nat.reduceMul, Nat.reduceLT, Nat.reduceBEq, Nat.reduceEqDiff, Nat.reduceLeDiff]
  · have ha := and_pow (c - 2).toNat (by omega)
    rw [show (((c - 2).toNat : Int) + 2) = c by omega] at ha
    by_cases hp : powM c ≠ 0
    · have ha' := ha.2 hp
      have ht := tz_ev k hp
      simp only [ii, run] at ht
      simp only [Tryd.f65, ii, bb, h2, ha', ht, FT, Int.reduceEq, Int.reduceToNat, Int.reduceLE, Int.reduceLT, Int.reduceAdd, Int.reduceMul, Int.reduceSub, Int.reduceNeg, Nat.reduceAdd, Nat.reduceSub, Nat.reduceMul, Nat.reduceLT, Nat.reduceBEq, Nat.reduceEqDiff, Nat.reduceLeDiff]
      simp [hp]
    · have ha' : ¬ _ := fun h => hp (ha.1 h)
      simp only [Tryd.f65, ii, bb, h2, ha', FT, Int.reduceEq, Int.reduceToNat, Int.reduceLE, Int.reduceLT, Int.reduceAdd, Int.reduceMul, Int.reduceSub, Int.reduceNeg, Nat.reduceAdd, Nat.reduceSub, Nat.reduceMul, Nat.reduceLT, Nat.reduceBEq, Nat.reduceEqDiff, Nat.reduceLeDiff]
      simp_all
theorem one_ev (k : Nat) (o t a c : Int) : run (k+1) 66 [ii o, ii t, ii a, ii c] = some (aI o t a 0 c) := by
  rw [run, ev66, ans_trim]
  simp only [Tryd.f66, aI, ii, bb, FT, Int.reduceEq, Int.reduceToNat, Int.reduceLE, Int.reduceLT, Int.reduceAdd, Int.reduceMul, Int.reduceSub, Int.reduceNeg, Nat.reduceAdd, Nat.reduceSub, Nat.reduceMul, Nat.reduceLT, Nat.reduceBEq, Nat.reduceEqDiff, Nat.reduceLeDiff]
theorem plain_ev (k : Nat) (o t a b c : Int) (hc : c ≤ 512) : run (k+6) 37 [aI o t a b c] = some (encI (plainM ⟨o, t, a, b, c⟩)) := by
  rw [run, ev37, ans_trim]
  have hp := power_ev (k+1) c hc
  simp only [ii, bb, run] at hp
  simp only [Tryd.f37, aI, ii, bb, hp, one_ev, FT, Int.reduceEq, Int.reduceToNat, Int.reduceLE, Int.reduceLT, Int.reduceAdd, Int.reduceMul, Int.reduceSub, Int.reduceNeg, Nat.reduceAdd, Nat.reduceSub, Nat.reduceMul, Nat.reduceLT, Nat.reduceBEq, Nat.reduceEqDiff, Nat.reduceLeDiff]
  repeat' (first
    | (rw [condO_dec]; split <;> simp only [*, one_ev, aI, ii, FT, Int.reduceEq, Int.reduceToNat, Int.reduceLE, Int.reduceLT, Int.reduceAdd, Int.reduceMul, Int.reduceSub, Int.reduceNeg, Nat.reduceAdd, Nat.reduceSub, Nat.reduceMul, Nat.reduceLT, Nat.reduceBEq, Nat.reduceEqDiff, Nat.reduceLeDiff])
    | (rw [condO_ite]; split <;> simp only [*, one_ev, aI, ii, FT, Int.reduceEq, Int.reduceToNat, Int.reduceLE, Int.reduceLT, Int.reduceAdd, Int.reduceMul, Int.reduceSub, Int.reduceNeg, Nat.reduceAdd, Nat.reduceSub, Nat.reduceMul, Nat.reduceLT, Nat.reduceBEq, Nat.reduceEqDiff, Nat.reduceLeDiff])
    | (split <;> simp only [*, one_ev, aI, ii, FT, Int.reduceEq, Int.reduceToNat, Int.reduceLE, Int.reduceLT, Int.reduceAdd, Int.reduceMul, Int.reduceSub, Int.reduceNeg, Nat.reduceAdd, Nat.reduceSub, Nat.reduceMul, Nat.reduceLT, Nat.reduceBEq, Nat.reduceEqDiff, Nat.reduceLeDiff]))
  all_goals simp_all [plainM]
theorem fits_ev (k : Nat) (c : Int) : run (k+1) 88 [ii c] = some (bb (fits c)) := by
  rw [run, ev88, ans_trim]
  simp only [Tryd.f88, ii, bb, FT, Int.reduceEq, Int.reduceToNat, Int.reduceLE, Int.reduceLT, Int.reduceAdd, Int.reduceMul, Int.reduceSub, Int.reduceNeg, Nat.reduceAdd, Nat.reduceSub, Nat.reduceMul, Nat.reduceLT, Nat.reduceBEq, Nat.reduceEqDiff, Nat.reduceLeDiff]
  repeat' (first
    | (rw [condO_dec]; split <;> simp only [*, FT, Int.reduceEq, Int.reduceToNat, Int.reduceLE, Int.reduceLT, Int.reduceAdd, Int.reduceMul, Int.reduceSub, Int.reduceNeg, Nat.reduceAdd, Nat.reduceSub, Nat.reduceMul, Nat.reduceLT, Nat.reduceBEq, Nat.reduceEqDiff, Nat.reduceLeDiff])
    | (rw [condO_ite]; split <;> simp only [*, FT, Int.reduceEq, Int.reduceToNat, Int.reduceLE, Int.reduceLT, Int.reduceAdd, Int.reduceMul, Int.reduceSub, Int.reduceNeg, Nat.reduceAdd, Nat.reduceSub, Nat.reduceMul, Nat.reduceLT, Nat.reduceBEq, Nat.reduceEqDiff, Nat.reduceLeDiff])
    | (split <;> simp only [*, FT, Int.reduceEq, Int.reduceToNat, Int.reduceLE, Int.reduceLT, Int.reduceAdd, Int.reduceMul, Int.reduceSub, Int.reduceNeg, Nat.reduceAdd, Nat.reduceSub, Nat.reduceMul, Nat.reduceLT, Nat.reduceBEq, Nat.reduceEqDiff, Nat.reduceLeDiff]))
  all_goals simp [fits, *]
def tri (x : Option (Int × Int)) : AV := match x with
  | some (o, c) => .tup [ii o, ii c, bb true]
  | none => .tup [ii 0, ii 0, bb false]
theorem together_ev (k : Nat) (f c s d : Int) (c1 : -512 ≤ c) (c2 : c ≤ 512) (d1 : -512 ≤ d) (d2 : d ≤ 512) (hd : s = 6 → d ≠ 0) (hc : f = 5 → c ≠ 0) :
    run (k+2) 67 [ii f, ii c, ii s, ii d] = some (tri (together f c s d)) := by
  have hm := small_mul c1 c2 d1 d2
  have q1 := small_div (d := d) c1 c2
  have q2 := small_div (d := c) d1 d2
  have w1 : IntKind.wrap .i64 (c * d) = c * d := wrap64 (by omega) (by omega)
  have w2 : IntKind.wrap .i64 (0 - c) = -c := by rw [wrap64 (by omega) (by omega)]; omega
  have w3 : IntKind.wrap .i64 (0 - d) = -d := by rw [wrap64 (by omega) (by omega)]; omega
  have w4 : IntKind.wrap .i64 (c + d) = c + d := wrap64 (by omega) (by omega)
  have w5 : IntKind.wrap .i64 (c - d) = c - d := wrap64 (by omega) (by omega)
  have w6 : IntKind.wrap .i64 (d - c) = d - c := wrap64 (by omega) (by omega)
  have w7 : IntKind.wrap .i64 (c.tdiv d) = c.tdiv d := wrap64 (by omega) (by omega)
  have w8 : IntKind.wrap .i64 (d.tdiv c) = d.tdiv c := wrap64 (by omega) (by omega)
  rw [run, ev67, ans_trim]
  simp only [Tryd.f67, ii, bb, fits_ev, w1, w2, w3, w4, w5, w6, w7, w8, FT, Int.reduceEq, Int.reduceToNat, Int.reduceLE, Int.reduceLT, Int.reduceAdd, Int.reduceMul, Int.reduceSub, Int.reduceNeg, Nat.reduceAdd, Nat.reduceSub, Nat.reduceMul, Nat.reduceLT, Nat.reduceBEq, Nat.reduceEqDiff, Nat.reduceLeDiff]
  clear hm q1 q2 c1 c2 d1 d2
  repeat' (first
    | (rw [evalCode_drawn Tryd.f67 19 dr67_19]; rotate_left; rfl; simp only [*,  w1, w2, w3, w4, w5, w6, w7, w8, fits_ev, EVd, List.getElem?_nil, Nat.reducePow, Nat.reduceDiv, Nat.reduceMod, FT, Int.reduceEq, Int.reduceToNat, Int.reduceLE, Int.reduceLT, Int.reduceAdd, Int.reduceMul, Int.reduceSub, Int.reduceNeg, Nat.reduceAdd, Nat.reduceSub, Nat.reduceMul, Nat.reduceLT, Nat.reduceBEq, Nat.reduceEqDiff, Nat.reduceLeDiff])
    | (rw [evalCode_drawn Tryd.f67 21 dr67_21]; rotate_left; rfl; simp only [*,  w1, w2, w3, w4, w5, w6, w7, w8, fits_ev, EVd, List.getElem?_nil, Nat.reducePow, Nat.reduceDiv, Nat.reduceMod, FT, Int.reduceEq, Int.reduceToNat, Int.reduceLE, Int.reduceLT, Int.reduceAdd, Int.reduceMul, Int.reduceSub, Int.reduceNeg, Nat.reduceAdd, Nat.reduceSub, Nat.reduceMul, Nat.reduceLT, Nat.reduceBEq, Nat.reduceEqDiff, Nat.reduceLeDiff])
    | (rw [condO_dec]; split <;> simp only [*,  w1, w2, w3, w4, w5, w6, w7, w8, fits_ev, FT, Int.reduceEq, Int.reduceToNat, Int.reduceLE, Int.reduceLT, Int.reduceAdd, Int.reduceMul, Int.reduceSub, Int.reduceNeg, Nat.reduceAdd, Nat.reduceSub, Nat.reduceMul, Nat.reduceLT, Nat.reduceBEq, Nat.reduceEqDiff, Nat.reduceLeDiff])
    | (rw [condO_ite]; split <;> simp only [*,  w1, w2, w3, w4, w5, w6, w7, w8, fits_ev, FT, Int.reduceEq, Int.reduceToNat, Int.reduceLE, Int.reduceLT, Int.reduceAdd, Int.reduceMul, Int.reduceSub, Int.reduceNeg, Nat.reduceAdd, Nat.reduceSub, Nat.reduceMul, Nat.reduceLT, Nat.reduceBEq, Nat.reduceEqDiff, Nat.reduceLeDiff])
    | (split <;> simp only [*,  w1, w2, w3, w4, w5, w6, w7, w8, fits_ev, FT, Int.reduceEq, Int.reduceToNat, Int.reduceLE, Int.reduceLT, Int.reduceAdd, Int.reduceMul, Int.reduceSub, Int.reduceNeg, Nat.reduceAdd, Nat.reduceSub, Nat.reduceMul, Nat.reduceLT, Nat.reduceBEq, Nat.reduceEqDiff, Nat.reduceLeDiff]))
  all_goals (first | (simp [together, tri, *]; done) | skip)
theorem together_le {f c s d o x : Int} (c1 : -512 ≤ c) (c2 : c ≤ 512) (d1 : -512 ≤ d) (d2 : d ≤ 512) (h : together f c s d = some (o, x)) (e1 : f = 7 → 0 ≤ c ∧ (s = 8 → 0 ≤ d)) : x ≤ 512 := by
  have q1 := small_div (d := d) c1 c2
  have q2 := small_div (d := c) d1 d2
  unfold together fits at h
  repeat' (split at h <;> first | (simp only [Option.some.injEq, Prod.mk.injEq, reduceCtorEq] at h) | skip)
  all_goals (try simp only [decide_eq_true_eq] at *)
  all_goals omega
abbrev zIn : Ins := ⟨0, 0, 0, 0, 0⟩
def duo (x : Option Ins) : AV := match x with
  | some i => .tup [encI i, bb true]
  | none => .tup [encI zIn, bb false]
structure Two (a b : Ins) : Prop where
  c1 : -512 ≤ a.c
  c2 : a.c ≤ 512
  d1 : -512 ≤ b.c
  d2 : b.c ≤ 512
  hd : b.op = 6 → b.c ≠ 0
  hc : a.op = 5 → a.c ≠ 0
  e1 : a.op = 7 → 0 ≤ a.c ∧ (b.op = 8 → 0 ≤ b.c)
theorem melt_ev (k : Nat) (o t a b c o' t' a' b' c' : Int) (h : Two ⟨o, t, a, b, c⟩ ⟨o', t', a', b', c'⟩) :
    run (k+7) 38 [aI o t a b c, aI o' t' a' b' c'] = some (duo (meltM ⟨o, t, a, b, c⟩ ⟨o', t', a', b', c'⟩)) := by
  have ht := together_ev (k+4) o c o' c' h.c1 h.c2 h.d1 h.d2 h.hd h.hc
  have hl := @together_le o c o' c'
  rw [run, ev38, ans_trim]
  simp only [run, ii, bb] at ht
  cases hx : together o c o' c' with
  | none =>
    simp only [hx, tri, ii, bb] at ht
    simp only [Tryd.f38, aI, ii, bb, ht, FT, Int.reduceEq, Int.reduceToNat, Int.reduceLE, Int.reduceLT, Int.reduceAdd, Int.reduceMul, Int.reduceSub, Int.reduceNeg, Nat.reduceAdd, Nat.reduceSub, Nat.reduceMul, Nat.reduceLT, Nat.reduceBEq, Nat.reduceEqDiff, Nat.reduceLeDiff]
    clear h hl
    repeat' (first
    | (rw [condO_dec]; split <;> simp only [*, ht, FT, Int.reduceEq, Int.reduceToNat, Int.reduceLE, Int.reduceLT, Int.reduceAdd, Int.reduceMul, Int.reduceSub, Int.reduceNeg, Nat.reduceAdd, Nat.reduceSub, Nat.reduceMul, Nat.reduceLT, Nat.reduceBEq, Nat.reduceEqDiff, Nat.reduceLeDiff])
    | (rw [condO_ite]; split <;> simp only [*, ht, FT, Int.reduceEq, Int.reduceToNat, Int.reduceLE, Int.reduceLT, Int.reduceAdd, Int.reduceMul, Int.reduceSub, Int.reduceNeg, Nat.reduceAdd, Nat.reduceSub, Nat.reduceMul, Nat.reduceLT, Nat.reduceBEq, Nat.reduceEqDiff, Nat.reduceLeDiff])
    | (split <;> simp only [*, ht, FT, Int.reduceEq, Int.reduceToNat, Int.reduceLE, Int.reduceLT, Int.reduceAdd, Int.reduceMul, Int.reduceSub, Int.reduceNeg, Nat.reduceAdd, Nat.reduceSub, Nat.reduceMul, Nat.reduceLT, Nat.reduceBEq, Nat.reduceEqDiff, Nat.reduceLeDiff]))
    all_goals simp [meltM, duo, hx, *]
  | some x =>
    obtain ⟨z, y⟩ := x
    simp only [hx, tri, ii, bb] at ht
    have hp := fun w => plain_ev k z w a 0 y (hl h.c1 h.c2 h.d1 h.d2 hx h.e1)
    simp only [run, aI, ii, encI] at hp
    simp only [Tryd.f38, aI, ii, bb, ht, one_ev, hp, FT, Int.reduceEq, Int.reduceToNat, Int.reduceLE, Int.reduceLT, Int.reduceAdd, Int.reduceMul, Int.reduceSub, Int.reduceNeg, Nat.reduceAdd, Nat.reduceSub, Nat.reduceMul, Nat.reduceLT, Nat.reduceBEq, Nat.reduceEqDiff, Nat.reduceLeDiff]
    clear h hl
    repeat' (first
    | (rw [condO_dec]; split <;> simp only [*, ht, one_ev, hp, FT, Int.reduceEq, Int.reduceToNat, Int.reduceLE, Int.reduceLT, Int.reduceAdd, Int.reduceMul, Int.reduceSub, Int.reduceNeg, Nat.reduceAdd, Nat.reduceSub, Nat.reduceMul, Nat.reduceLT, Nat.reduceBEq, Nat.reduceEqDiff, Nat.reduceLeDiff])
    | (rw [condO_ite]; split <;> simp only [*, ht, one_ev, hp, FT, Int.reduceEq, Int.reduceToNat, Int.reduceLE, Int.reduceLT, Int.reduceAdd, Int.reduceMul, Int.reduceSub, Int.reduceNeg, Nat.reduceAdd, Nat.reduceSub, Nat.reduceMul, Nat.reduceLT, Nat.reduceBEq, Nat.reduceEqDiff, Nat.reduceLeDiff])
    | (split <;> simp only [*, ht, one_ev, hp, FT, Int.reduceEq, Int.reduceToNat, Int.reduceLE, Int.reduceLT, Int.reduceAdd, Int.reduceMul, Int.reduceSub, Int.reduceNeg, Nat.reduceAdd, Nat.reduceSub, Nat.reduceMul, Nat.reduceLT, Nat.reduceBEq, Nat.reduceEqDiff, Nat.reduceLeDiff]))
    all_goals simp [meltM, duo, hx, *]
end Go.Proofs.Sw
namespace Go.Proofs.Sw
open Go.Ab Go.Proofs.YtiiannaficbjeaaDoor.tab
abbrev oI (i : Ins) : AObj := .cells 61 [ii i.op, ii i.to, ii i.a, ii i.b, ii i.c]
def fdV (s : Option (List IV)) (st : List Ins) : AV := match s with
  | none => .c (.slice [] 0 true (some 0))
  | some J => .hsl 0 0 st.length (encCode st.reverse ++ J).length 5
def fdO (s : Option (List IV)) (st : List Ins) : AObj := match s with
  | none => .slot
  | some J => .row false 61 (encCode st.reverse ++ J)
def FdOk (s : Option (List IV)) (st : List Ins) : Prop := match s with
  | none => st = []
  | some J => ∃ j, J.length = j * 5
theorem fdO_under {s : Option (List IV)} {st : List Ins} {n : Nat} : (fdO s st).under n = true := by cases s <;> rfl
theorem fdV_under {s : Option (List IV)} {st : List Ins} {n : Nat} (h : 0 < n) : AV.under n (fdV s st) = true := by
  cases s
  · rfl
  · show decide (0 < n) = true
    exact decide_eq_true h
theorem encCode_top (st : List Ins) (x : Ins) (J : List IV) : takeCells (encCode (x :: st).reverse ++ J) (st.length * 5) 5 = some (enc1 x) := by
  have h := encCode_length st.reverse
  rw [List.length_reverse] at h
  rw [takeCells_eq, List.reverse_cons, encCode_append, List.append_assoc, ← h, List.drop_left, if_pos (by simp [encCode, enc1])]
  simp [encCode, enc1]
theorem fd_app {s : Option (List IV)} {st : List Ins} {x : Ins} (hs : FdOk s st) (hlen : st.length < 1000000) (X : Heap) : ∃ s', FdOk s' (x :: st) ∧ apO 61 5 40 (some 0) (fdV s st) (fdO s st :: X) (some (enc1 x, 1)) = some (fdV s' (x :: st), fdO s' (x :: st) :: X) := by
  have he : encCode (x :: st).reverse = encCode st.reverse ++ enc1 x := by
    rw [List.reverse_cons, encCode_append]; simp [encCode]
  have hl : (encCode st.reverse).length = st.length * 5 := by rw [encCode_length, List.length_reverse]
  have hb : (st.length + 1) * 40 ≤ roomBytes := by unfold roomBytes; omega
  cases s with
  | none =>
    have h0 : st = [] := hs
    subst h0
    refine ⟨some [], ⟨0, rfl⟩, ?_⟩
    simp only [fdV, fdO, apO, Option.bind_some, slotAt]
    rw [if_neg (by omega), if_pos ⟨by omega, by decide, by simp⟩]
    simp [encCode, enc1, slotAt, fdO, fdV]
  | some J =>
    obtain ⟨j, hj⟩ : ∃ j, J.length = j * 5 := hs
    have hcl : (encCode st.reverse ++ J).length = st.length * 5 + j * 5 := by rw [List.length_append, hl, hj]
    have h1 : rowOf (fdO (some J) st :: X) 0 (encCode st.reverse ++ J).length = some (61, encCode st.reverse ++ J) := rowOf_eq (fz := false) rfl rfl
    have h2 : rowLive (fdO (some J) st :: X) 0 = true := rfl
    have htake : (encCode st.reverse ++ J).take (st.length * 5) = encCode st.reverse := by rw [← hl, List.take_left]
    by_cases hin : (st.length + 1) * 5 ≤ (encCode st.reverse ++ J).length
    · refine ⟨some (J.drop 5), ⟨j - 1, by rw [List.length_drop, hj]; omega⟩, ?_⟩
      have hdrop : (encCode st.reverse ++ J).drop ((st.length + 1) * 5) = J.drop 5 := by
        rw [show (st.length + 1) * 5 = (encCode st.reverse).length + 5 by rw [hl]; omega, List.drop_append, List.drop_eq_nil_of_le (by omega), List.nil_append, Nat.add_sub_cancel_left]
      have hel : (encCode st.reverse ++ enc1 x ++ J.drop 5).length = (encCode st.reverse ++ J).length := by
        simp only [List.length_append, List.length_drop, hl, hj] at hin ⊢
        simp [enc1]
        omega
      show apO 61 5 40 (some 0) (.hsl 0 0 st.length (encCode st.reverse ++ J).length 5) _ _ = _
      simp only [apO, Option.bind_some, h1]
      rw [if_neg (by omega), if_pos ⟨trivial, trivial, by omega, hb, trivial, h2⟩, if_pos hin, htake, hdrop]
      simp only [fdV, fdO, he, hel]
      rfl
    · have hj0 : j = 0 := by rw [hcl] at hin; omega
      subst hj0
      have hjk : J = [] := List.eq_nil_of_length_eq_zero (by omega)
      subst hjk
      refine ⟨some [], ⟨0, rfl⟩, ?_⟩
      show apO 61 5 40 (some 0) (.hsl 0 0 st.length (encCode st.reverse ++ []).length 5) _ _ = _
      simp only [apO, Option.bind_some, h1]
      rw [if_neg (by omega), if_pos ⟨trivial, trivial, by omega, hb, trivial, h2⟩, if_neg hin, htake]
      have hel : (encCode st.reverse ++ enc1 x ++ []).length = (st.length + 1) * 5 := by simp [hl, enc1]; omega
      simp only [fdV, fdO, he, hel, List.append_nil] at hel ⊢
      rw [hel]
      rfl
end Go.Proofs.Sw
namespace Go.Proofs.Sw
open Go.Ab Go.Proofs.YtiiannaficbjeaaDoor.tab
theorem two_of_may {y x : Ins} {regs : Int} (hy : mayM y regs = true) (hx : mayM x regs = true) : Two y x := by
  obtain ⟨⟨y1, y2⟩, _, _, _⟩ := mayM_facts hy
  obtain ⟨⟨x1, x2⟩, _, _, _⟩ := mayM_facts hx
  have cy := ((may_iff _ _).1 hy).2.1
  have cx := ((may_iff _ _).1 hx).2.1
  obtain ⟨a1, a2, a3⟩ := (const_iff _).1 cy
  obtain ⟨b1, b2, b3⟩ := (const_iff _).1 cx
  constructor <;> omega
theorem loop_melt (kf : Nat) (hkf : 15 ≤ kf) (regs : Int) (o0 o1 c8 : AObj) (h0 : o0.under 5 = true) (h1 : o1.under 5 = true) (h8 : c8.under 5 = true) (v22 v23 v24 : AV) (u22 : v22.under 5 = true) (u23 : v23.under 5 = true) (u24 : v24.under 5 = true) :
    ∀ (st : List Ins) (x : Ins) (s : Option (List IV)) (k : Nat) (l : Ass) (G : Heap) (z : Option Out), loopR Tryd.prog tab kf none LB16_9 16 76 [1, 2, 6, 9, 22, 23, 24] 5 k l ([fdO s st, o0, o1, c8, oI x] ++ G) = z →
    st.length < k → st.length < 1000000 → FdOk s st → (∀ i ∈ st, mayM i regs = true) → mayM x regs = true →
    asc l 1 = .ptr 1 0 → asc l 2 = .ptr 2 0 → asc l 6 = fdV s st → asc l 9 = .ptr 4 0 → asc l 22 = v22 → asc l 23 = v23 → asc l 24 = v24 →
    ∃ (l' : Ass) (st' : List Ins) (y : Ins) (s' : Option (List IV)) (G' : Heap), ((z = some (.exit 1 (fr 76 l') ([fdO s' st', o0, o1, c8, oI y] ++ G')) ∧ push st x = st') ∨ (z = some (.exit 2 (fr 76 l') ([fdO s' st', o0, o1, c8, oI y] ++ G')) ∧ push st x = y :: st')) ∧ FdOk s' st' ∧ st'.length ≤ st.length ∧ (∀ i ∈ st', mayM i regs = true) ∧ mayM y regs = true ∧
      asc l' 1 = .ptr 1 0 ∧ asc l' 2 = .ptr 2 0 ∧ asc l' 6 = fdV s' st' ∧ asc l' 9 = .ptr 4 0 ∧ asc l' 22 = v22 ∧ asc l' 23 = v23 ∧ asc l' 24 = v24 := by
  obtain ⟨kf, rfl⟩ : ∃ j, kf = j + 15 := ⟨kf - 15, by omega⟩
  have key : ∀ (st : List Ins) (x : Ins) (s : Option (List IV)) (l : Ass) (G : Heap), asc l 1 = .ptr 1 0 → asc l 2 = .ptr 2 0 → asc l 6 = fdV s st → asc l 9 = .ptr 4 0 → asc l 22 = v22 → asc l 23 = v23 → asc l 24 = v24 →
      trim 5 (fr 76 (keep l [1, 2, 6, 9, 22, 23, 24])) ([fdO s st, o0, o1, c8, oI x] ++ G) = [fdO s st, o0, o1, c8, oI x] := by
    intro st x s l G a1 a2 a6 a9 a22 a23 a24
    exact trim_app (by simp) (by simp only [a1, a2, a6, a9, a22, a23, a24, u22, u23, u24, fdV_under (show 0 < 5 by omega), EVb, EVc, Int.reduceEq, Int.reduceToNat, Int.reduceLE, Int.reduceLT, Int.reduceAdd, Int.reduceMul, Int.reduceSub, Int.reduceNeg, Nat.reduceAdd, Nat.reduceSub, Nat.reduceMul, Nat.reduceLT, Nat.reduceBEq, Nat.reduceEqDiff, Nat.reduceLeDiff]) (by simp only [h0, h1, h8, fdO_under, EVb, EVc, Int.reduceEq, Int.reduceToNat, Int.reduceLE, Int.reduceLT, Int.reduceAdd, Int.reduceMul, Int.reduceSub, Int.reduceNeg, Nat.reduceAdd, Nat.reduceSub, Nat.reduceMul, Nat.reduceLT, Nat.reduceBEq, Nat.reduceEqDiff, Nat.reduceLeDiff])
  intro st
  induction st with
  | nil =>
    intro x s k l G z hz hk hk2 hs hst hx a1 a2 a6 a9 a22 a23 a24
    obtain ⟨k, rfl⟩ : ∃ j, k = j + 1 := ⟨k - 1, by simp at hk; omega⟩
    have ht := key [] x s l G a1 a2 a6 a9 a22 a23 a24
    cases hn : nothing x with
    | true =>
      obtain ⟨n1, n2⟩ := of_decide_eq_true hn
      simp only [loopR_succ, ht] at hz
      simp only [a1, a2, a6, a9, a22, a23, a24, n1, n2, loopR_succ, loopOf, findLoop, firstRegion, Option.some_or, Option.none_or, Option.getD_some, Option.some.injEq, Tryd.f16, FT, Int.reduceEq, Int.reduceToNat, Int.reduceLE, Int.reduceLT, Int.reduceAdd, Int.reduceMul, Int.reduceSub, Int.reduceNeg, Nat.reduceAdd, Nat.reduceSub, Nat.reduceMul, Nat.reduceLT, Nat.reduceBEq, Nat.reduceEqDiff, Nat.reduceLeDiff] at hz
      exact ⟨_, [], x, s, [], .inl ⟨hz.symm, push_nothing hn⟩, hs, by simp, hst, hx, (by rfl), (by rfl), (by rfl), (by rfl), (by rfl), (by rfl), (by rfl)⟩
    | false =>
      have hn' : ¬ (x.op = 1 ∧ x.to = x.a) := of_decide_eq_false hn
      cases s with
      | none =>
        by_cases n1 : x.op = 1
        · have n2 : ¬ x.to = x.a := fun h => hn' ⟨n1, h⟩
          simp only [loopR_succ, ht] at hz
          simp only [a1, a2, a6, a9, a22, a23, a24, n1, n2, fdV, loopR_succ, loopOf, findLoop, firstRegion, Option.some_or, Option.none_or, Option.getD_some, Option.some.injEq, Tryd.f16, FT, Int.reduceEq, Int.reduceToNat, Int.reduceLE, Int.reduceLT, Int.reduceAdd, Int.reduceMul, Int.reduceSub, Int.reduceNeg, Nat.reduceAdd, Nat.reduceSub, Nat.reduceMul, Nat.reduceLT, Nat.reduceBEq, Nat.reduceEqDiff, Nat.reduceLeDiff] at hz
          exact ⟨_, [], x, none, [], .inr ⟨hz.symm, push_nil hn⟩, hs, by simp, hst, hx, (by rfl), (by rfl), (by rfl), (by rfl), (by rfl), (by rfl), (by rfl)⟩
        · simp only [loopR_succ, ht] at hz
          simp only [a1, a2, a6, a9, a22, a23, a24, n1, fdV, loopR_succ, loopOf, findLoop, firstRegion, Option.some_or, Option.none_or, Option.getD_some, Option.some.injEq, Tryd.f16, FT, Int.reduceEq, Int.reduceToNat, Int.reduceLE, Int.reduceLT, Int.reduceAdd, Int.reduceMul, Int.reduceSub, Int.reduceNeg, Nat.reduceAdd, Nat.reduceSub, Nat.reduceMul, Nat.reduceLT, Nat.reduceBEq, Nat.reduceEqDiff, Nat.reduceLeDiff] at hz
          exact ⟨_, [], x, none, [], .inr ⟨hz.symm, push_nil hn⟩, hs, by simp, hst, hx, (by rfl), (by rfl), (by rfl), (by rfl), (by rfl), (by rfl), (by rfl)⟩
      | some J =>
        by_cases n1 : x.op = 1
        · have n2 : ¬ x.to = x.a := fun h => hn' ⟨n1, h⟩
          simp only [loopR_succ, ht] at hz
          simp only [a1, a2, a6, a9, a22, a23, a24, n1, n2, fdV, List.length_nil, loopR_succ, loopOf, findLoop, firstRegion, Option.some_or, Option.none_or, Option.getD_some, Option.some.injEq, Tryd.f16, FT, Int.reduceEq, Int.reduceToNat, Int.reduceLE, Int.reduceLT, Int.reduceAdd, Int.reduceMul, Int.reduceSub, Int.reduceNeg, Nat.reduceAdd, Nat.reduceSub, Nat.reduceMul, Nat.reduceLT, Nat.reduceBEq, Nat.reduceEqDiff, Nat.reduceLeDiff] at hz
          exact ⟨_, [], x, some J, [], .inr ⟨hz.symm, push_nil hn⟩, hs, by simp, hst, hx, (by rfl), (by rfl), (by rfl), (by rfl), (by rfl), (by rfl), (by rfl)⟩
        · simp only [loopR_succ, ht] at hz
          simp only [a1, a2, a6, a9, a22, a23, a24, n1, fdV, List.length_nil, loopR_succ, loopOf, findLoop, firstRegion, Option.some_or, Option.none_or, Option.getD_some, Option.some.injEq, Tryd.f16, FT, Int.reduceEq, Int.reduceToNat, Int.reduceLE, Int.reduceLT, Int.reduceAdd, Int.reduceMul, Int.reduceSub, Int.reduceNeg, Nat.reduceAdd, Nat.reduceSub, Nat.reduceMul, Nat.reduceLT, Nat.reduceBEq, Nat.reduceEqDiff, Nat.reduceLeDiff] at hz
          exact ⟨_, [], x, some J, [], .inr ⟨hz.symm, push_nil hn⟩, hs, by simp, hst, hx, (by rfl), (by rfl), (by rfl), (by rfl), (by rfl), (by rfl), (by rfl)⟩
  | cons y st ih =>
    intro x s k l G z hz hk hk2 hs hst hx a1 a2 a6 a9 a22 a23 a24
    obtain ⟨k, rfl⟩ : ∃ j, k = j + 1 := ⟨k - 1, by simp at hk; omega⟩
    have ht := key (y :: st) x s l G a1 a2 a6 a9 a22 a23 a24
    cases s with
    | none => cases hs
    | some J =>
      obtain ⟨j, hj⟩ : ∃ j, J.length = j * 5 := hs
      cases hn : nothing x with
      | true =>
        obtain ⟨n1, n2⟩ := of_decide_eq_true hn
        have hs : FdOk (some J) (y :: st) := ⟨j, hj⟩
        simp only [loopR_succ, ht] at hz
        simp only [a1, a2, a6, a9, a22, a23, a24, n1, n2, loopR_succ, loopOf, findLoop, firstRegion, Option.some_or, Option.none_or, Option.getD_some, Option.some.injEq, Tryd.f16, FT, Int.reduceEq, Int.reduceToNat, Int.reduceLE, Int.reduceLT, Int.reduceAdd, Int.reduceMul, Int.reduceSub, Int.reduceNeg, Nat.reduceAdd, Nat.reduceSub, Nat.reduceMul, Nat.reduceLT, Nat.reduceBEq, Nat.reduceEqDiff, Nat.reduceLeDiff] at hz
        exact ⟨_, (y :: st), x, some J, [], .inl ⟨hz.symm, push_nothing hn⟩, hs, by simp, hst, hx, (by rfl), (by rfl), (by rfl), (by rfl), (by rfl), (by rfl), (by rfl)⟩
      | false =>
        have hn' : ¬ (x.op = 1 ∧ x.to = x.a) := of_decide_eq_false hn
        obtain ⟨N, hNl⟩ : ∃ N, N = (y :: st).length := ⟨_, rfl⟩
        have hN1 : N = st.length + 1 := hNl
        obtain ⟨CC, hCC⟩ : ∃ CC, CC = encCode (y :: st).reverse ++ J := ⟨_, rfl⟩
        have hN0 : ¬ (N : Int) = 0 := by omega
        have hy := hst y (by simp)
        have hw : IntKind.wrap .i64 ((N : Int) - 1) = (st.length : Int) := by rw [wrap64 (by omega) (by simp at hk2; omega)]; omega
        have hc1 : (0 : Int) ≤ st.length := by omega
        have hc2 : (st.length : Int) < (N : Int) := by omega
        have htk := encCode_top st y J
        rw [← hCC, takeCells_eq] at htk
        have hM := melt_ev (kf + 8) y.op y.to y.a y.b y.c x.op x.to x.a x.b x.c (two_of_may hy hx)
        have hfv : fdV (some J) (y :: st) = .hsl 0 0 N CC.length 5 := by rw [hNl, hCC]; rfl
        have hfo : fdO (some J) (y :: st) = .row false 61 CC := by rw [hCC]; rfl
        cases hm : meltM y x with
        | none =>
          rw [show meltM ⟨y.op, y.to, y.a, y.b, y.c⟩ ⟨x.op, x.to, x.a, x.b, x.c⟩ = none from hm] at hM
          simp only [duo, run, encI, aI, ii, bb, zIn] at hM
          have hs : FdOk (some J) (y :: st) := ⟨j, hj⟩
          by_cases n1 : x.op = 1
          · have n2 : ¬ x.to = x.a := fun h => hn' ⟨n1, h⟩
            simp only [loopR_succ, ht] at hz
            simp only [a1, a2, a6, a9, a22, a23, a24, hfv, hfo, hN0, n1, n2, loopR_succ, loopOf, findLoop, firstRegion, Option.some_or, Option.none_or, Option.getD_some, Option.some.injEq, Tryd.f16, FT, Int.reduceEq, Int.reduceToNat, Int.reduceLE, Int.reduceLT, Int.reduceAdd, Int.reduceMul, Int.reduceSub, Int.reduceNeg, Nat.reduceAdd, Nat.reduceSub, Nat.reduceMul, Nat.reduceLT, Nat.reduceBEq, Nat.reduceEqDiff, Nat.reduceLeDiff] at hz
            rw [evalCode_drawn Tryd.f16 11 dr16_11] at hz; rotate_left; rfl
            simp only [a1, a2, a6, a9, a22, a23, a24, hw, hc1, hc2, htk, hM, EVd, List.getElem?_nil, Nat.reducePow, Nat.reduceDiv, Nat.reduceMod, FT, Int.reduceEq, Int.reduceToNat, Int.reduceLE, Int.reduceLT, Int.reduceAdd, Int.reduceMul, Int.reduceSub, Int.reduceNeg, Nat.reduceAdd, Nat.reduceSub, Nat.reduceMul, Nat.reduceLT, Nat.reduceBEq, Nat.reduceEqDiff, Nat.reduceLeDiff] at hz
            exact ⟨_, y :: st, x, some J, _, .inr ⟨hz.symm.trans (by rw [hfo]; rfl), push_none hn hm⟩, hs, Nat.le_refl _, hst, hx, (by rfl), (by rfl), (by rw [hfv]; rfl), (by rfl), (by rfl), (by rfl), (by rfl)⟩
          · simp only [loopR_succ, ht] at hz
            simp only [a1, a2, a6, a9, a22, a23, a24, hfv, hfo, hN0, n1, loopR_succ, loopOf, findLoop, firstRegion, Option.some_or, Option.none_or, Option.getD_some, Option.some.injEq, Tryd.f16, FT, Int.reduceEq, Int.reduceToNat, Int.reduceLE, Int.reduceLT, Int.reduceAdd, Int.reduceMul, Int.reduceSub, Int.reduceNeg, Nat.reduceAdd, Nat.reduceSub, Nat.reduceMul, Nat.reduceLT, Nat.reduceBEq, Nat.reduceEqDiff, Nat.reduceLeDiff] at hz
            rw [evalCode_drawn Tryd.f16 11 dr16_11] at hz; rotate_left; rfl
            simp only [a1, a2, a6, a9, a22, a23, a24, hw, hc1, hc2, htk, hM, EVd, List.getElem?_nil, Nat.reducePow, Nat.reduceDiv, Nat.reduceMod, FT, Int.reduceEq, Int.reduceToNat, Int.reduceLE, Int.reduceLT, Int.reduceAdd, Int.reduceMul, Int.reduceSub, Int.reduceNeg, Nat.reduceAdd, Nat.reduceSub, Nat.reduceMul, Nat.reduceLT, Nat.reduceBEq, Nat.reduceEqDiff, Nat.reduceLeDiff] at hz
            exact ⟨_, y :: st, x, some J, _, .inr ⟨hz.symm.trans (by rw [hfo]; rfl), push_none hn hm⟩, hs, Nat.le_refl _, hst, hx, (by rfl), (by rfl), (by rw [hfv]; rfl), (by rfl), (by rfl), (by rfl), (by rfl)⟩
        | some w =>
          have hC2 : encCode st.reverse ++ (enc1 y ++ J) = CC := by rw [hCC, List.reverse_cons, encCode_append, List.append_assoc]; simp [encCode, enc1]
          have hfv' : fdV (some (enc1 y ++ J)) st = .hsl 0 0 st.length CC.length 5 := by rw [← hC2]; rfl
          have hfo' : fdO (some (enc1 y ++ J)) st = .row false 61 CC := by rw [← hC2]; rfl
          have hsl : ∀ X, sliceO (.row false 61 CC :: X) 5 (.hsl 0 0 N CC.length 5) none (some (.c (.int .i64 (st.length : Int)))) = some (.hsl 0 0 st.length CC.length 5) := by
            intro X
            have h1 : (rowOf (.row false 61 CC :: X) 0 CC.length).isSome = true := by
              rw [rowOf_eq (fz := false) rfl rfl]; rfl
            have h2 : 0 + st.length * 5 ≤ CC.length := by
              rw [← hC2, List.length_append, encCode_length]; simp
            simp only [sliceO, boundA, hc1, if_true, Option.bind_some, Int.toNat_natCast]
            rw [if_pos ⟨Nat.zero_le _, h2, by omega, trivial, h1⟩]
            simp
          rw [show meltM ⟨y.op, y.to, y.a, y.b, y.c⟩ ⟨x.op, x.to, x.a, x.b, x.c⟩ = some w from hm] at hM
          simp only [duo, run, encI, aI, ii, bb] at hM
          by_cases n1 : x.op = 1
          · have n2 : ¬ x.to = x.a := fun h => hn' ⟨n1, h⟩
            simp only [loopR_succ, ht] at hz
            simp only [a1, a2, a6, a9, a22, a23, a24, hfv, hfo, hN0, n1, n2, loopR_succ, loopOf, findLoop, firstRegion, Option.some_or, Option.none_or, Option.getD_some, Option.some.injEq, Tryd.f16, FT, Int.reduceEq, Int.reduceToNat, Int.reduceLE, Int.reduceLT, Int.reduceAdd, Int.reduceMul, Int.reduceSub, Int.reduceNeg, Nat.reduceAdd, Nat.reduceSub, Nat.reduceMul, Nat.reduceLT, Nat.reduceBEq, Nat.reduceEqDiff, Nat.reduceLeDiff] at hz
            rw [evalCode_drawn Tryd.f16 11 dr16_11] at hz; rotate_left; rfl
            simp only [a1, a2, a6, a9, a22, a23, a24, hw, hc1, hc2, htk, hM, hsl, EVd, List.getElem?_nil, Nat.reducePow, Nat.reduceDiv, Nat.reduceMod, FT, Int.reduceEq, Int.reduceToNat, Int.reduceLE, Int.reduceLT, Int.reduceAdd, Int.reduceMul, Int.reduceSub, Int.reduceNeg, Nat.reduceAdd, Nat.reduceSub, Nat.reduceMul, Nat.reduceLT, Nat.reduceBEq, Nat.reduceEqDiff, Nat.reduceLeDiff] at hz
            obtain ⟨l', st', y', s', G', e0, e1, e2, e3⟩ := ih w (some (enc1 y ++ J)) k _ [oI w] z (by rw [← hz, hfo']; rfl) (by simp at hk; omega) (by simp at hk2; omega) ⟨j + 1, by rw [List.length_append, hj]; simp [enc1]; omega⟩ (fun i hi => hst i (by simp [hi])) (melt_may hy hx hm) (by rfl) (by rfl) (by rw [hfv']; rfl) (by rfl) (by rfl) (by rfl) (by rfl)
            exact ⟨l', st', y', s', G', by rw [push_some hn hm]; exact e0, e1, by simp only [List.length_cons]; omega, e3⟩
          · simp only [loopR_succ, ht] at hz
            simp only [a1, a2, a6, a9, a22, a23, a24, hfv, hfo, hN0, n1, loopR_succ, loopOf, findLoop, firstRegion, Option.some_or, Option.none_or, Option.getD_some, Option.some.injEq, Tryd.f16, FT, Int.reduceEq, Int.reduceToNat, Int.reduceLE, Int.reduceLT, Int.reduceAdd, Int.reduceMul, Int.reduceSub, Int.reduceNeg, Nat.reduceAdd, Nat.reduceSub, Nat.reduceMul, Nat.reduceLT, Nat.reduceBEq, Nat.reduceEqDiff, Nat.reduceLeDiff] at hz
            rw [evalCode_drawn Tryd.f16 11 dr16_11] at hz; rotate_left; rfl
            simp only [a1, a2, a6, a9, a22, a23, a24, hw, hc1, hc2, htk, hM, hsl, EVd, List.getElem?_nil, Nat.reducePow, Nat.reduceDiv, Nat.reduceMod, FT, Int.reduceEq, Int.reduceToNat, Int.reduceLE, Int.reduceLT, Int.reduceAdd, Int.reduceMul, Int.reduceSub, Int.reduceNeg, Nat.reduceAdd, Nat.reduceSub, Nat.reduceMul, Nat.reduceLT, Nat.reduceBEq, Nat.reduceEqDiff, Nat.reduceLeDiff] at hz
            obtain ⟨l', st', y', s', G', e0, e1, e2, e3⟩ := ih w (some (enc1 y ++ J)) k _ [oI w] z (by rw [← hz, hfo']; rfl) (by simp at hk; omega) (by simp at hk2; omega) ⟨j + 1, by rw [List.length_append, hj]; simp [enc1]; omega⟩ (fun i hi => hst i (by simp [hi])) (melt_may hy hx hm) (by rfl) (by rfl) (by rw [hfv']; rfl) (by rfl) (by rfl) (by rfl) (by rfl)
            exact ⟨l', st', y', s', G', by rw [push_some hn hm]; exact e0, e1, by simp only [List.length_cons]; omega, e3⟩
end Go.Proofs.Sw
namespace Go.Proofs.Sw
open Go.Ab
variable [Globals]
abbrev zP : Pg := ⟨0, 0, [], []⟩
end Go.Proofs.Sw
namespace Go.Proofs.Sw
open Go.Ab Go.Proofs.YtiiannaficbjeaaDoor.tab
def foldAt (code : List Ins) (i : Nat) : List Ins := (code.take i).foldl (fun st i => push st (plainM i)) []
theorem foldAt_succ {code : List Ins} {i : Nat} (h : i < code.length) : foldAt code (i + 1) = push (foldAt code i) (plainM code[i]) := by
  unfold foldAt
  rw [List.take_succ_eq_append_getElem h, List.foldl_append]
  rfl
theorem foldAt_len (code : List Ins) (i : Nat) : (foldAt code i).length ≤ i := by
  have := fold_len (code.take i) []
  simp only [List.length_nil, Nat.zero_add, List.length_take] at this
  unfold foldAt
  omega
theorem foldAt_mem {code : List Ins} {regs : Int} (h : ∀ i ∈ code, mayM i regs = true) (i : Nat) : ∀ j ∈ foldAt code i, mayM j regs = true :=
  fold_mem _ [] (fun j hj => h j (List.mem_of_mem_take hj)) (fun j hj => (nomatch hj))
theorem c_le {i : Ins} {regs : Int} (h : mayM i regs = true) : i.c ≤ 512 := by
  obtain ⟨⟨a1, a2⟩, _, _, _⟩ := mayM_facts h
  obtain ⟨b1, b2, b3⟩ := (const_iff _).1 ((may_iff _ _).1 h).2.1
  omega
theorem loop_fold (kf : Nat) (o0 o1 : AObj) (h0 : ∀ n, o0.under n = true) (h1 : ∀ n, o1.under n = true) (code : List Ins) (nl : Bool) (cap : Option Nat) (n : Int) (hcm : ∀ i ∈ code, mayM i n = true) (hl : code.length ≤ 20000) (hkf : code.length + 20 < kf) (k : Nat) (l : Ass) (z : Option Out) (hz : loopR Tryd.prog tab (kf + 16) none LB16_6 16 76 [1, 2, 6, 22, 23, 24] 3 k l ([fdO none (foldAt code 0), o0, o1]) = z) (hk : code.length < k) (a1 : asc l 1 = .ptr 1 0) (a2 : asc l 2 = .ptr 2 0) (a6 : asc l 6 = fdV none (foldAt code 0)) (a22 : asc l 22 = sC code nl cap) (a23 : asc l 23 = ii code.length) (a24 : asc l 24 = ii 0) :
    ∃ l' s, z = some (.exit 0 (fr 76 l') [fdO s (foldAt code code.length), o0, o1]) ∧ asc l' 1 = .ptr 1 0 ∧ asc l' 2 = .ptr 2 0 ∧ asc l' 6 = fdV s (foldAt code code.length) ∧ FdOk s (foldAt code code.length) := by
  subst hz
  refine loop_nat code.length (fun k l H => loopR Tryd.prog tab (kf + 16) none LB16_6 16 76 [1, 2, 6, 22, 23, 24] 3 k l H)
    (fun i l H => ∃ (s : Option (List IV)), asc l 1 = .ptr 1 0 ∧ asc l 2 = .ptr 2 0 ∧ asc l 6 = fdV s (foldAt code i) ∧ asc l 22 = sC code nl cap ∧ asc l 23 = ii code.length ∧ asc l 24 = ii i ∧ (FdOk s (foldAt code i)) ∧ ∃ G, H = ([fdO s (foldAt code i), o0, o1]) ++ G)
    (fun z => ∃ l' s, z = some (.exit 0 (fr 76 l') [fdO s (foldAt code code.length), o0, o1]) ∧ asc l' 1 = .ptr 1 0 ∧ asc l' 2 = .ptr 2 0 ∧ asc l' 6 = fdV s (foldAt code code.length) ∧ FdOk s (foldAt code code.length)) ?_ code.length 0 k l _ (by omega) hk ⟨none, a1, a2, a6, a22, a23, a24, rfl, [], by rw [List.append_nil]⟩
  clear hk a1 a2 a6 a22 a23 a24
  rintro i k l H hi ⟨s, a1, a2, a6, a22, a23, a24, hp, G, rfl⟩
  have ht : trim 3 (fr 76 (keep l [1, 2, 6, 22, 23, 24])) (([fdO s (foldAt code i), o0, o1]) ++ G) = ([fdO s (foldAt code i), o0, o1]) := trim_app (by simp) (by simp only [a1, a2, a6, a22, a23, a24, h0, h1, fdO_under, fdV_under (show 0 < 3 by omega), EVb, EVc, Int.reduceEq, Int.reduceToNat, Int.reduceLE, Int.reduceLT, Int.reduceAdd, Int.reduceMul, Int.reduceSub, Int.reduceNeg, Nat.reduceAdd, Nat.reduceSub, Nat.reduceMul, Nat.reduceLT, Nat.reduceBEq, Nat.reduceEqDiff, Nat.reduceLeDiff]) (by simp only [h0, h1, fdO_under, fdV_under (show 0 < 3 by omega), EVb, EVc, Int.reduceEq, Int.reduceToNat, Int.reduceLE, Int.reduceLT, Int.reduceAdd, Int.reduceMul, Int.reduceSub, Int.reduceNeg, Nat.reduceAdd, Nat.reduceSub, Nat.reduceMul, Nat.reduceLT, Nat.reduceBEq, Nat.reduceEqDiff, Nat.reduceLeDiff])
  by_cases hc : i < code.length
  · have hc' : (i : Int) < ((code.length : Nat) : Int) := by omega
    have hc0 : (0 : Int) ≤ i := by omega
    have hw : IntKind.wrap .i64 ((i : Int) + 1) = ((i + 1 : Nat) : Int) := by rw [wrap64 (by omega) (by omega)]; omega
    have hi := hcm _ (List.getElem_mem hc)
    have hx := encCode_get hc
    have hcc := c_le hi
    have hp2 := hp
    have hp := plain_ev (kf + 10) code[i].op code[i].to code[i].a code[i].b code[i].c hcc
    have hmem := foldAt_mem hcm i
    have hlen := foldAt_len code i
    have hsucc := foldAt_succ hc
    rw [hsucc]
    obtain ⟨st, hst⟩ : ∃ st, st = foldAt code i := ⟨_, rfl⟩
    rw [← hst] at hp2 hmem hlen ht a6 ⊢
    have hpm := plain_may hi
    have hpe : plainM ⟨code[i].op, code[i].to, code[i].a, code[i].b, code[i].c⟩ = plainM code[i] := rfl
    rw [hpe] at hp
    obtain ⟨x, hxx⟩ : ∃ x, x = plainM code[i] := ⟨_, rfl⟩
    rw [← hxx] at hp hpm ⊢
    simp only [run, aI, ii, encI] at hp
    simp only [loopR_succ, ht]
    simp only [a1, a2, a6, a22, a23, a24, hc', hc0, hw, hx, hp, loopR_succ, loopOf, findLoop, firstRegion, Option.some_or, Option.none_or, Option.getD_some, Option.some.injEq, Tryd.f16, FT, Int.reduceEq, Int.reduceToNat, Int.reduceLE, Int.reduceLT, Int.reduceAdd, Int.reduceMul, Int.reduceSub, Int.reduceNeg, Nat.reduceAdd, Nat.reduceSub, Nat.reduceMul, Nat.reduceLT, Nat.reduceBEq, Nat.reduceEqDiff, Nat.reduceLeDiff]
    rw [evalCode_loopB LB16_9 lp16_9]; rotate_left; rfl; rfl; rfl
    generalize hz : loopR _ _ _ _ _ _ _ _ _ _ _ _ = z
    obtain ⟨l', st', y, s', G', he, hs', hl', hm', hy', b1, b2, b6, b9, b22, b23, b24⟩ := loop_melt (kf + 16) (by omega) n o0 o1 (oI code[i]) (h0 5) (h1 5) (by rfl) (sC code nl cap) (ii code.length) (ii i) (by rfl) (by rfl) (by rfl) st x s _ _ [] z hz (by omega) (by omega) hp2 hmem hpm (by rfl) (by rfl) (by rfl) (by rfl) (by rfl) (by rfl) (by rfl)
    clear hz
    rcases he with ⟨rfl, he⟩ | ⟨rfl, he⟩
    · simp only [b1, b2, b6, b9, b22, b23, b24, hw, FT, Int.reduceEq, Int.reduceToNat, Int.reduceLE, Int.reduceLT, Int.reduceAdd, Int.reduceMul, Int.reduceSub, Int.reduceNeg, Nat.reduceAdd, Nat.reduceSub, Nat.reduceMul, Nat.reduceLT, Nat.reduceBEq, Nat.reduceEqDiff, Nat.reduceLeDiff]
      exact .inr ⟨_, _, hc, rfl, s', (by exact b1), (by exact b2), (by rw [he]; exact b6), (by exact b22), (by exact b23), (by rfl), by rw [he]; exact hs', ⟨_, by rw [he]⟩⟩
    · obtain ⟨s2, hs2, _⟩ := fd_app (x := y) hs' (by omega) []
      have hap : ∀ X, ∃ s2, FdOk s2 (y :: st') ∧ apO 61 5 40 (some 0) (fdV s' st') (fdO s' st' :: X) (some (enc1 y, 1)) = some (fdV s2 (y :: st'), fdO s2 (y :: st') :: X) := fun X => fd_app (x := y) hs' (by omega) X
      obtain ⟨s2, hs2, hap⟩ := hap (o0 :: o1 :: oI code[i] :: oI y :: (G' ++ [.row false 61 (enc1 y)]))
      have hat : ∀ o : AObj, (G' ++ [o])[G'.length]? = some o := fun o => by simp
      simp only [enc1] at hap
      simp only [b1, b2, b6, b9, b22, b23, b24, hw, hap, hat, FT, Int.reduceEq, Int.reduceToNat, Int.reduceLE, Int.reduceLT, Int.reduceAdd, Int.reduceMul, Int.reduceSub, Int.reduceNeg, Nat.reduceAdd, Nat.reduceSub, Nat.reduceMul, Nat.reduceLT, Nat.reduceBEq, Nat.reduceEqDiff, Nat.reduceLeDiff]
      exact .inr ⟨_, _, hc, rfl, s2, (by exact b1), (by exact b2), (by rw [he]; rfl), (by exact b22), (by exact b23), (by rfl), by rw [he]; exact hs2, ⟨_, by rw [he]⟩⟩
  · refine .inl ?_
    obtain rfl : i = code.length := by omega
    have hc' : ¬ (((code.length : Nat) : Int) < ((code.length : Nat) : Int)) := by omega
    simp only [loopR_succ, ht]
    simp only [a1, a2, a6, a22, a23, a24, hc', loopR_succ, loopOf, findLoop, firstRegion, Option.some_or, Option.none_or, Option.getD_some, Option.some.injEq, Tryd.f16, FT, Int.reduceEq, Int.reduceToNat, Int.reduceLE, Int.reduceLT, Int.reduceAdd, Int.reduceMul, Int.reduceSub, Int.reduceNeg, Nat.reduceAdd, Nat.reduceSub, Nat.reduceMul, Nat.reduceLT, Nat.reduceBEq, Nat.reduceEqDiff, Nat.reduceLeDiff]
    exact ⟨_, s, rfl, (by rfl), (by rfl), (by rfl), hp⟩
theorem clone_ev (k : Nat) (outs : List Int) (cap : Option Nat) (hl : 0 < outs.length) (ho : outs.length ≤ 1000000) : run (k+1) 39 [sI outs false cap] = some (sI outs false none) := by
  have h := clone_raw k outs cap hl ho
  have hel := encInts_length outs
  rw [run, h]
  have htk : (encInts outs).take outs.length = encInts outs := by rw [← hel, List.take_length]
  simp only [hel, htk, Nat.le_refl, FT, Int.reduceEq, Int.reduceToNat, Int.reduceLE, Int.reduceLT, Int.reduceAdd, Int.reduceMul, Int.reduceSub, Int.reduceNeg, Nat.reduceAdd, Nat.reduceSub, Nat.reduceMul, Nat.reduceLT, Nat.reduceBEq, Nat.reduceEqDiff, Nat.reduceLeDiff]
theorem foldPass_bad (k : Nat) (p : Pg) (nl : Bool) (cap : Option Nat) (nl2 : Bool) (cap2 : Option Nat) (hk : p.outs.length + p.code.length + 20 ≤ k) (hr : rightM p = false) :
    run (k+1) 16 [aP p nl cap nl2 cap2] = some (.tup [aP zP true (some 0) true (some 0), ii 80]) := by
  obtain ⟨k, rfl⟩ : ∃ j, k = j + 1 := ⟨k - 1, by omega⟩
  obtain ⟨n, hc⟩ := check_ev k p nl cap nl2 cap2 (by omega)
  simp only [run, aP, ii, bb, checkE, hr] at hc
  rw [run, ev16, ans_trim]
  simp only [Tryd.f16, aP, ii, bb, hc, FT, Int.reduceEq, Int.reduceToNat, Int.reduceLE, Int.reduceLT, Int.reduceAdd, Int.reduceMul, Int.reduceSub, Int.reduceNeg, Nat.reduceAdd, Nat.reduceSub, Nat.reduceMul, Nat.reduceLT, Nat.reduceBEq, Nat.reduceEqDiff, Nat.reduceLeDiff]
  rfl
theorem foldPass_ev (k n : Nat) (ins : Int) (code : List Ins) (outs : List Int) (nl : Bool) (cap : Option Nat) (nl2 : Bool) (cap2 : Option Nat) (hk : outs.length + code.length + 60 ≤ k) (hn2 : nl2 = true → outs = []) (hr : rightM ⟨ins, n, code, outs⟩ = true) :
    ∃ (nl3 : Bool) (cap3 : Option Nat), run (k+1) 16 [aP ⟨ins, n, code, outs⟩ nl cap nl2 cap2] = some (.tup [aP (foldP ⟨ins, n, code, outs⟩) nl3 cap3 false none, ii 0]) := by
  have hr' := hr
  simp only [rightM, headM, codeM, outsM, Bool.and_eq_true, decide_eq_true_eq, List.all_eq_true] at hr'
  obtain ⟨⟨⟨g1, g2, g3, g4, g5, g6⟩, go⟩, gc⟩ := hr'
  obtain rfl : nl2 = false := by
    cases nl2 with
    | false => rfl
    | true => have := hn2 rfl; subst this; simp at g5
  obtain ⟨k, rfl⟩ : ∃ j, k = j + 16 := ⟨k - 16, by omega⟩
  obtain ⟨cn, hck⟩ := check_ev (k + 15) ⟨ins, n, code, outs⟩ nl cap false cap2 (by simp only; omega)
  have hcl := clone_ev (k + 15) outs cap2 (by omega) (by omega)
  simp only [run, aP, ii, bb, sI, sC, checkE, hr] at hck hcl
  rw [run, ev16, ans_trim]
  simp only [Tryd.f16, aP, ii, bb, hck, FT, Int.reduceEq, Int.reduceToNat, Int.reduceLE, Int.reduceLT, Int.reduceAdd, Int.reduceMul, Int.reduceSub, Int.reduceNeg, Nat.reduceAdd, Nat.reduceSub, Nat.reduceMul, Nat.reduceLT, Nat.reduceBEq, Nat.reduceEqDiff, Nat.reduceLeDiff]
  rw [evalCode_loopB LB16_6 lp16_6]; rotate_left; rfl; rfl; rfl
  generalize hz : loopR _ _ _ _ _ _ _ _ _ _ _ _ = z
  obtain ⟨l', s, rfl, e1, e2, e6, hs⟩ := loop_fold k (.cells 25 [ii ins, ii n, sC code nl cap, sI outs false cap2]) (.cells 25 [ii 0, ii 0, .c (.slice [] 0 true (some 0)), .c (.slice [] 0 true (some 0))]) (fun _ => rfl) (fun _ => rfl) code nl cap n gc (by omega) (by omega) _ _ z hz (by omega) (by rfl) (by rfl) (by rfl) (by rfl) (by rfl) (by rfl)
  clear hz
  have hfc : foldC code = (foldAt code code.length).reverse := by unfold foldAt foldC; rw [List.take_length]
  have hfp : foldP ⟨ins, n, code, outs⟩ = ⟨ins, n, (foldAt code code.length).reverse, outs⟩ := by rw [← hfc]; rfl
  rw [hfp]
  obtain ⟨st, hst⟩ : ∃ st, st = foldAt code code.length := ⟨_, rfl⟩
  rw [← hst] at e6 hs ⊢
  cases s with
  | none =>
    have h0 : st = [] := hs
    subst h0
    refine ⟨true, some 0, ?_⟩
    simp only [FT, Int.reduceEq, Int.reduceToNat, Int.reduceLE, Int.reduceLT, Int.reduceAdd, Int.reduceMul, Int.reduceSub, Int.reduceNeg, Nat.reduceAdd, Nat.reduceSub, Nat.reduceMul, Nat.reduceLT, Nat.reduceBEq, Nat.reduceEqDiff, Nat.reduceLeDiff]
    rw [evalCode_drawn Tryd.f16 17 dr16_17]; rotate_left; rfl
    simp only [e1, e2, e6, fdV, fdO, hcl, EVd, List.getElem?_nil, Nat.reducePow, Nat.reduceDiv, Nat.reduceMod, FT, Int.reduceEq, Int.reduceToNat, Int.reduceLE, Int.reduceLT, Int.reduceAdd, Int.reduceMul, Int.reduceSub, Int.reduceNeg, Nat.reduceAdd, Nat.reduceSub, Nat.reduceMul, Nat.reduceLT, Nat.reduceBEq, Nat.reduceEqDiff, Nat.reduceLeDiff]
    rfl
  | some J =>
    refine ⟨false, none, ?_⟩
    simp only [FT, Int.reduceEq, Int.reduceToNat, Int.reduceLE, Int.reduceLT, Int.reduceAdd, Int.reduceMul, Int.reduceSub, Int.reduceNeg, Nat.reduceAdd, Nat.reduceSub, Nat.reduceMul, Nat.reduceLT, Nat.reduceBEq, Nat.reduceEqDiff, Nat.reduceLeDiff]
    rw [evalCode_drawn Tryd.f16 17 dr16_17]; rotate_left; rfl
    have hle : st.length * 5 ≤ (encCode st.reverse ++ J).length := by rw [List.length_append, encCode_length, List.length_reverse]; omega
    have htk : (encCode st.reverse ++ J).take (st.length * 5) = encCode st.reverse := by
      have : (encCode st.reverse).length = st.length * 5 := by rw [encCode_length, List.length_reverse]
      rw [← this, List.take_left]
    obtain ⟨CC, hCC⟩ : ∃ CC, CC = encCode st.reverse ++ J := ⟨_, rfl⟩
    rw [← hCC] at hle htk
    have hfv : fdV (some J) st = .hsl 0 0 st.length CC.length 5 := by rw [hCC]; rfl
    have hfo : fdO (some J) st = .row false 61 CC := by rw [hCC]; rfl
    simp only [e1, e2, e6, hfv, hfo, hcl, hle, htk, EVd, List.getElem?_nil, Nat.reducePow, Nat.reduceDiv, Nat.reduceMod, FT, Int.reduceEq, Int.reduceToNat, Int.reduceLE, Int.reduceLT, Int.reduceAdd, Int.reduceMul, Int.reduceSub, Int.reduceNeg, Nat.reduceAdd, Nat.reduceSub, Nat.reduceMul, Nat.reduceLT, Nat.reduceBEq, Nat.reduceEqDiff, Nat.reduceLeDiff]
    simp only [sC, sI, List.length_reverse]
end Go.Proofs.Sw
namespace Go.Proofs.Sw.W
open Go.Ab
section
variable [Globals]
theorem getD_small {R : List RI} {i m : Nat} (h : ∀ r ∈ R, (nD r.v).length ≤ m) : (nD (R.getD i zN).v).length ≤ m := by
  by_cases hi : i < R.length
  · rw [List.getD_eq_getElem?_getD, List.getElem?_eq_getElem hi]
    exact h _ (List.getElem_mem hi)
  · rw [List.getD_eq_getElem?_getD, List.getElem?_eq_none (by omega)]
    simp [nD, dig_zero]
theorem nD_small {c : Int} (h : c.natAbs ≤ 1000) : (nD c).length ≤ 1 := dig_len (k := 1) (by omega)
theorem nD_pow {n : Nat} (h : n ≤ 64) : (nD ((2 ^ n : Nat) : Int)).length ≤ 3 := by
  refine dig_len (k := 3) ?_
  rw [Int.natAbs_natCast]
  exact Nat.lt_of_le_of_lt (Nat.pow_le_pow_right (by omega) h) (by decide)
theorem do_ev (k : Nat) (R : List RI) (n : Nat) (o t a b c : Int) (hn : R.length = n) (hn6 : n ≤ 1000000) (h18 : 1 ≤ o ∧ o ≤ 8) (ha : 0 ≤ a ∧ a < n) (hb : 0 ≤ b ∧ b < n) (hc : (o = 5 ∨ o = 6 → c ≠ 0 ∧ -512 ≤ c ∧ c ≤ 512) ∧ (o = 7 ∨ o = 8 → 1 ≤ c ∧ c ≤ 64)) (hR : ∀ r ∈ R, (nD r.v).length ≤ 30000) (hk : 70000 ≤ k) :
    ∃ (z : RI) (ok : Bool), numF o c (R.getD a.toNat zN).v (R.getD b.toNat zN).v = (if ok = true then some z.v else none) ∧
      evalT Tryd.prog (mkHints tab) (k+9) (.fn 76) [fnsV, .hsl 0 0 n (n * 2) 2, aI o t a b c] [rN R] = some (.tup [aW z, bb ok], [rN R]) := by
  have hx := encN_two (l := R) (i := a.toNat) (by omega)
  have hy := encN_two (l := R) (i := b.toNat) (by omega)
  have hla := getD_small (i := a.toNat) hR
  have hlb := getD_small (i := b.toNat) hR
  have hel := encN_length R
  rw [hn] at hel
  obtain ⟨A, hA⟩ : ∃ A, A = R.getD a.toNat zN := ⟨_, rfl⟩
  obtain ⟨B, hB⟩ : ∃ B, B = R.getD b.toNat zN := ⟨_, rfl⟩
  rw [← hA] at hx hla ⊢
  rw [← hB] at hy hlb ⊢
  have ha2 : a.toNat * 2 + 2 ≤ n * 2 := by omega
  have hb2 : b.toNat * 2 + 2 ≤ n * 2 := by omega
  obtain ⟨ha0, ha1⟩ := ha
  obtain ⟨hb0, hb1⟩ := hb
  obtain ho | ho | ho | ho | ho | ho | ho | ho : o = 1 ∨ o = 2 ∨ o = 3 ∨ o = 4 ∨ o = 5 ∨ o = 6 ∨ o = 7 ∨ o = 8 := by omega
  · refine ⟨A, true, by rw [ho]; rfl, ?_⟩
    subst ho
    rw [ev76]
    simp only [Tryd.f76, fnsV, aI, aW, bb, FT, Int.reduceEq, Int.reduceToNat, Int.reduceLE, Int.reduceLT, Int.reduceAdd, Int.reduceMul, Int.reduceSub, Int.reduceNeg, Nat.reduceAdd, Nat.reduceSub, Nat.reduceMul, Nat.reduceLT, Nat.reduceBEq, Nat.reduceEqDiff, Nat.reduceLeDiff]
    rw [evalCode_drawn Tryd.f76 1 dr76_1]; rotate_left; rfl
    simp (config := { maxSteps := 4000000 }) only [hel, ha0, ha1, hb0, hb1, ha2, hb2, hx, hy, EVd, List.getElem?_nil, Nat.reducePow, Nat.reduceDiv, Nat.reduceMod, FT, Int.reduceEq, Int.reduceToNat, Int.reduceLE, Int.reduceLT, Int.reduceAdd, Int.reduceMul, Int.reduceSub, Int.reduceNeg, Nat.reduceAdd, Nat.reduceSub, Nat.reduceMul, Nat.reduceLT, Nat.reduceBEq, Nat.reduceEqDiff, Nat.reduceLeDiff]
  · obtain ⟨z, hz, h⟩ := Neg_ev (k + 6) A
    simp only [run, aW, bb, ii] at h
    refine ⟨z, true, by rw [ho, hz]; rfl, ?_⟩
    subst ho
    rw [ev76]
    simp only [Tryd.f76, fnsV, aI, aW, bb, FT, Int.reduceEq, Int.reduceToNat, Int.reduceLE, Int.reduceLT, Int.reduceAdd, Int.reduceMul, Int.reduceSub, Int.reduceNeg, Nat.reduceAdd, Nat.reduceSub, Nat.reduceMul, Nat.reduceLT, Nat.reduceBEq, Nat.reduceEqDiff, Nat.reduceLeDiff]
    rw [evalCode_drawn Tryd.f76 1 dr76_1]; rotate_left; rfl
    simp (config := { maxSteps := 4000000 }) only [hel, ha0, ha1, hb0, hb1, ha2, hb2, hx, hy, h, EVd, List.getElem?_nil, Nat.reducePow, Nat.reduceDiv, Nat.reduceMod, FT, Int.reduceEq, Int.reduceToNat, Int.reduceLE, Int.reduceLT, Int.reduceAdd, Int.reduceMul, Int.reduceSub, Int.reduceNeg, Nat.reduceAdd, Nat.reduceSub, Nat.reduceMul, Nat.reduceLT, Nat.reduceBEq, Nat.reduceEqDiff, Nat.reduceLeDiff]
  · obtain ⟨z, hz, h⟩ := Add_ev (k + 4) A B (by omega) (by omega) (by omega)
    simp only [run, aW, bb, ii] at h
    refine ⟨z, true, by rw [ho, hz]; rfl, ?_⟩
    subst ho
    rw [ev76]
    simp only [Tryd.f76, fnsV, aI, aW, bb, FT, Int.reduceEq, Int.reduceToNat, Int.reduceLE, Int.reduceLT, Int.reduceAdd, Int.reduceMul, Int.reduceSub, Int.reduceNeg, Nat.reduceAdd, Nat.reduceSub, Nat.reduceMul, Nat.reduceLT, Nat.reduceBEq, Nat.reduceEqDiff, Nat.reduceLeDiff]
    rw [evalCode_drawn Tryd.f76 1 dr76_1]; rotate_left; rfl
    simp (config := { maxSteps := 4000000 }) only [hel, ha0, ha1, hb0, hb1, ha2, hb2, hx, hy, h, EVd, List.getElem?_nil, Nat.reducePow, Nat.reduceDiv, Nat.reduceMod, FT, Int.reduceEq, Int.reduceToNat, Int.reduceLE, Int.reduceLT, Int.reduceAdd, Int.reduceMul, Int.reduceSub, Int.reduceNeg, Nat.reduceAdd, Nat.reduceSub, Nat.reduceMul, Nat.reduceLT, Nat.reduceBEq, Nat.reduceEqDiff, Nat.reduceLeDiff]
  · obtain ⟨z, hz, h⟩ := Sub_ev (k + 3) A B (by omega) (by omega) (by omega)
    simp only [run, aW, bb, ii] at h
    refine ⟨z, true, by rw [ho, hz]; rfl, ?_⟩
    subst ho
    rw [ev76]
    simp only [Tryd.f76, fnsV, aI, aW, bb, FT, Int.reduceEq, Int.reduceToNat, Int.reduceLE, Int.reduceLT, Int.reduceAdd, Int.reduceMul, Int.reduceSub, Int.reduceNeg, Nat.reduceAdd, Nat.reduceSub, Nat.reduceMul, Nat.reduceLT, Nat.reduceBEq, Nat.reduceEqDiff, Nat.reduceLeDiff]
    rw [evalCode_drawn Tryd.f76 1 dr76_1]; rotate_left; rfl
    simp (config := { maxSteps := 4000000 }) only [hel, ha0, ha1, hb0, hb1, ha2, hb2, hx, hy, h, EVd, List.getElem?_nil, Nat.reducePow, Nat.reduceDiv, Nat.reduceMod, FT, Int.reduceEq, Int.reduceToNat, Int.reduceLE, Int.reduceLT, Int.reduceAdd, Int.reduceMul, Int.reduceSub, Int.reduceNeg, Nat.reduceAdd, Nat.reduceSub, Nat.reduceMul, Nat.reduceLT, Nat.reduceBEq, Nat.reduceEqDiff, Nat.reduceLeDiff]
  · obtain ⟨hc1, hc2, hc3⟩ := hc.1 (.inl ho)
    obtain ⟨w, hw, h1⟩ := Of_ev (k + 4) c (by omega) (by omega) (by omega)
    have hwl := nD_small (c := w.v) (by omega)
    obtain ⟨z, hz, h⟩ := Mul_ev (k + 4) A w (by omega) (by omega) (by omega)
    have hcw : IntKind.wrap .i64 c = c := wrap64 (by omega) (by omega)
    simp only [run, aW, bb, ii] at h h1
    refine ⟨z, true, by rw [ho, hz, hw]; rfl, ?_⟩
    subst ho
    rw [ev76]
    simp only [Tryd.f76, fnsV, aI, aW, bb, FT, Int.reduceEq, Int.reduceToNat, Int.reduceLE, Int.reduceLT, Int.reduceAdd, Int.reduceMul, Int.reduceSub, Int.reduceNeg, Nat.reduceAdd, Nat.reduceSub, Nat.reduceMul, Nat.reduceLT, Nat.reduceBEq, Nat.reduceEqDiff, Nat.reduceLeDiff]
    rw [evalCode_drawn Tryd.f76 1 dr76_1]; rotate_left; rfl
    simp (config := { maxSteps := 4000000 }) only [hel, ha0, ha1, hb0, hb1, ha2, hb2, hx, hy, EVd, List.getElem?_nil, Nat.reducePow, Nat.reduceDiv, Nat.reduceMod, FT, Int.reduceEq, Int.reduceToNat, Int.reduceLE, Int.reduceLT, Int.reduceAdd, Int.reduceMul, Int.reduceSub, Int.reduceNeg, Nat.reduceAdd, Nat.reduceSub, Nat.reduceMul, Nat.reduceLT, Nat.reduceBEq, Nat.reduceEqDiff, Nat.reduceLeDiff]
    rw [evalCode_drawn Tryd.f76 10 dr76_10]; rotate_left; rfl
    simp (config := { maxSteps := 4000000 }) only [h1, h, hcw, EVd, List.getElem?_nil, Nat.reducePow, Nat.reduceDiv, Nat.reduceMod, FT, Int.reduceEq, Int.reduceToNat, Int.reduceLE, Int.reduceLT, Int.reduceAdd, Int.reduceMul, Int.reduceSub, Int.reduceNeg, Nat.reduceAdd, Nat.reduceSub, Nat.reduceMul, Nat.reduceLT, Nat.reduceBEq, Nat.reduceEqDiff, Nat.reduceLeDiff]
  · obtain ⟨hc1, hc2, hc3⟩ := hc.1 (.inr ho)
    obtain ⟨w, hw, h1⟩ := Of_ev (k + 4) c (by omega) (by omega) (by omega)
    have hwl := nD_small (c := w.v) (by omega)
    obtain ⟨z, hz, h⟩ := over_ev k A w (by omega) (by omega) (by omega) (by omega)
    have hcw : IntKind.wrap .i64 c = c := wrap64 (by omega) (by omega)
    simp only [run, aW, bb, ii] at h h1
    refine ⟨z, decide (A.v % w.v = 0), ?_, ?_⟩
    · rw [ho, hz, hw]
      by_cases hd : A.v % c = 0 <;> simp [numF, hd]
    subst ho
    rw [ev76]
    simp only [Tryd.f76, fnsV, aI, aW, bb, FT, Int.reduceEq, Int.reduceToNat, Int.reduceLE, Int.reduceLT, Int.reduceAdd, Int.reduceMul, Int.reduceSub, Int.reduceNeg, Nat.reduceAdd, Nat.reduceSub, Nat.reduceMul, Nat.reduceLT, Nat.reduceBEq, Nat.reduceEqDiff, Nat.reduceLeDiff]
    rw [evalCode_drawn Tryd.f76 1 dr76_1]; rotate_left; rfl
    simp (config := { maxSteps := 4000000 }) only [hel, ha0, ha1, hb0, hb1, ha2, hb2, hx, hy, EVd, List.getElem?_nil, Nat.reducePow, Nat.reduceDiv, Nat.reduceMod, FT, Int.reduceEq, Int.reduceToNat, Int.reduceLE, Int.reduceLT, Int.reduceAdd, Int.reduceMul, Int.reduceSub, Int.reduceNeg, Nat.reduceAdd, Nat.reduceSub, Nat.reduceMul, Nat.reduceLT, Nat.reduceBEq, Nat.reduceEqDiff, Nat.reduceLeDiff]
    rw [evalCode_drawn Tryd.f76 14 dr76_14]; rotate_left; rfl
    simp (config := { maxSteps := 4000000 }) only [h1, h, hcw, EVd, List.getElem?_nil, Nat.reducePow, Nat.reduceDiv, Nat.reduceMod, FT, Int.reduceEq, Int.reduceToNat, Int.reduceLE, Int.reduceLT, Int.reduceAdd, Int.reduceMul, Int.reduceSub, Int.reduceNeg, Nat.reduceAdd, Nat.reduceSub, Nat.reduceMul, Nat.reduceLT, Nat.reduceBEq, Nat.reduceEqDiff, Nat.reduceLeDiff]
  · obtain ⟨hc1, hc2⟩ := hc.2 (.inl ho)
    have hcn : ((c.toNat : Nat) : Int) = c := by omega
    obtain ⟨w, hw, h1⟩ := power_ev (k + 2) c.toNat (by omega) (by omega)
    have hwl : (nD w.v).length ≤ 3 := by rw [hw]; exact nD_pow (by omega)
    obtain ⟨z, hz, h⟩ := Mul_ev (k + 4) A w (by omega) (by omega) (by omega)
    simp only [run, aW, bb, ii, hcn] at h h1
    refine ⟨z, true, by rw [ho, hz, hw]; rfl, ?_⟩
    subst ho
    rw [ev76]
    simp only [Tryd.f76, fnsV, aI, aW, bb, FT, Int.reduceEq, Int.reduceToNat, Int.reduceLE, Int.reduceLT, Int.reduceAdd, Int.reduceMul, Int.reduceSub, Int.reduceNeg, Nat.reduceAdd, Nat.reduceSub, Nat.reduceMul, Nat.reduceLT, Nat.reduceBEq, Nat.reduceEqDiff, Nat.reduceLeDiff]
    rw [evalCode_drawn Tryd.f76 1 dr76_1]; rotate_left; rfl
    simp (config := { maxSteps := 4000000 }) only [hel, ha0, ha1, hb0, hb1, ha2, hb2, hx, hy, EVd, List.getElem?_nil, Nat.reducePow, Nat.reduceDiv, Nat.reduceMod, FT, Int.reduceEq, Int.reduceToNat, Int.reduceLE, Int.reduceLT, Int.reduceAdd, Int.reduceMul, Int.reduceSub, Int.reduceNeg, Nat.reduceAdd, Nat.reduceSub, Nat.reduceMul, Nat.reduceLT, Nat.reduceBEq, Nat.reduceEqDiff, Nat.reduceLeDiff]
    rw [evalCode_drawn Tryd.f76 12 dr76_12]; rotate_left; rfl
    simp (config := { maxSteps := 4000000 }) only [h1, h, EVd, List.getElem?_nil, Nat.reducePow, Nat.reduceDiv, Nat.reduceMod, FT, Int.reduceEq, Int.reduceToNat, Int.reduceLE, Int.reduceLT, Int.reduceAdd, Int.reduceMul, Int.reduceSub, Int.reduceNeg, Nat.reduceAdd, Nat.reduceSub, Nat.reduceMul, Nat.reduceLT, Nat.reduceBEq, Nat.reduceEqDiff, Nat.reduceLeDiff]
  · obtain ⟨hc1, hc2⟩ := hc.2 (.inr ho)
    have hcn : ((c.toNat : Nat) : Int) = c := by omega
    obtain ⟨w, hw, h1⟩ := power_ev (k + 2) c.toNat (by omega) (by omega)
    have hwl : (nD w.v).length ≤ 3 := by rw [hw]; exact nD_pow (by omega)
    have hw0 : 0 < 2 ^ c.toNat := Nat.pow_pos (by omega)
    obtain ⟨z, hz, h⟩ := over_ev k A w (by omega) (by omega) (by omega) (by omega)
    simp only [run, aW, bb, ii, hcn] at h h1
    refine ⟨z, decide (A.v % w.v = 0), ?_, ?_⟩
    · rw [ho, hz, hw]
      by_cases hd : A.v % ((2 ^ c.toNat : Nat) : Int) = 0
      · rw [decide_eq_true hd, if_pos rfl]
        exact if_pos hd
      · rw [decide_eq_false hd, if_neg (by decide)]
        exact if_neg hd
    subst ho
    rw [ev76]
    simp only [Tryd.f76, fnsV, aI, aW, bb, FT, Int.reduceEq, Int.reduceToNat, Int.reduceLE, Int.reduceLT, Int.reduceAdd, Int.reduceMul, Int.reduceSub, Int.reduceNeg, Nat.reduceAdd, Nat.reduceSub, Nat.reduceMul, Nat.reduceLT, Nat.reduceBEq, Nat.reduceEqDiff, Nat.reduceLeDiff]
    rw [evalCode_drawn Tryd.f76 1 dr76_1]; rotate_left; rfl
    simp (config := { maxSteps := 4000000 }) only [hel, ha0, ha1, hb0, hb1, ha2, hb2, hx, hy, EVd, List.getElem?_nil, Nat.reducePow, Nat.reduceDiv, Nat.reduceMod, FT, Int.reduceEq, Int.reduceToNat, Int.reduceLE, Int.reduceLT, Int.reduceAdd, Int.reduceMul, Int.reduceSub, Int.reduceNeg, Nat.reduceAdd, Nat.reduceSub, Nat.reduceMul, Nat.reduceLT, Nat.reduceBEq, Nat.reduceEqDiff, Nat.reduceLeDiff]
    rw [evalCode_drawn Tryd.f76 16 dr76_16]; rotate_left; rfl
    simp (config := { maxSteps := 4000000 }) only [h1, h, EVd, List.getElem?_nil, Nat.reducePow, Nat.reduceDiv, Nat.reduceMod, FT, Int.reduceEq, Int.reduceToNat, Int.reduceLE, Int.reduceLT, Int.reduceAdd, Int.reduceMul, Int.reduceSub, Int.reduceNeg, Nat.reduceAdd, Nat.reduceSub, Nat.reduceMul, Nat.reduceLT, Nat.reduceBEq, Nat.reduceEqDiff, Nat.reduceLeDiff]
end
end Go.Proofs.Sw.W
namespace Go.Proofs.Sw.W
open Go.Ab
section
variable [Globals]
abbrev bxN : AObj := .cells 109 [.c (.fn 77), .c (.fn 78), .c (.fn 79), .c (.fn 80), .c (.fn 81)]
abbrev bxQ (ins : Int) (n : Nat) (code : List Ins) (nl : Bool) (cap : Option Nat) (outs : List Int) (nl2 : Bool) (cap2 : Option Nat) : AObj := .cells 25 [ii ins, ii n, sC code nl cap, sI outs nl2 cap2]
theorem Run1_ev (k : Nat) (j : Int) (z : RI) : run (k+1) 54 [ii j, aW z] = some (bb true) := by
  rw [run, ev54, ans_trim]
  simp only [Tryd.f54, aW, bb, ii, FT, Int.reduceEq, Int.reduceToNat, Int.reduceLE, Int.reduceLT, Int.reduceAdd, Int.reduceMul, Int.reduceSub, Int.reduceNeg, Nat.reduceAdd, Nat.reduceSub, Nat.reduceMul, Nat.reduceLT, Nat.reduceBEq, Nat.reduceEqDiff, Nat.reduceLeDiff]
theorem encN_put : ∀ {l : List RI} {i : Nat} (x : RI), i < l.length → (encN l).take (i * 2) ++ [.bool (decide (x.v < 0)), .slice (encD (dig x.v.natAbs)) (dig x.v.natAbs).length x.nl x.cap] ++ (encN l).drop (i * 2 + 2) = encN (l.set i x)
  | y :: l, 0, x, _ => rfl
  | y :: l, i + 1, x, h => by
    have ih := encN_put (l := l) (i := i) x (by simpa using h)
    rw [encN, show (i + 1) * 2 = i * 2 + 1 + 1 by omega, show i * 2 + 1 + 1 + 2 = i * 2 + 2 + 1 + 1 by omega, List.take_succ_cons, List.take_succ_cons, List.drop_succ_cons, List.drop_succ_cons, List.cons_append, List.cons_append, List.cons_append, List.cons_append, ih, List.set_cons_succ, encN]
theorem vals_getN {R : List RI} {r : Int} (h0 : 0 ≤ r) (h : r < R.length) (d : Int) : (R.map RI.v).getD r.toNat d = (R.getD r.toNat zN).v := by
  have : r.toNat < R.length := by omega
  simp [List.getD_eq_getElem?_getD, this]
theorem mayM_b {x : Ins} {n : Nat} (h : mayM x n = true) : 0 ≤ x.b ∧ x.b < (n : Int) := by
  obtain ⟨_, _, m6, m7⟩ := mayM_facts h
  by_cases e : x.op = 3 ∨ x.op = 4
  · exact m7 e
  · simp only [mayM, Bool.and_eq_true, decide_eq_true_eq] at h
    obtain ⟨⟨⟨⟨_, _, _, _, h5⟩, _⟩, _⟩, _⟩ := h
    omega
theorem mayM_c {x : Ins} {n : Int} (h : mayM x n = true) : (x.op = 5 ∨ x.op = 6 → x.c ≠ 0 ∧ -512 ≤ x.c ∧ x.c ≤ 512) ∧ (x.op = 7 ∨ x.op = 8 → 1 ≤ x.c ∧ x.c ≤ 64) := by
  simp only [mayM, Bool.and_eq_true] at h
  have hc := h.1.1.2
  unfold constant at hc
  constructor
  · intro e
    rw [if_pos e, decide_eq_true_eq] at hc
    exact hc
  · intro e
    rw [if_neg (by omega), if_pos e, decide_eq_true_eq] at hc
    exact hc
theorem stepE_num {R : List RI} {x : Ins} (h : mayM x R.length = true) : stepE numSem (R.map RI.v) x = (numF x.op x.c (R.getD x.a.toNat zN).v (R.getD x.b.toNat zN).v).map fun v => (R.map RI.v).set x.to.toNat v := by
  obtain ⟨_, _, ⟨a0, a1⟩, _⟩ := mayM_facts h
  obtain ⟨b0, b1⟩ := mayM_b h
  unfold stepE
  rw [vals_getN a0 a1, vals_getN b0 b1]
  rfl
theorem loop_run2 (kf : Nat) (ins : Int) (n : Nat) (code : List Ins) (nl : Bool) (cap : Option Nat) (outs : List Int) (nl2 : Bool) (cap2 : Option Nat) (hn : n ≤ 128) (R0 : List RI) (hR0 : R0.length = n) (hS0 : ∀ r ∈ R0, (nD r.v).length ≤ 4) (hcode : ∀ x ∈ code, mayM x n = true) (hcl : code.length ≤ 300) (hkf : 70000 ≤ kf) (k : Nat) (l : Ass) (z : Option Out) (hz : loopR Tryd.prog tab (kf + 9) none LB52_2 52 42 [2, 3, 4, 14, 15, 16] 3 k l ([rN R0, bxN, bxQ ins n code nl cap outs nl2 cap2]) = z) (hk : code.length < k) (a2 : asc l 2 = .hsl 0 0 n (n * 2) 2) (a3 : asc l 3 = .c (.fn 54)) (a4 : asc l 4 = .ptr 1 0) (a14 : asc l 14 = sC code nl cap) (a15 : asc l 15 = ii code.length) (a16 : asc l 16 = ii 0) :
    (∃ l' R, z = some (.exit 0 (fr 42 l') [rN R, bxN, bxQ ins n code nl cap outs nl2 cap2]) ∧ runE numSem code (R0.map RI.v) = some (R.map RI.v) ∧ R.length = n ∧ (∀ r ∈ R, (nD r.v).length ≤ 1000)) ∨ (runE numSem code (R0.map RI.v) = none ∧ ∃ (l' : Ass) (R : List RI) (j : Nat) (X : Heap), z = some (.ret (fr 42 l') (rN R :: X)) ∧ asc l' 8 = ii j ∧ R.length = n) := by
  subst hz
  refine loop_nat code.length (fun k l H => loopR Tryd.prog tab (kf + 9) none LB52_2 52 42 [2, 3, 4, 14, 15, 16] 3 k l H)
    (fun i l H => ∃ (R : List RI), asc l 2 = .hsl 0 0 n (n * 2) 2 ∧ asc l 3 = .c (.fn 54) ∧ asc l 4 = .ptr 1 0 ∧ asc l 14 = sC code nl cap ∧ asc l 15 = ii code.length ∧ asc l 16 = ii i ∧ (runE numSem (code.take i) (R0.map RI.v) = some (R.map RI.v) ∧ R.length = n ∧ (∀ r ∈ R, (nD r.v).length ≤ 4 + 3 * i)) ∧ ∃ G, H = ([rN R, bxN, bxQ ins n code nl cap outs nl2 cap2]) ++ G)
    (fun z => (∃ l' R, z = some (.exit 0 (fr 42 l') [rN R, bxN, bxQ ins n code nl cap outs nl2 cap2]) ∧ runE numSem code (R0.map RI.v) = some (R.map RI.v) ∧ R.length = n ∧ (∀ r ∈ R, (nD r.v).length ≤ 1000)) ∨ (runE numSem code (R0.map RI.v) = none ∧ ∃ (l' : Ass) (R : List RI) (j : Nat) (X : Heap), z = some (.ret (fr 42 l') (rN R :: X)) ∧ asc l' 8 = ii j ∧ R.length = n)) ?_ code.length 0 k l _ (by omega) hk ⟨R0, a2, a3, a4, a14, a15, a16, ⟨rfl, hR0, hS0⟩, [], by rw [List.append_nil]⟩
  clear hk a2 a3 a4 a14 a15 a16
  rintro i k l H hi ⟨R, a2, a3, a4, a14, a15, a16, hp, G, rfl⟩
  have ht : trim 3 (fr 42 (keep l [2, 3, 4, 14, 15, 16])) (([rN R, bxN, bxQ ins n code nl cap outs nl2 cap2]) ++ G) = ([rN R, bxN, bxQ ins n code nl cap outs nl2 cap2]) := trim_app (by simp) (by simp only [a2, a3, a4, a14, a15, a16, EVb, EVc, Int.reduceEq, Int.reduceToNat, Int.reduceLE, Int.reduceLT, Int.reduceAdd, Int.reduceMul, Int.reduceSub, Int.reduceNeg, Nat.reduceAdd, Nat.reduceSub, Nat.reduceMul, Nat.reduceLT, Nat.reduceBEq, Nat.reduceEqDiff, Nat.reduceLeDiff]) (by simp only [EVb, EVc, Int.reduceEq, Int.reduceToNat, Int.reduceLE, Int.reduceLT, Int.reduceAdd, Int.reduceMul, Int.reduceSub, Int.reduceNeg, Nat.reduceAdd, Nat.reduceSub, Nat.reduceMul, Nat.reduceLT, Nat.reduceBEq, Nat.reduceEqDiff, Nat.reduceLeDiff])
  by_cases hc : i < code.length
  · have hc' : (i : Int) < ((code.length : Nat) : Int) := by omega
    have hc0 : (0 : Int) ≤ i := by omega
    have hw : IntKind.wrap .i64 ((i : Int) + 1) = ((i + 1 : Nat) : Int) := by rw [wrap64 (by omega) (by omega)]; omega
    obtain ⟨hp, hRl, hRS⟩ := hp
    have hx := encCode_get hc
    obtain ⟨x, hX⟩ : ∃ x, x = code[i] := ⟨_, rfl⟩
    rw [← hX] at hx
    have hm := hcode x (by rw [hX]; exact List.getElem_mem hc)
    have hm2 := hm
    rw [← hRl] at hm2
    obtain ⟨h18, ⟨t0, t1⟩, hab, _⟩ := mayM_facts hm
    obtain ⟨y, ok, hq, hd⟩ := do_ev kf R n x.op x.to x.a x.b x.c hRl (by omega) h18 hab (mayM_b hm) (mayM_c hm) (fun r hr => Nat.le_trans (hRS r hr) (by omega)) hkf
    have hst := stepE_num hm2
    have hrun : runE numSem (code.take (i + 1)) (R0.map RI.v) = stepE numSem (R.map RI.v) x := by
      rw [List.take_succ_eq_append_getElem hc, runE_snoc, hp, ← hX]; rfl
    rw [hst, hq] at hrun
    have hel := encN_length R
    rw [hRl] at hel
    have htk : (encN R).take (n * 2) = encN R := List.take_of_length_le (by rw [hel]; exact Nat.le_refl _)
    have ht2 : x.to.toNat * 2 + 2 ≤ n * 2 := by omega
    have hset := encN_put (l := R) (i := x.to.toNat) y (by omega)
    have hn1 := Run1_ev (kf + 8) i y
    simp only [run, aI, aW, ii, bb] at hd hn1
    cases ok with
    | false =>
      refine .inl (.inr ⟨?_, ?_⟩)
      · have e := List.take_append_drop (i + 1) code
        rw [← e, runE_append, hrun]; rfl
      · simp only [loopR_succ, ht]
        simp only [a2, a3, a4, a14, a15, a16, hc', hc0, hw, hx, hel, htk, hd, loopR_succ, loopOf, findLoop, firstRegion, Option.some_or, Option.none_or, Option.getD_some, Option.some.injEq, Tryd.f52, FT, Int.reduceEq, Int.reduceToNat, Int.reduceLE, Int.reduceLT, Int.reduceAdd, Int.reduceMul, Int.reduceSub, Int.reduceNeg, Nat.reduceAdd, Nat.reduceSub, Nat.reduceMul, Nat.reduceLT, Nat.reduceBEq, Nat.reduceEqDiff, Nat.reduceLeDiff]
        exact ⟨_, R, i, _, rfl, (by rfl), hRl⟩
    | true =>
      simp only [loopR_succ, ht]
      simp only [a2, a3, a4, a14, a15, a16, hc', hc0, hw, hx, hel, htk, hd, t0, t1, ht2, hset, hn1, loopR_succ, loopOf, findLoop, firstRegion, Option.some_or, Option.none_or, Option.getD_some, Option.some.injEq, Tryd.f52, FT, Int.reduceEq, Int.reduceToNat, Int.reduceLE, Int.reduceLT, Int.reduceAdd, Int.reduceMul, Int.reduceSub, Int.reduceNeg, Nat.reduceAdd, Nat.reduceSub, Nat.reduceMul, Nat.reduceLT, Nat.reduceBEq, Nat.reduceEqDiff, Nat.reduceLeDiff]
      refine .inr ⟨_, _, hc, rfl, R.set x.to.toNat y, (by rfl), (by rfl), (by rfl), (by rfl), (by rfl), (by rfl), ⟨?_, by simp [hRl], ?_⟩, ⟨_, by rfl⟩⟩
      · rw [hrun, List.map_set]; rfl
      · intro r hr
        rcases List.mem_or_eq_of_mem_set hr with hr | rfl
        · have := hRS r hr; omega
        · have := numF_small (n := 4 + 3 * i) (fun _ => mayM_c hm) (getD_small (i := x.a.toNat) hRS) (getD_small (i := x.b.toNat) hRS) hq
          omega
  · refine .inl ?_
    obtain rfl : i = code.length := by omega
    have hc' : ¬ (((code.length : Nat) : Int) < ((code.length : Nat) : Int)) := by omega
    obtain ⟨hp, hRl, hRS⟩ := hp
    rw [List.take_of_length_le (Nat.le_refl _)] at hp
    simp only [loopR_succ, ht]
    simp only [a2, a3, a4, a14, a15, a16, hc', loopR_succ, loopOf, findLoop, firstRegion, Option.some_or, Option.none_or, Option.getD_some, Option.some.injEq, Tryd.f52, FT, Int.reduceEq, Int.reduceToNat, Int.reduceLE, Int.reduceLT, Int.reduceAdd, Int.reduceMul, Int.reduceSub, Int.reduceNeg, Nat.reduceAdd, Nat.reduceSub, Nat.reduceMul, Nat.reduceLT, Nat.reduceBEq, Nat.reduceEqDiff, Nat.reduceLeDiff]
    exact .inl ⟨_, R, rfl, hp, hRl, fun r hr => Nat.le_trans (hRS r hr) (by omega)⟩
end
end Go.Proofs.Sw.W
