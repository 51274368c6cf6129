/- A part of the proof: what functions of the program answer; conditions stand in each theorem. -/
import Derived.Test.YtiiannaficbjeaaDoorVB
set_option linter.unusedVariables false
set_option linter.unusedSimpArgs false
set_option linter.unusedSectionVars false
namespace Go.Proofs.Sw.W
open Go.Ab
theorem or_sum {i a b : Nat} (hb : b < 2 ^ i) : b ||| 2 ^ i * a = b + 2 ^ i * a := by
  rw [Nat.or_comm, ← Nat.two_pow_add_eq_or_of_lt hb]; omega
structure ShU (a O : List Nat) (L q s i : Nat) : Prop where
  len : O.length = L
  ok : okD O
  top : O.getD (i + q) 0 < 2 ^ s
  z : ∀ j, i + q < j → O.getD j 0 = 0
  vl : vd O = 4294967296 ^ q * (2 ^ s * vd (a.take i))
theorem pow_s {s : Nat} (h : s < 32) : 4294967296 = 2 ^ s * 2 ^ (32 - s) := by rw [← Nat.pow_add, show s + (32 - s) = 32 by omega]
theorem up_parts {x s : Nat} (hs : s < 32) (hx : x < 4294967296) : x * 2 ^ s % 4294967296 = 2 ^ s * (x % 2 ^ (32 - s)) ∧ x * 2 ^ s / 4294967296 < 2 ^ s ∧ 2 ^ s * (x % 2 ^ (32 - s)) + 2 ^ s ≤ 4294967296 := by
  have hp : 0 < 2 ^ (32 - s) := Nat.pow_pos (by omega)
  refine ⟨?_, ?_, ?_⟩
  · conv => lhs; rw [pow_s hs, Nat.mul_comm x]
    exact Nat.mul_mod_mul_left ..
  · rw [Nat.div_lt_iff_lt_mul (by omega), Nat.mul_comm]
    exact Nat.mul_lt_mul_of_pos_left hx (Nat.pow_pos (by omega))
  · have h1 : x % 2 ^ (32 - s) + 1 ≤ 2 ^ (32 - s) := Nat.mod_lt _ hp
    have h2 := Nat.mul_le_mul_left (2 ^ s) h1
    rw [← pow_s hs, Nat.mul_add, Nat.mul_one] at h2
    exact h2
theorem ShU.step {a O : List Nat} {L q s i : Nat} (h : ShU a O L q s i) (ha : okD a) (hs : s < 32) (hL : i + q + 1 < L) :
    O.getD (i + q) 0 ||| (a.getD i 0 * 2 ^ s % 4294967296) < 4294967296 ∧ O.getD (i + q + 1) 0 ||| (a.getD i 0 * 2 ^ s / 4294967296 % 4294967296) < 4294967296 ∧
    ShU a ((O.set (i + q) (O.getD (i + q) 0 ||| (a.getD i 0 * 2 ^ s % 4294967296))).set (i + q + 1) (O.getD (i + q + 1) 0 ||| (a.getD i 0 * 2 ^ s / 4294967296 % 4294967296))) L q s (i + 1) := by
  have h1 := okD_get ha i
  obtain ⟨u1, u2, u3⟩ := up_parts hs h1
  have ht := h.top
  have hp32 : 2 ^ s < 4294967296 := Nat.lt_of_lt_of_le (Nat.pow_lt_pow_right (by omega) hs) (by decide)
  have e1 : O.getD (i + q) 0 ||| (a.getD i 0 * 2 ^ s % 4294967296) = O.getD (i + q) 0 + a.getD i 0 * 2 ^ s % 4294967296 := by rw [u1, or_sum ht]
  have e2 : O.getD (i + q + 1) 0 ||| (a.getD i 0 * 2 ^ s / 4294967296 % 4294967296) = a.getD i 0 * 2 ^ s / 4294967296 := by
    rw [h.z (i + q + 1) (by omega), Nat.zero_or, Nat.mod_eq_of_lt (by omega)]
  rw [e1, e2]
  obtain ⟨y, hy⟩ : ∃ y, y = a.getD i 0 * 2 ^ s := ⟨_, rfl⟩
  rw [← hy] at u1 u2 ⊢
  have hlo : O.getD (i + q) 0 + y % 4294967296 < 4294967296 := by omega
  refine ⟨hlo, by omega, by rw [List.length_set, List.length_set]; exact h.len, okD_set (okD_set h.ok hlo) (by omega), ?_, fun j hj => ?_, ?_⟩
  · rw [show i + 1 + q = i + q + 1 by omega, getD_set_self (by rw [List.length_set, h.len]; exact hL)]
    exact u2
  · rw [getD_set_ne (by omega), getD_set_ne (by omega)]
    exact h.z j (by omega)
  · have s1 := vd_set O (i + q) (O.getD (i + q) 0 + y % 4294967296) (by rw [h.len]; omega)
    have s2 := vd_set (O.set (i + q) (O.getD (i + q) 0 + y % 4294967296)) (i + q + 1) (y / 4294967296) (by rw [List.length_set, h.len]; exact hL)
    rw [getD_set_ne (show i + q ≠ i + q + 1 by omega), h.z (i + q + 1) (by omega)] at s2
    have hv := h.vl
    obtain ⟨B, hB⟩ : ∃ B, B = 4294967296 ^ (i + q) := ⟨_, rfl⟩
    have e3 : 4294967296 ^ (i + q + 1) * (y / 4294967296) = B * (4294967296 * (y / 4294967296)) := by rw [Nat.pow_succ, Nat.mul_assoc, hB]
    have e4 : B * (y % 4294967296) + B * (4294967296 * (y / 4294967296)) = B * y := by rw [← Nat.mul_add]; congr 1; omega
    have e5 : 4294967296 ^ q * (2 ^ s * (4294967296 ^ i * a.getD i 0)) = B * y := by
      rw [hB, hy, Nat.pow_add, Nat.mul_left_comm (2 ^ s), Nat.mul_comm (2 ^ s), ← Nat.mul_assoc, Nat.mul_comm (4294967296 ^ q)]
    rw [vd_take, Nat.mul_add, Nat.mul_add, e5]
    rw [← hB, Nat.mul_add] at s1
    rw [e3] at s2
    omega
section
variable [Globals]
theorem or32 {H : Heap} {t : TypeId} {a b : Nat} (ha : a < 4294967296) (hb : b < 4294967296) (h : a ||| b < 4294967296) : binA Tryd.prog H .or t (.c (.int .u32 (a : Int))) (.c (.int .u32 (b : Int))) = some (.c (.int .u32 ((a ||| b : Nat) : Int))) := by
  have e : binA Tryd.prog H .or t (.c (.int .u32 (a : Int))) (.c (.int .u32 (b : Int))) = some (.c (.int .u32 (IntKind.wrap .u32 ((BitVec.ofInt 32 (a : Int) ||| BitVec.ofInt 32 (b : Int)).toNat : Nat)))) := rfl
  rw [e, BitVec.toNat_or, of32 ha, of32 hb, wr32 h]
theorem loop_shl (kf : Nat) (a : List Nat) (nl : Bool) (cap : Option Nat) (ha : okD a) (n L q s : Nat) (hq : q = n / 32) (hs : s = n % 32) (hL : L = a.length + q + 1) (hL6 : L ≤ 1000000) (O0 : List Nat) (h0 : ShU a O0 L q s 0) (k : Nat) (l : Ass) (z : Option Out) (hz : loopR Tryd.prog tab kf none LB116_8 116 62 [1, 6, 7, 24, 25, 26] 1 k l ([rD O0]) = z) (hk : a.length < k) (a1 : asc l 1 = ii n) (a6 : asc l 6 = .hsl 0 0 L L 1) (a7 : asc l 7 = ii s) (a24 : asc l 24 = sD a nl cap) (a25 : asc l 25 = ii a.length) (a26 : asc l 26 = ii 0) :
    ∃ l' O, z = some (.exit 0 (fr 62 l') [rD O]) ∧ asc l' 6 = .hsl 0 0 L L 1 ∧ ShU a O L q s a.length := by
  subst hz
  refine loop_nat a.length (fun k l H => loopR Tryd.prog tab kf none LB116_8 116 62 [1, 6, 7, 24, 25, 26] 1 k l H)
    (fun i l H => ∃ (O : List Nat), asc l 1 = ii n ∧ asc l 6 = .hsl 0 0 L L 1 ∧ asc l 7 = ii s ∧ asc l 24 = sD a nl cap ∧ asc l 25 = ii a.length ∧ asc l 26 = ii i ∧ (ShU a O L q s i) ∧ H = ([rD O]))
    (fun z => ∃ l' O, z = some (.exit 0 (fr 62 l') [rD O]) ∧ asc l' 6 = .hsl 0 0 L L 1 ∧ ShU a O L q s a.length) ?_ a.length 0 k l _ (by omega) hk ⟨O0, a1, a6, a7, a24, a25, a26, h0, rfl⟩
  clear hk a1 a6 a7 a24 a25 a26
  rintro i k l H hi ⟨O, a1, a6, a7, a24, a25, a26, hp, rfl⟩
  have ht : trim 1 (fr 62 (keep l [1, 6, 7, 24, 25, 26])) ([rD O]) = ([rD O]) := by
    exact trim_same rfl
  by_cases hc : i < a.length
  · have hc' : (i : Int) < ((a.length : Nat) : Int) := by omega
    have hc0 : (0 : Int) ≤ i := by omega
    have hw : IntKind.wrap .i64 ((i : Int) + 1) = ((i + 1 : Nat) : Int) := by rw [wrap64 (by omega) (by omega)]; omega
    have hx := encD_get (l := a) hc
    have hela := encD_length a
    have helO := encD_length O
    have hOl := hp.len
    have h1 := okD_get ha i
    have hs32 : s < 32 := by omega
    have hiq : i + q + 1 < L := by omega
    obtain ⟨b1, b2, hst⟩ := hp.step ha hs32 hiq
    have htq : ((n : Nat) : Int).tdiv 32 = ((q : Nat) : Int) := by rw [hq]; rfl
    have hwq : IntKind.wrap .i64 (q : Int) = (q : Int) := wrap64 (by omega) (by omega)
    have hwi : IntKind.wrap .i64 ((i : Int) + (q : Int)) = ((i + q : Nat) : Int) := by rw [wrap64 (by omega) (by omega)]; omega
    have hwj : IntKind.wrap .i64 (((i + q : Nat) : Int) + 1) = ((i + q + 1 : Nat) : Int) := by rw [wrap64 (by omega) (by omega)]; omega
    have p1 : (0 : Int) ≤ ((i + q : Nat) : Int) := by omega
    have p2 : ((i + q : Nat) : Int) < (L : Int) := by omega
    have p3 : i + q < L := by omega
    have p4 : (0 : Int) ≤ ((i + q + 1 : Nat) : Int) := by omega
    have p5 : ((i + q + 1 : Nat) : Int) < (L : Int) := by omega
    have hxo := encD_get (l := O) (i := i + q) (by omega)
    have g1 := okD_get hp.ok (i + q)
    have g2 := okD_get hp.ok (i + q + 1)
    have hcv1 : IntKind.wrap .u64 ((a.getD i 0 : Nat) : Int) = ((a.getD i 0 : Nat) : Int) := wr64 (by omega)
    have hsh := fun (X : Heap) (t : TypeId) => shlN (H := X) (t := t) (a := a.getD i 0) (n := s) h1 hs32
    obtain ⟨O1, hO1⟩ : ∃ O1, O1 = O.set (i + q) (O.getD (i + q) 0 ||| (a.getD i 0 * 2 ^ s % 4294967296)) := ⟨_, rfl⟩
    have hxo2 := encD_get (l := O1) (i := i + q + 1) (by rw [hO1, List.length_set]; omega)
    have hg2 : O1.getD (i + q + 1) 0 = O.getD (i + q + 1) 0 := by rw [hO1, getD_set_ne (by omega)]
    rw [hg2] at hxo2
    have helO1 := encD_length O1
    have hO1l : O1.length = L := by rw [hO1, List.length_set]; exact hOl
    have ho1 := fun (X : Heap) (t : TypeId) => or32 (H := X) (t := t) (a := O.getD (i + q) 0) (b := a.getD i 0 * 2 ^ s % 4294967296) g1 (by omega) b1
    have ho2 := fun (X : Heap) (t : TypeId) => or32 (H := X) (t := t) (a := O.getD (i + q + 1) 0) (b := a.getD i 0 * 2 ^ s / 4294967296 % 4294967296) g2 (by omega) b2
    have hset1 := encD_set (l := O) (i := i + q) (d := O.getD (i + q) 0 ||| (a.getD i 0 * 2 ^ s % 4294967296))
    rw [← hO1] at hset1 hst
    have hset2 := fun v : Nat => encD_set (l := O1) (i := i + q + 1) (d := v)
    simp only [loopR_succ, ht]
    simp only [a1, a6, a7, a24, a25, a26, hc', hc0, hw, hx, hela, helO, hOl, helO1, hO1l, htq, hwq, hwi, hwj, p1, p2, p3, p4, p5, hiq, hxo, hxo2, hcv1, hsh, ho1, ho2, hset1, hset2, wrap32m, shr64, loopR_succ, loopOf, findLoop, firstRegion, Option.some_or, Option.none_or, Option.getD_some, Option.some.injEq, Tryd.f116, FT, Int.reduceEq, Int.reduceToNat, Int.reduceLE, Int.reduceLT, Int.reduceAdd, Int.reduceMul, Int.reduceSub, Int.reduceNeg, Nat.reduceAdd, Nat.reduceSub, Nat.reduceMul, Nat.reduceLT, Nat.reduceBEq, Nat.reduceEqDiff, Nat.reduceLeDiff]
    exact .inr ⟨_, _, hc, rfl, _, (by rfl), (by rfl), (by rfl), (by rfl), (by rfl), (by rfl), hst, rfl⟩
  · refine .inl ?_
    obtain rfl : i = a.length := by omega
    have hc' : ¬ (((a.length : Nat) : Int) < ((a.length : Nat) : Int)) := by omega
    simp only [loopR_succ, ht]
    simp only [a1, a6, a7, a24, a25, a26, hc', loopR_succ, loopOf, findLoop, firstRegion, Option.some_or, Option.none_or, Option.getD_some, Option.some.injEq, Tryd.f116, FT, Int.reduceEq, Int.reduceToNat, Int.reduceLE, Int.reduceLT, Int.reduceAdd, Int.reduceMul, Int.reduceSub, Int.reduceNeg, Nat.reduceAdd, Nat.reduceSub, Nat.reduceMul, Nat.reduceLT, Nat.reduceBEq, Nat.reduceEqDiff, Nat.reduceLeDiff]
    exact ⟨_, O, rfl, (by rfl), hp⟩
theorem shl_ev (k : Nat) (a : List Nat) (n : Nat) (nl : Bool) (cap : Option Nat) (ha : okD a) (hn : n ≤ 65536) (hla : a.length ≤ 100000) (hk : a.length + n + 10 < k) :
    run (k+2) 116 [sD a nl cap, ii n] = some (.tup [sD (dig (vd a * 2 ^ n)) false (some (dig (vd a * 2 ^ n)).length), ii 0]) := by
  obtain ⟨q, hq⟩ : ∃ q, q = n / 32 := ⟨_, rfl⟩
  obtain ⟨s, hs⟩ : ∃ s, s = n % 32 := ⟨_, rfl⟩
  obtain ⟨L, hL⟩ : ∃ L, L = a.length + q + 1 := ⟨_, rfl⟩
  have hn0 : ¬ (n : Int) < 0 := by omega
  have hn1 : ¬ (65536 : Int) < (n : Int) := by omega
  have htq : ((n : Nat) : Int).tdiv 32 = ((q : Nat) : Int) := by rw [hq]; rfl
  have hts : ((n : Nat) : Int).tmod 32 = ((s : Nat) : Int) := by rw [hs]; rfl
  have hwq : IntKind.wrap .i64 (q : Int) = (q : Int) := wrap64 (by omega) (by omega)
  have hw1 : IntKind.wrap .i64 ((a.length : Int) + (q : Int)) = ((a.length + q : Nat) : Int) := by rw [wrap64 (by omega) (by omega)]; omega
  have hw2 : IntKind.wrap .i64 (((a.length + q : Nat) : Int) + 1) = (L : Int) := by rw [wrap64 (by omega) (by omega), hL]; omega
  have q1 : (0 : Int) ≤ (L : Int) := by omega
  have q2 : L * 4 ≤ roomBytes := Nat.le_trans (show L * 4 ≤ 4000000 by omega) (by decide)
  have q3 : L ≤ roomBytes := Nat.le_trans (show L ≤ 1000000 by omega) (by decide)
  have hrep : ∀ j, (List.replicate L 0).getD j 0 = 0 := fun j => by
    rw [List.getD_eq_getElem?_getD, List.getElem?_replicate]; split <;> rfl
  rw [run, ev116, ans_trim]
  simp only [Tryd.f116, ii, hn0, hn1, htq, hts, hwq, hw1, hw2, q1, q2, q3, encD_rep0, FT, Int.reduceEq, Int.reduceToNat, Int.reduceLE, Int.reduceLT, Int.reduceAdd, Int.reduceMul, Int.reduceSub, Int.reduceNeg, Nat.reduceAdd, Nat.reduceSub, Nat.reduceMul, Nat.reduceLT, Nat.reduceBEq, Nat.reduceEqDiff, Nat.reduceLeDiff]
  rw [evalCode_loopB LB116_8 lp116_8]; rotate_left; rfl; rfl; rfl
  generalize hz : loopR _ _ _ _ _ _ _ _ _ _ _ _ = z
  obtain ⟨l', P, rfl, e6, hI⟩ := loop_shl (k + 1) a nl cap ha n L q s hq hs hL (by omega) (List.replicate L 0) ⟨by simp, fun d hd => by rw [List.eq_of_mem_replicate hd]; omega, by rw [hrep]; exact Nat.pow_pos (by omega), fun j _ => hrep j, by rw [vd_rep]; simp [vd]⟩ _ _ z hz (by omega) (by rfl) (by rfl) (by rfl) (by rfl) (by rfl) (by rfl)
  clear hz
  have hPv : vd P = vd a * 2 ^ n := by
    rw [hI.vl, List.take_of_length_le (Nat.le_refl _), ← Nat.mul_assoc, show (4294967296 : Nat) = 2 ^ 32 from rfl, ← Nat.pow_mul, ← Nat.pow_add, show 32 * q + s = n by omega, Nat.mul_comm]
  have hPl := hI.len
  have hok := hI.ok
  have hdo := dig_of hok
  rw [hPv] at hdo
  rw [← hPl] at e6
  obtain ⟨H2, hds, _, hold⟩ := trim_call (k := k) (f := 116) (r := 14) (i := 1) (id := 0) (a := P) (H := [rD P]) (by rfl) (by omega) (by omega)
  have htr := trim_ev k P false none (by omega) (by omega)
  have hel := encD_length P
  have htk : (encD P).take P.length = encD P := List.take_of_length_le (by rw [hel]; exact Nat.le_refl _)
  simp only [run] at htr
  rw [hdo] at hds htr
  simp only [hPl] at hds hel htk e6
  simp only [sD, hPl] at htr
  simp only [e6, hel, htk, htr, hds, strict_slice, strict_c, strict1_c, strict0_c, Nat.le_refl, FT, Int.reduceEq, Int.reduceToNat, Int.reduceLE, Int.reduceLT, Int.reduceAdd, Int.reduceMul, Int.reduceSub, Int.reduceNeg, Nat.reduceAdd, Nat.reduceSub, Nat.reduceMul, Nat.reduceLT, Nat.reduceBEq, Nat.reduceEqDiff, Nat.reduceLeDiff]
end
end Go.Proofs.Sw.W
namespace Go.Proofs.Sw.W
open Go.Ab
structure ShD (V : Nat) (O : List Nat) (L i : Nat) : Prop where
  len : O.length = L
  ok : okD O
  vl : vd (O.take i) = V % 4294967296 ^ i
theorem ShD.step {V : Nat} {O : List Nat} {L i : Nat} (h : ShD V O L i) (hi : i < L) {d : Nat} (hd : d = V / 4294967296 ^ i % 4294967296) : ShD V (O.set i d) L (i + 1) := by
  refine ⟨by rw [List.length_set]; exact h.len, okD_set h.ok (by omega), ?_⟩
  rw [vd_put (by rw [h.len]; exact hi), h.vl, Nat.pow_succ, Nat.mod_mul, ← hd]
theorem vd_drop_div (a : List Nat) (ha : okD a) : ∀ i, i ≤ a.length → vd (a.drop i) = vd a / 4294967296 ^ i
  | 0, _ => by simp
  | i + 1, h => by
    have ih := vd_drop_div a ha i (by omega)
    have h1 := vd_drop a (j := i) (by omega)
    have h2 := okD_get ha i
    rw [Nat.pow_succ, ← Nat.div_div_eq_div_mul, ← ih, h1]
    omega
theorem down_digit {a : List Nat} (ha : okD a) {i s : Nat} (hi : i < a.length) (hs : s < 32) :
    (a.getD (i + 1) 0 * 4294967296 + a.getD i 0) / 2 ^ s % 4294967296 = vd a / 2 ^ s / 4294967296 ^ i % 4294967296 := by
  have h0 := vd_drop a hi
  have hB := pow_s hs
  rw [Nat.div_div_eq_div_mul, Nat.mul_comm (2 ^ s), ← Nat.div_div_eq_div_mul, ← vd_drop_div a ha i (by omega), h0]
  have hp : 0 < 2 ^ s := Nat.pow_pos (by omega)
  have key : ∀ r : Nat, ∃ t, vd (a.drop (i + 1)) = a.getD (i + 1) 0 + 4294967296 * t := fun _ => by
    by_cases h : i + 1 < a.length
    · exact ⟨_, vd_drop a h⟩
    · exact ⟨0, by rw [List.drop_of_length_le (by omega), getD_out (by omega)]; rfl⟩
  obtain ⟨t, ht⟩ := key 0
  rw [ht]
  obtain ⟨x, hx⟩ : ∃ x, x = a.getD (i + 1) 0 * 4294967296 + a.getD i 0 := ⟨_, rfl⟩
  have e1 : a.getD i 0 + 4294967296 * (a.getD (i + 1) 0 + 4294967296 * t) = x + 2 ^ s * (4294967296 * (2 ^ (32 - s) * t)) := by
    have : 4294967296 * (4294967296 * t) = 2 ^ s * (4294967296 * (2 ^ (32 - s) * t)) := by
      conv => lhs; arg 1; rw [hB]
      rw [Nat.mul_assoc, Nat.mul_left_comm (2 ^ (32 - s))]
    omega
  rw [e1, ← hx, Nat.add_mul_div_left _ _ hp]
  omega
section
variable [Globals]
theorem loop_shr (kf : Nat) (a : List Nat) (nl : Bool) (cap : Option Nat) (ha : okD a) (s : Nat) (hs32 : s < 32) (hla : a.length ≤ 1000000) (O0 : List Nat) (h0 : ShD (vd a / 2 ^ s) O0 a.length 0) (k : Nat) (l : Ass) (z : Option Out) (hz : loopR Tryd.prog tab kf none LB118_10 118 62 [0, 6, 7, 29, 30, 31] 1 k l ([rD O0]) = z) (hk : a.length < k) (a0 : asc l 0 = sD a nl cap) (a6 : asc l 6 = ii s) (a7 : asc l 7 = .hsl 0 0 a.length a.length 1) (a29 : asc l 29 = sD a nl cap) (a30 : asc l 30 = ii a.length) (a31 : asc l 31 = ii 0) :
    ∃ l' O, z = some (.exit 0 (fr 62 l') [rD O]) ∧ asc l' 7 = .hsl 0 0 a.length a.length 1 ∧ ShD (vd a / 2 ^ s) O a.length a.length := by
  subst hz
  refine loop_nat a.length (fun k l H => loopR Tryd.prog tab kf none LB118_10 118 62 [0, 6, 7, 29, 30, 31] 1 k l H)
    (fun i l H => ∃ (O : List Nat), asc l 0 = sD a nl cap ∧ asc l 6 = ii s ∧ asc l 7 = .hsl 0 0 a.length a.length 1 ∧ asc l 29 = sD a nl cap ∧ asc l 30 = ii a.length ∧ asc l 31 = ii i ∧ (ShD (vd a / 2 ^ s) O a.length i) ∧ H = ([rD O]))
    (fun z => ∃ l' O, z = some (.exit 0 (fr 62 l') [rD O]) ∧ asc l' 7 = .hsl 0 0 a.length a.length 1 ∧ ShD (vd a / 2 ^ s) O a.length a.length) ?_ a.length 0 k l _ (by omega) hk ⟨O0, a0, a6, a7, a29, a30, a31, h0, rfl⟩
  clear hk a0 a6 a7 a29 a30 a31
  rintro i k l H hi ⟨O, a0, a6, a7, a29, a30, a31, hp, rfl⟩
  have ht : trim 1 (fr 62 (keep l [0, 6, 7, 29, 30, 31])) ([rD O]) = ([rD O]) := by
    exact trim_same rfl
  by_cases hc : i < a.length
  · have hc' : (i : Int) < ((a.length : Nat) : Int) := by omega
    have hc0 : (0 : Int) ≤ i := by omega
    have hw : IntKind.wrap .i64 ((i : Int) + 1) = ((i + 1 : Nat) : Int) := by rw [wrap64 (by omega) (by omega)]; omega
    have hx := encD_get (l := a) hc
    have hela := encD_length a
    have helO := encD_length O
    have hOl := hp.len
    have h1 := okD_get ha i
    have hst := hp.step hc (down_digit ha hc hs32)
    have hcv1 : IntKind.wrap .u64 ((a.getD i 0 : Nat) : Int) = ((a.getD i 0 : Nat) : Int) := wr64 (by omega)
    have hset := fun v : Nat => encD_set (l := O) (i := i) (d := v)
    have hsh := fun (X : Heap) (t : TypeId) (y : Nat) => shrN (H := X) (t := t) (a := y) (n := s) hs32
    have hj0 : (0 : Int) ≤ ((i + 1 : Nat) : Int) := by omega
    by_cases hn : i + 1 < a.length
    · have hn' : ((i + 1 : Nat) : Int) < a.length := by omega
      have hy := encD_get (l := a) hn
      have h2 := okD_get ha (i + 1)
      have hcv2 : IntKind.wrap .u64 ((a.getD (i + 1) 0 : Nat) : Int) = ((a.getD (i + 1) 0 : Nat) : Int) := wr64 (by omega)
      have hsl := fun (X : Heap) (t : TypeId) => shl64 (H := X) (t := t) h2
      have hor := fun (X : Heap) (t : TypeId) => or64' (H := X) (t := t) (a := a.getD (i + 1) 0) (b := a.getD i 0) h2 h1
      simp only [loopR_succ, ht]
      simp only [a0, a6, a7, a29, a30, a31, hc', hc0, hw, hc, hx, hy, hela, helO, hOl, hn', hj0, hcv1, hcv2, hsl, hor, hsh, wrap32m, hset, loopR_succ, loopOf, findLoop, firstRegion, Option.some_or, Option.none_or, Option.getD_some, Option.some.injEq, Tryd.f118, FT, Int.reduceEq, Int.reduceToNat, Int.reduceLE, Int.reduceLT, Int.reduceAdd, Int.reduceMul, Int.reduceSub, Int.reduceNeg, Nat.reduceAdd, Nat.reduceSub, Nat.reduceMul, Nat.reduceLT, Nat.reduceBEq, Nat.reduceEqDiff, Nat.reduceLeDiff]
      exact .inr ⟨_, _, rfl, _, (by rfl), (by rfl), (by rfl), (by rfl), (by rfl), (by rfl), hst, rfl⟩
    · have hn' : ¬ ((i + 1 : Nat) : Int) < a.length := by omega
      rw [getD_out (l := a) (i := i + 1) (by omega), Nat.zero_mul, Nat.zero_add] at hst
      simp only [loopR_succ, ht]
      simp only [a0, a6, a7, a29, a30, a31, hc', hc0, hw, hc, hx, hela, helO, hOl, hn', hj0, hcv1, hsh, wrap32m, hset, loopR_succ, loopOf, findLoop, firstRegion, Option.some_or, Option.none_or, Option.getD_some, Option.some.injEq, Tryd.f118, FT, Int.reduceEq, Int.reduceToNat, Int.reduceLE, Int.reduceLT, Int.reduceAdd, Int.reduceMul, Int.reduceSub, Int.reduceNeg, Nat.reduceAdd, Nat.reduceSub, Nat.reduceMul, Nat.reduceLT, Nat.reduceBEq, Nat.reduceEqDiff, Nat.reduceLeDiff]
      exact .inr ⟨_, _, rfl, _, (by rfl), (by rfl), (by rfl), (by rfl), (by rfl), (by rfl), hst, rfl⟩
  · refine .inl ?_
    obtain rfl : i = a.length := by omega
    have hc' : ¬ (((a.length : Nat) : Int) < ((a.length : Nat) : Int)) := by omega
    simp only [loopR_succ, ht]
    simp only [a0, a6, a7, a29, a30, a31, hc', loopR_succ, loopOf, findLoop, firstRegion, Option.some_or, Option.none_or, Option.getD_some, Option.some.injEq, Tryd.f118, FT, Int.reduceEq, Int.reduceToNat, Int.reduceLE, Int.reduceLT, Int.reduceAdd, Int.reduceMul, Int.reduceSub, Int.reduceNeg, Nat.reduceAdd, Nat.reduceSub, Nat.reduceMul, Nat.reduceLT, Nat.reduceBEq, Nat.reduceEqDiff, Nat.reduceLeDiff]
    exact ⟨_, O, rfl, (by rfl), hp⟩
theorem sliceFrom0 {H : Heap} {d : List Nat} {nl : Bool} {cap : Option Nat} : sliceO H 1 (sD d nl cap) (some (.c (.int .i64 0))) none = some (sD d nl cap) := by
  have hc : cap.map (fun x => x - 0) = cap := by cases cap <;> rfl
  have htk : (encD d).take d.length = encD d := List.take_of_length_le (by rw [encD_length]; exact Nat.le_refl _)
  have h0 : boundA 0 (some (.c (.int .i64 0))) = some 0 := rfl
  have h1 : boundA d.length none = some d.length := rfl
  simp only [sliceO, h0, h1, Option.bind_some, Nat.zero_mul, List.drop_zero, Nat.sub_zero, Nat.mul_one, encD_length, htk]
  rw [if_pos ⟨Nat.zero_le _, Nat.le_refl _, trivial⟩]
  simp only [Nat.sub_zero] at hc
  rw [hc]
theorem shr_ev (k : Nat) (a : List Nat) (n : Nat) (nl : Bool) (cap : Option Nat) (ha : okD a) (hn : n < 32) (hla : a.length ≤ 100000) (hk : a.length + 10 < k) :
    ∃ nl3 cap3, run (k+2) 118 [sD a nl cap, ii n] = some (.tup [sD (dig (vd a / 2 ^ n)) nl3 cap3, ii 0]) := by
  have h1 := trim_ev (k) a nl cap (by omega) (by omega)
  have hva := vd_trim a
  have hca := can_trim ha
  have hta := trim_len a
  obtain ⟨A, hA⟩ : ∃ A, A = trimD a := ⟨_, rfl⟩
  rw [← hA] at h1 hva hca hta
  have hn0 : ¬ (n : Int) < 0 := by omega
  have htq : ((n : Nat) : Int).tdiv 32 = ((n / 32 : Nat) : Int) := rfl
  have htq2 : n / 32 = 0 := by omega
  have htq3 : IntKind.wrap .i64 (((n / 32 : Nat)) : Int) = 0 := by rw [htq2]; rfl
  have hts : ((n : Nat) : Int).tmod 32 = ((n : Nat) : Int) := by
    have : ((n : Nat) : Int).tmod 32 = ((n % 32 : Nat) : Int) := rfl
    rw [this, Nat.mod_eq_of_lt hn]
  simp only [run] at h1
  by_cases h0 : A.length = 0
  · have hA0 : A = [] := List.eq_nil_of_length_eq_zero h0
    rw [hA0] at hva
    have hv0 : vd a = 0 := by rw [← hva]; rfl
    refine ⟨true, some 0, ?_⟩
    have hle : (A.length : Int) ≤ 0 := by omega
    rw [run, ev118, ans_trim]
    simp only [Tryd.f118, ii, hn0, h1, htq, htq3, hle, FT, Int.reduceEq, Int.reduceToNat, Int.reduceLE, Int.reduceLT, Int.reduceAdd, Int.reduceMul, Int.reduceSub, Int.reduceNeg, Nat.reduceAdd, Nat.reduceSub, Nat.reduceMul, Nat.reduceLT, Nat.reduceBEq, Nat.reduceEqDiff, Nat.reduceLeDiff]
    rw [hv0, Nat.zero_div]
    rfl
  · have hle : ¬ (A.length : Int) ≤ 0 := by omega
    have q1 : (0 : Int) ≤ (A.length : Int) := by omega
    have q2 : A.length * 4 ≤ roomBytes := Nat.le_trans (show A.length * 4 ≤ 4000000 by omega) (by decide)
    have q3 : A.length ≤ roomBytes := Nat.le_trans (show A.length ≤ 1000000 by omega) (by decide)
    refine ⟨false, some (dig (vd a / 2 ^ n)).length, ?_⟩
    rw [run, ev118, ans_trim]
    simp only [Tryd.f118, ii, hn0, h1, htq, htq3, hts, hle, sliceFrom0, q1, q2, q3, encD_rep0, FT, Int.reduceEq, Int.reduceToNat, Int.reduceLE, Int.reduceLT, Int.reduceAdd, Int.reduceMul, Int.reduceSub, Int.reduceNeg, Nat.reduceAdd, Nat.reduceSub, Nat.reduceMul, Nat.reduceLT, Nat.reduceBEq, Nat.reduceEqDiff, Nat.reduceLeDiff]
    rw [evalCode_loopB LB118_10 lp118_10]; rotate_left; rfl; rfl; rfl
    generalize hz : loopR _ _ _ _ _ _ _ _ _ _ _ _ = z
    obtain ⟨l', P, rfl, e7, hI⟩ := loop_shr (k + 1) A nl (some A.length) hca.ok n hn (by omega) (List.replicate A.length 0) ⟨by simp, fun d hd => by rw [List.eq_of_mem_replicate hd]; omega, by simp [vd, Nat.mod_one]⟩ _ _ z hz (by omega) (by rfl) (by rfl) (by rfl) (by rfl) (by rfl) (by rfl)
    clear hz
    have hPl := hI.len
    have hok := hI.ok
    have hlt : vd A / 2 ^ n < 4294967296 ^ A.length := Nat.lt_of_le_of_lt (Nat.div_le_self _ _) (vd_lt hca.ok)
    have hPv : vd P = vd a / 2 ^ n := by
      have := hI.vl
      rw [List.take_of_length_le (by rw [hPl]; exact Nat.le_refl _), Nat.mod_eq_of_lt hlt, hva] at this
      exact this
    have hdo := dig_of hok
    rw [hPv] at hdo
    rw [← hPl] at e7
    obtain ⟨H2, hds, _, hold⟩ := trim_call (k := k) (f := 118) (r := 17) (i := 1) (id := 0) (a := P) (H := [rD P]) (by rfl) (by omega) (by omega)
    have htr := trim_ev k P false none (by omega) (by omega)
    have hel := encD_length P
    have htk : (encD P).take P.length = encD P := List.take_of_length_le (by rw [hel]; exact Nat.le_refl _)
    simp only [run] at htr
    rw [hdo] at hds htr
    simp only [hPl] at hds hel htk e7
    simp only [sD, hPl] at htr
    simp only [e7, hel, htk, htr, hds, strict_slice, strict_c, strict1_c, strict0_c, Nat.le_refl, FT, Int.reduceEq, Int.reduceToNat, Int.reduceLE, Int.reduceLT, Int.reduceAdd, Int.reduceMul, Int.reduceSub, Int.reduceNeg, Nat.reduceAdd, Nat.reduceSub, Nat.reduceMul, Nat.reduceLT, Nat.reduceBEq, Nat.reduceEqDiff, Nat.reduceLeDiff]
end
end Go.Proofs.Sw.W
namespace Go.Proofs.Sw.W
open Go.Ab
structure LeI (v W0 W : List Nat) (N T c b i : Nat) : Prop where
  len : W.length = N
  ok : okD W
  cb : c < 4294967296
  b1 : b ≤ 1
  rest : W.drop i = W0.drop i
  c0 : v.length < i → c = 0
  vl : vd (W.take i) + T * vd (v.take i) = vd (W0.take i) + 4294967296 ^ i * (c + b)
theorem LeI.step {v W0 W : List Nat} {N T c b i : Nat} (h : LeI v W0 W N T c b i) (hv : okD v) (hT : T < 4294967296) (hi : i < N) (hW0 : W0.length = N) (hok0 : okD W0) :
    c + v.getD i 0 * T < 18446744073709551616 ∧ LeI v W0 (W.set i (suD (W.getD i 0) ((c + v.getD i 0 * T) % 4294967296 + b))) N T ((c + v.getD i 0 * T) / 4294967296) (if W.getD i 0 < (c + v.getD i 0 * T) % 4294967296 + b then 1 else 0) (i + 1) := by
  have h1 := okD_get hv i
  have h2 := okD_get h.ok i
  have h3 := h.cb
  have h4 := mul_le32 h1 hT
  have h5 := h.b1
  have hw : W.getD i 0 = W0.getD i 0 := by
    have := congrArg (·.getD 0 0) h.rest
    simpa [List.getD_eq_getElem?_getD, List.getElem?_drop] using this
  obtain ⟨s, hs⟩ : ∃ s, s = c + v.getD i 0 * T := ⟨_, rfl⟩
  obtain ⟨x, hx⟩ : ∃ x, x = W.getD i 0 := ⟨_, rfl⟩
  obtain ⟨y, hy⟩ : ∃ y, y = s % 4294967296 + b := ⟨_, rfl⟩
  rw [← hs, ← hx, ← hy]
  rw [← hx] at h2 hw
  have hlt : suD x y < 4294967296 := by unfold suD; split <;> omega
  refine ⟨by omega, by rw [List.length_set]; exact h.len, okD_set h.ok hlt, by omega, by split <;> omega, ?_, fun hgt => ?_, ?_⟩
  · rw [drop_set]
    have := congrArg (List.drop 1) h.rest
    rwa [List.drop_drop, List.drop_drop] at this
  · have : v.getD i 0 = 0 := getD_out (by omega)
    rw [this, Nat.zero_mul, Nat.add_zero] at hs
    omega
  · have hvl := h.vl
    have e0 : suD x y + y = x + 4294967296 * (if x < y then 1 else 0) := by unfold suD; split <;> omega
    obtain ⟨bb', hb'⟩ : ∃ bb', bb' = if x < y then 1 else 0 := ⟨_, rfl⟩
    rw [← hb'] at e0 ⊢
    obtain ⟨B, hB⟩ : ∃ B, B = 4294967296 ^ i := ⟨_, rfl⟩
    rw [vd_put (by rw [h.len]; exact hi), vd_take, vd_take, ← hw, Nat.pow_succ, ← hB]
    rw [← hB] at hvl
    have e1 : B * 4294967296 * (s / 4294967296 + bb') = B * (4294967296 * (s / 4294967296)) + B * (4294967296 * bb') := by rw [Nat.mul_assoc, Nat.mul_add, Nat.mul_add]
    have e2 : T * (vd (v.take i) + B * v.getD i 0) = T * vd (v.take i) + B * (v.getD i 0 * T) := by rw [Nat.mul_add, Nat.mul_comm (v.getD i 0), Nat.mul_left_comm]
    have e3 := congrArg (B * ·) e0
    simp only [Nat.mul_add] at e3
    have e4 : B * s = B * c + B * (v.getD i 0 * T) := by rw [hs, Nat.mul_add]
    have e5 : B * y = B * (s % 4294967296) + B * b := by rw [hy, Nat.mul_add]
    have e6 : B * (s % 4294967296) + B * (4294967296 * (s / 4294967296)) = B * s := by rw [← Nat.mul_add]; congr 1; omega
    rw [e1, e2]
    rw [Nat.mul_add B] at hvl
    omega
theorem LeI.fin {v W0 W : List Nat} {N T c b : Nat} (h : LeI v W0 W N T c b N) (hvN : v.length < N) (hW0 : W0.length = N) : (0 < b ↔ vd W0 < T * vd v) ∧ vd W + T * vd v = vd W0 + 4294967296 ^ N * (if vd W0 < T * vd v then 1 else 0) := by
  have h1 := h.vl
  rw [List.take_of_length_le (by rw [h.len]; exact Nat.le_refl _), List.take_of_length_le (by omega), List.take_of_length_le (by omega), h.c0 hvN, Nat.zero_add] at h1
  have h2 := vd_lt h.ok
  rw [h.len] at h2
  have h3 := h.b1
  obtain ⟨X, hX⟩ : ∃ X, X = T * vd v := ⟨_, rfl⟩
  rw [← hX] at h1 ⊢
  have : b = 0 ∨ b = 1 := by omega
  rcases this with rfl | rfl
  · rw [Nat.mul_zero, Nat.add_zero] at h1
    have hn : ¬ vd W0 < X := by omega
    rw [if_neg hn]
    exact ⟨by omega, by omega⟩
  · rw [Nat.mul_one] at h1
    have hn : vd W0 < X := by omega
    rw [if_pos hn]
    exact ⟨by omega, by omega⟩
theorem win_get {pre W post : List Nat} {o i : Nat} (ho : pre.length = o) (hi : i < W.length) : (pre ++ (W ++ post)).getD (o + i) 0 = W.getD i 0 := by
  rw [List.getD_eq_getElem?_getD, List.getD_eq_getElem?_getD, List.getElem?_append_right (by omega), show o + i - pre.length = i by omega, List.getElem?_append_left hi]
theorem win_set {pre W post : List Nat} {o i d : Nat} (ho : pre.length = o) (hi : i < W.length) : (pre ++ (W ++ post)).set (o + i) d = pre ++ (W.set i d ++ post) := by
  rw [List.set_append_right _ _ (by omega), show o + i - pre.length = i by omega, List.set_append_left _ _ hi]
theorem wsb_two {x y b : Nat} (hx : x < 4294967296) (hy : y < 4294967296) (hb : b ≤ 1) : IntKind.wrap .u64 (((wsb x y : Nat) : Int) - (b : Int)) = ((wsb x (y + b) : Nat) : Int) := by
  have e : IntKind.wrap .u64 (((wsb x y : Nat) : Int) - (b : Int)) = (((wsb x y : Nat) : Int) - (b : Int)) % 18446744073709551616 := rfl
  rw [e]
  unfold wsb
  by_cases h1 : x < y
  · rw [if_pos h1, if_pos (by omega)]; omega
  · rw [if_neg h1]
    split <;> omega
section
variable [Globals]
theorem loop_less (kf : Nat) (v W0 pre post : List Nat) (nl : Bool) (cap : Option Nat) (N o E T : Nat) (hv : okD v) (hT : T < 4294967296) (hW0 : W0.length = N) (hok0 : okD W0) (ho : pre.length = o) (hE : E = o + (N + post.length)) (hE6 : E ≤ 1000000) (hvN : v.length ≤ 1000000) (k : Nat) (l : Ass) (z : Option Out) (hz : loopR Tryd.prog tab kf none LB123_3 123 52 [0, 1, 2, 7, 8, 12, 13] 1 k l ([rD (pre ++ (W0 ++ post))]) = z) (hk : N < k) (a0 : asc l 0 = .hsl 0 o N E 1) (a1 : asc l 1 = sD v nl cap) (a2 : asc l 2 = .c (.int .u64 (T : Int))) (a7 : asc l 7 = .c (.int .u64 ((0) : Int))) (a8 : asc l 8 = .c (.int .u64 ((0) : Int))) (a12 : asc l 12 = ii N) (a13 : asc l 13 = ii 0) :
    ∃ l' W cy bo, z = some (.exit 0 (fr 52 l') [rD (pre ++ (W ++ post))]) ∧ asc l' 8 = .c (.int .u64 ((bo : Nat) : Int)) ∧ LeI v W0 W N T cy bo N := by
  subst hz
  refine loop_nat N (fun k l H => loopR Tryd.prog tab kf none LB123_3 123 52 [0, 1, 2, 7, 8, 12, 13] 1 k l H)
    (fun i l H => ∃ (W : List Nat), ∃ (cy : Nat), ∃ (bo : Nat), asc l 0 = .hsl 0 o N E 1 ∧ asc l 1 = sD v nl cap ∧ asc l 2 = .c (.int .u64 (T : Int)) ∧ asc l 7 = .c (.int .u64 (cy : Int)) ∧ asc l 8 = .c (.int .u64 (bo : Int)) ∧ asc l 12 = ii N ∧ asc l 13 = ii i ∧ (LeI v W0 W N T cy bo i) ∧ H = ([rD (pre ++ (W ++ post))]))
    (fun z => ∃ l' W cy bo, z = some (.exit 0 (fr 52 l') [rD (pre ++ (W ++ post))]) ∧ asc l' 8 = .c (.int .u64 ((bo : Nat) : Int)) ∧ LeI v W0 W N T cy bo N) ?_ N 0 k l _ (by omega) hk ⟨W0, (0), (0), a0, a1, a2, a7, a8, a12, a13, ⟨hW0, hok0, by omega, by omega, rfl, fun h => rfl, by simp [vd]⟩, rfl⟩
  clear hk a0 a1 a2 a7 a8 a12 a13
  rintro i k l H hi ⟨W, cy, bo, a0, a1, a2, a7, a8, a12, a13, hp, rfl⟩
  have ht : trim 1 (fr 52 (keep l [0, 1, 2, 7, 8, 12, 13])) ([rD (pre ++ (W ++ post))]) = ([rD (pre ++ (W ++ post))]) := by
    exact trim_same rfl
  by_cases hc : i < N
  · have hc' : (i : Int) < ((N : Nat) : Int) := by omega
    have hc0 : (0 : Int) ≤ i := by omega
    have hw : IntKind.wrap .i64 ((i : Int) + 1) = ((i + 1 : Nat) : Int) := by rw [wrap64 (by omega) (by omega)]; omega
    have helv := encD_length v
    have helU := encD_length (pre ++ (W ++ post))
    have hWl := hp.len
    have hUl : (pre ++ (W ++ post)).length = E := by rw [List.length_append, List.length_append, ho, hWl, hE]
    rw [hUl] at helU
    have h2 := okD_get hp.ok i
    have hcb := hp.cb
    have hb1 := hp.b1
    obtain ⟨hs64, hst⟩ := hp.step hv hT hc hW0 hok0
    have hxu := encD_get (l := pre ++ (W ++ post)) (i := o + i) (by omega)
    rw [win_get ho (by omega)] at hxu
    have hiE : o + i < E := by omega
    have hset := fun d : Nat => (encD_set (l := pre ++ (W ++ post)) (i := o + i) (d := d)).trans (by rw [win_set ho (by omega)])
    have hcv1 : IntKind.wrap .u64 ((W.getD i 0 : Nat) : Int) = ((W.getD i 0 : Nat) : Int) := wr64 (by omega)
    by_cases hiv : i < v.length
    · have hiv' : (i : Int) < v.length := by omega
      have hy := encD_get (l := v) hiv
      have h1 := okD_get hv i
      have h4 := mul_le32 h1 hT
      have hcv2 : IntKind.wrap .u64 ((v.getD i 0 : Nat) : Int) = ((v.getD i 0 : Nat) : Int) := wr64 (by omega)
      have hm1 : IntKind.wrap .u64 (((v.getD i 0 : Nat) : Int) * (T : Int)) = ((v.getD i 0 * T : Nat) : Int) := by rw [← Int.natCast_mul, wr64 (by omega)]
      have hm2 : IntKind.wrap .u64 ((cy : Int) + ((v.getD i 0 * T : Nat) : Int)) = ((cy + v.getD i 0 * T : Nat) : Int) := by rw [← Int.natCast_add, wr64 hs64]
      obtain ⟨s, hs⟩ : ∃ s, s = cy + v.getD i 0 * T := ⟨_, rfl⟩
      rw [← hs] at hm2 hs64 hst
      have ham := fun (X : Heap) (t : TypeId) => and64m (H := X) (t := t) (a := s) hs64
      have hw1 := wrap_sub h2 (show s % 4294967296 ≤ 4294967296 by omega)
      have hw2 := wsb_two (y := s % 4294967296) (b := bo) h2 (by omega) hb1
      obtain ⟨g1, g2, g3⟩ := wsb_facts h2 (show s % 4294967296 + bo ≤ 4294967296 by omega)
      have ha1 := fun (X : Heap) (t : TypeId) => and64o (H := X) (t := t) (a := wsb (W.getD i 0) (s % 4294967296 + bo) / 4294967296) (by omega)
      rw [← g2, ← g3] at hst
      simp only [loopR_succ, ht]
      simp only [a0, a1, a2, a7, a8, a12, a13, hc', hc0, hw, helv, helU, hxu, hiE, hset, hcv1, hiv', hy, hcv2, hm1, hm2, ham, hw1, hw2, ha1, shr64, wrap32m, loopR_succ, loopOf, findLoop, firstRegion, Option.some_or, Option.none_or, Option.getD_some, Option.some.injEq, Tryd.f123, FT, Int.reduceEq, Int.reduceToNat, Int.reduceLE, Int.reduceLT, Int.reduceAdd, Int.reduceMul, Int.reduceSub, Int.reduceNeg, Nat.reduceAdd, Nat.reduceSub, Nat.reduceMul, Nat.reduceLT, Nat.reduceBEq, Nat.reduceEqDiff, Nat.reduceLeDiff]
      exact .inr ⟨_, _, hc, rfl, _, _, _, (by rfl), (by rfl), (by rfl), (by rfl), (by rfl), (by rfl), (by rfl), hst, rfl⟩
    · have hiv' : ¬ (i : Int) < v.length := by omega
      rw [getD_out (l := v) (i := i) (by omega), Nat.zero_mul, Nat.add_zero] at hs64 hst
      have ham := fun (X : Heap) (t : TypeId) => and64m (H := X) (t := t) (a := cy) hs64
      have hw1 := wrap_sub h2 (show cy % 4294967296 ≤ 4294967296 by omega)
      have hw2 := wsb_two (y := cy % 4294967296) (b := bo) h2 (by omega) hb1
      obtain ⟨g1, g2, g3⟩ := wsb_facts h2 (show cy % 4294967296 + bo ≤ 4294967296 by omega)
      have ha1 := fun (X : Heap) (t : TypeId) => and64o (H := X) (t := t) (a := wsb (W.getD i 0) (cy % 4294967296 + bo) / 4294967296) (by omega)
      rw [← g2, ← g3] at hst
      simp only [loopR_succ, ht]
      simp only [a0, a1, a2, a7, a8, a12, a13, hc', hc0, hw, helv, helU, hxu, hiE, hset, hcv1, hiv', ham, hw1, hw2, ha1, shr64, wrap32m, loopR_succ, loopOf, findLoop, firstRegion, Option.some_or, Option.none_or, Option.getD_some, Option.some.injEq, Tryd.f123, FT, Int.reduceEq, Int.reduceToNat, Int.reduceLE, Int.reduceLT, Int.reduceAdd, Int.reduceMul, Int.reduceSub, Int.reduceNeg, Nat.reduceAdd, Nat.reduceSub, Nat.reduceMul, Nat.reduceLT, Nat.reduceBEq, Nat.reduceEqDiff, Nat.reduceLeDiff]
      exact .inr ⟨_, _, hc, rfl, _, _, _, (by rfl), (by rfl), (by rfl), (by rfl), (by rfl), (by rfl), (by rfl), hst, rfl⟩
  · refine .inl ?_
    obtain rfl : i = N := by omega
    have hc' : ¬ (((i : Nat) : Int) < ((i : Nat) : Int)) := by omega
    simp only [loopR_succ, ht]
    simp only [a0, a1, a2, a7, a8, a12, a13, hc', loopR_succ, loopOf, findLoop, firstRegion, Option.some_or, Option.none_or, Option.getD_some, Option.some.injEq, Tryd.f123, FT, Int.reduceEq, Int.reduceToNat, Int.reduceLE, Int.reduceLT, Int.reduceAdd, Int.reduceMul, Int.reduceSub, Int.reduceNeg, Nat.reduceAdd, Nat.reduceSub, Nat.reduceMul, Nat.reduceLT, Nat.reduceBEq, Nat.reduceEqDiff, Nat.reduceLeDiff]
    exact ⟨_, W, cy, bo, rfl, (by rfl), hp⟩
theorem less_ev (k : Nat) (v W pre post : List Nat) (nl : Bool) (cap : Option Nat) (N o E T : Nat) (hv : okD v) (hT : T < 4294967296) (hW : W.length = N) (hokW : okD W) (hvN : v.length < N) (ho : pre.length = o) (hE : E = o + (N + post.length)) (hE6 : E ≤ 1000000) (hk : N < k) :
    ∃ W', W'.length = N ∧ okD W' ∧ vd W' + T * vd v = vd W + 4294967296 ^ N * (if vd W < T * vd v then 1 else 0) ∧
      evalT Tryd.prog (mkHints tab) (k+1) (.fn 123) [.hsl 0 o N E 1, sD v nl cap, .c (.int .u64 (T : Int))] [rD (pre ++ (W ++ post))] = some (bb (decide (vd W < T * vd v)), [rD (pre ++ (W' ++ post))]) := by
  rw [ev123]
  simp only [Tryd.f123, bb, FT, Int.reduceEq, Int.reduceToNat, Int.reduceLE, Int.reduceLT, Int.reduceAdd, Int.reduceMul, Int.reduceSub, Int.reduceNeg, Nat.reduceAdd, Nat.reduceSub, Nat.reduceMul, Nat.reduceLT, Nat.reduceBEq, Nat.reduceEqDiff, Nat.reduceLeDiff]
  rw [evalCode_loopB LB123_3 lp123_3]; rotate_left; rfl; rfl; rfl
  generalize hz : loopR _ _ _ _ _ _ _ _ _ _ _ _ = z
  obtain ⟨l', W', cy, bo, rfl, e8, hI⟩ := loop_less k v W pre post nl cap N o E T hv hT hW hokW ho hE hE6 (by omega) _ _ z hz (by omega) (by rfl) (by rfl) (by rfl) (by rfl) (by rfl) (by rfl) (by rfl)
  clear hz
  obtain ⟨h1, h2⟩ := hI.fin hvN hW
  refine ⟨W', hI.len, hI.ok, h2, ?_⟩
  have hd : (decide ((0 : Int) < (bo : Int))) = decide (vd W < T * vd v) := by rw [decide_eq_decide, ← h1]; omega
  simp only [e8, hd, FT, Int.reduceEq, Int.reduceToNat, Int.reduceLE, Int.reduceLT, Int.reduceAdd, Int.reduceMul, Int.reduceSub, Int.reduceNeg, Nat.reduceAdd, Nat.reduceSub, Nat.reduceMul, Nat.reduceLT, Nat.reduceBEq, Nat.reduceEqDiff, Nat.reduceLeDiff]
end
end Go.Proofs.Sw.W
namespace Go.Proofs.Sw.W
open Go.Ab
structure Dg (U V P v1 v2 vl u0 u1 u2 ul : Nat) : Prop where
  Ve : V = vl + P * (v2 + 4294967296 * v1)
  Ue : U = ul + P * (u2 + 4294967296 * (u1 + 4294967296 * u0))
  hvl : vl < P
  hul : ul < P
  n1 : 2147483648 ≤ v1
  b1 : v1 < 4294967296
  b2 : v2 < 4294967296
  c0 : u0 < 4294967296
  c1 : u1 < 4294967296
  c2 : u2 < 4294967296
  lt : U < 4294967296 * V
section
variable {U V P v1 v2 vl u0 u1 u2 ul : Nat}
theorem Dg.pos (h : Dg U V P v1 v2 vl u0 u1 u2 ul) : 0 < V ∧ 4294967296 * P ≤ V := by
  have h1 := h.hvl
  have h2 := h.n1
  have h3 : P * (4294967296 * 1) ≤ P * (v2 + 4294967296 * v1) := Nat.mul_le_mul_left _ (by omega)
  have h4 := h.Ve
  rw [Nat.mul_one, Nat.mul_comm P] at h3
  exact ⟨by omega, by omega⟩
theorem Dg.top (h : Dg U V P v1 v2 vl u0 u1 u2 ul) : u0 ≤ v1 := by
  by_cases hn : u0 ≤ v1
  · exact hn
  · exfalso
    have h1 : 4294967296 * (v2 + 4294967296 * v1 + 1) ≤ u2 + 4294967296 * (u1 + 4294967296 * u0) := by have := h.b2; omega
    have h2 := Nat.mul_le_mul_left P h1
    have h3 := h.Ve
    have h4 := h.Ue
    have h5 := h.hvl
    have h6 := h.lt
    rw [Nat.mul_left_comm, Nat.mul_add P _ 1, Nat.mul_one] at h2
    omega
theorem Dg.lt_of (h : Dg U V P v1 v2 vl u0 u1 u2 ul) {g : Nat} (hg : u2 + 4294967296 * (u1 + 4294967296 * u0) + 1 ≤ g * (v2 + 4294967296 * v1)) : U / V < g := by
  rw [Nat.div_lt_iff_lt_mul h.pos.1]
  have h1 := Nat.mul_le_mul_left P hg
  have h2 := h.Ve
  have h3 := h.Ue
  have h4 := h.hul
  rw [Nat.mul_add P _ 1, Nat.mul_one, Nat.mul_left_comm] at h1
  have h5 : g * V = g * vl + g * (P * (v2 + 4294967296 * v1)) := by rw [h2, Nat.mul_add]
  omega
theorem Dg.first (h : Dg U V P v1 v2 vl u0 u1 u2 ul) : U / V ≤ (u1 + 4294967296 * u0) / v1 := by
  obtain ⟨H, hH⟩ : ∃ H, H = u1 + 4294967296 * u0 := ⟨_, rfl⟩
  have hv : 0 < v1 := by have := h.n1; omega
  rw [← hH]
  refine Nat.le_of_lt_succ (h.lt_of ?_)
  rw [← hH]
  have h1 := Nat.div_add_mod H v1
  have h2 := Nat.mod_lt H hv
  obtain ⟨g, hg⟩ : ∃ g, g = H / v1 := ⟨_, rfl⟩
  rw [← hg] at h1 ⊢
  have h3 := h.c2
  have e1 : (g + 1) * (v2 + 4294967296 * v1) = (g + 1) * v2 + 4294967296 * (v1 * g + v1) := by
    rw [Nat.mul_add, Nat.mul_left_comm, Nat.mul_comm (g + 1) v1, Nat.mul_add v1 g 1, Nat.mul_one]
  rw [Nat.succ_eq_add_one, e1]
  omega
theorem Dg.less (h : Dg U V P v1 v2 vl u0 u1 u2 ul) {g r : Nat} (hg : g * v1 + r = u1 + 4294967296 * u0) (hc : r * 4294967296 + u2 < g * v2) : U / V < g := by
  refine h.lt_of ?_
  have e1 : g * (v2 + 4294967296 * v1) = g * v2 + 4294967296 * (g * v1) := by rw [Nat.mul_add, Nat.mul_left_comm]
  rw [e1, ← hg]
  omega
theorem Dg.small (h : Dg U V P v1 v2 vl u0 u1 u2 ul) : U / V < 4294967296 := by
  rw [Nat.div_lt_iff_lt_mul h.pos.1]; exact h.lt
theorem Dg.near (h : Dg U V P v1 v2 vl u0 u1 u2 ul) {g r : Nat} (hg : g * v1 + r = u1 + 4294967296 * u0) (hB : g < 4294967296) (hc : g * v2 ≤ r * 4294967296 + u2) : g ≤ U / V + 1 := by
  cases g with
  | zero => exact Nat.zero_le _
  | succ g =>
    refine Nat.succ_le_succ ((Nat.le_div_iff_mul_le h.pos.1).2 ?_)
    have e1 : (g + 1) * (v2 + 4294967296 * v1) = (g + 1) * v2 + 4294967296 * ((g + 1) * v1) := by rw [Nat.mul_add, Nat.mul_left_comm]
    have h1 : (g + 1) * (v2 + 4294967296 * v1) ≤ u2 + 4294967296 * (u1 + 4294967296 * u0) := by rw [e1, ← hg]; omega
    have h2 := Nat.mul_le_mul_left P h1
    rw [Nat.mul_left_comm] at h2
    have h3 := h.Ve
    have h4 := h.Ue
    have h5 : (g + 1) * vl ≤ 4294967296 * P := Nat.mul_le_mul (by omega) (Nat.le_of_lt h.hvl)
    have h6 := h.pos.2
    have h7 : (g + 1) * V = (g + 1) * vl + (g + 1) * (P * (v2 + 4294967296 * v1)) := by rw [← Nat.mul_add, ← h3]
    rw [Nat.add_mul, Nat.one_mul] at h7
    omega
theorem Dg.brk (h : Dg U V P v1 v2 vl u0 u1 u2 ul) {g r : Nat} (hg : g * v1 + r = u1 + 4294967296 * u0) (hr : 4294967296 ≤ r) : g < 4294967296 ∧ g * v2 ≤ r * 4294967296 + u2 := by
  have h1 := h.top
  have h2 := h.c1
  have hB : g < 4294967296 := by
    by_cases hb : g < 4294967296
    · exact hb
    · exfalso
      have := Nat.mul_le_mul_right v1 (show 4294967296 ≤ g by omega)
      omega
  refine ⟨hB, ?_⟩
  have := mul_le32 hB h.b2
  omega
end
theorem vd_top2 {v : List Nat} {m : Nat} (hl : v.length = m + 2) : vd v = vd (v.take m) + 4294967296 ^ m * (v.getD m 0 + 4294967296 * v.getD (m + 1) 0) := by
  have h1 := vd_take v m
  have h2 := vd_take v (m + 1)
  rw [List.take_of_length_le (by omega)] at h2
  rw [h2, h1, Nat.pow_succ, Nat.mul_add, Nat.mul_assoc, Nat.add_assoc]
theorem vd_top3 {W : List Nat} {m : Nat} (hl : W.length = m + 3) : vd W = vd (W.take m) + 4294967296 ^ m * (W.getD m 0 + 4294967296 * (W.getD (m + 1) 0 + 4294967296 * W.getD (m + 2) 0)) := by
  have h1 := vd_take W m
  have h2 := vd_take W (m + 1)
  have h3 := vd_take W (m + 2)
  rw [List.take_of_length_le (by omega)] at h3
  rw [h3, h2, h1]
  simp only [Nat.mul_add, Nat.mul_assoc, Nat.pow_succ]
  omega
theorem take_lt {l : List Nat} (h : okD l) (m : Nat) : vd (l.take m) < 4294967296 ^ m := by
  have h1 := vd_lt (l := l.take m) fun d hd => h d (List.mem_of_mem_take hd)
  refine Nat.lt_of_lt_of_le h1 (Nat.pow_le_pow_right (by omega) ?_)
  rw [List.length_take]; omega
theorem dg_of {v W : List Nat} {m : Nat} (hv : okD v) (hW : okD W) (hvl : v.length = m + 2) (hWl : W.length = m + 3) (hn : 2147483648 ≤ v.getD (m + 1) 0) (hlt : vd W < 4294967296 * vd v) :
    Dg (vd W) (vd v) (4294967296 ^ m) (v.getD (m + 1) 0) (v.getD m 0) (vd (v.take m)) (W.getD (m + 2) 0) (W.getD (m + 1) 0) (W.getD m 0) (vd (W.take m)) :=
  ⟨vd_top2 hvl, vd_top3 hWl, take_lt hv m, take_lt hW m, hn, okD_get hv _, okD_get hv _, okD_get hW _, okD_get hW _, okD_get hW _, hlt⟩
structure MdI (v1 H q g r i : Nat) : Prop where
  hg : g * v1 + r = H
  hq : q ≤ g
  hr : r < 4294967296
  hi : 1 ≤ i → 2147483648 ≤ r
  hi2 : 2 ≤ i → 4294967296 ≤ r
theorem MdI.next {v1 H q g r i : Nat} (h : MdI v1 H q g r i) (hv : 2147483648 ≤ v1) (h1 : (g - 1) * v1 + (r + v1) = H) (hq : q ≤ g - 1) (hr : r + v1 < 4294967296) : MdI v1 H q (g - 1) (r + v1) (i + 1) := by
  refine ⟨h1, hq, hr, fun _ => by omega, fun h3 => ?_⟩
  have h2 := h.hi (by omega)
  omega
structure AbI (v W1 W : List Nat) (N c i : Nat) : Prop where
  ad : AdI W1 v W N c i
  rest : W.drop i = W1.drop i
theorem AbI.step {v W1 W : List Nat} {N c i : Nat} (h : AbI v W1 W N c i) (hv : okD v) (hW1 : okD W1) (hi : i < N) :
    AbI v W1 (W.set i ((c + W.getD i 0 + v.getD i 0) % 4294967296)) N ((c + W.getD i 0 + v.getD i 0) / 4294967296) (i + 1) := by
  have hw : W.getD i 0 = W1.getD i 0 := by
    have := congrArg (·.getD 0 0) h.rest
    simpa [List.getD_eq_getElem?_getD, List.getElem?_drop] using this
  rw [hw]
  refine ⟨h.ad.step hW1 hv hi, ?_⟩
  rw [drop_set]
  have := congrArg (List.drop 1) h.rest
  rwa [List.drop_drop, List.drop_drop] at this
end Go.Proofs.Sw.W
namespace Go.Proofs.Sw.W
open Go.Ab
section
variable [Globals]
set_option maxHeartbeats 8000000 in
theorem loop_mend (kf : Nat) (v W pre post : List Nat) (nl : Bool) (cap : Option Nat) (m o E : Nat) (hv : okD v) (hW : okD W) (hvl : v.length = m + 2) (hWl : W.length = m + 3) (ho : pre.length = o) (hE : E = o + (m + 3 + post.length)) (hE6 : E ≤ 1000000) (hD : Dg (vd W) (vd v) (4294967296 ^ m) (v.getD (m + 1) 0) (v.getD m 0) (vd (v.take m)) (W.getD (m + 2) 0) (W.getD (m + 1) 0) (W.getD m 0) (vd (W.take m))) (g0 r0 : Nat) (h0 : MdI (v.getD (m + 1) 0) (W.getD (m + 1) 0 + 4294967296 * W.getD (m + 2) 0) (vd W / vd v) g0 r0 0) (k : Nat) (l : Ass) (z : Option Out) (hz : loopR Tryd.prog tab kf none LB117_4 117 119 [0, 1, 5, 7, 8] 1 k l ([rD (pre ++ (W ++ post))]) = z) (hk : 2 < k) (a0 : asc l 0 = .hsl 0 o (m + 3) E 1) (a1 : asc l 1 = sD v nl cap) (a5 : asc l 5 = ii (m + 2 : Nat)) (a7 : asc l 7 = .c (.int .u64 (g0 : Int))) (a8 : asc l 8 = .c (.int .u64 (r0 : Int))) :
    ∃ l' g, z = some (.exit 0 (fr 119 l') [rD (pre ++ (W ++ post))]) ∧ asc l' 0 = .hsl 0 o (m + 3) E 1 ∧ asc l' 1 = sD v nl cap ∧ asc l' 5 = ii (m + 2 : Nat) ∧ asc l' 7 = .c (.int .u64 ((g : Nat) : Int)) ∧ vd W / vd v ≤ g ∧ g ≤ vd W / vd v + 1 ∧ g < 4294967296 := by
  subst hz
  refine loop_nat 2 (fun k l H => loopR Tryd.prog tab kf none LB117_4 117 119 [0, 1, 5, 7, 8] 1 k l H)
    (fun i l H => ∃ (g : Nat), ∃ (r : Nat), asc l 0 = .hsl 0 o (m + 3) E 1 ∧ asc l 1 = sD v nl cap ∧ asc l 5 = ii (m + 2 : Nat) ∧ asc l 7 = .c (.int .u64 (g : Int)) ∧ asc l 8 = .c (.int .u64 (r : Int)) ∧ (MdI (v.getD (m + 1) 0) (W.getD (m + 1) 0 + 4294967296 * W.getD (m + 2) 0) (vd W / vd v) g r i) ∧ H = ([rD (pre ++ (W ++ post))]))
    (fun z => ∃ l' g, z = some (.exit 0 (fr 119 l') [rD (pre ++ (W ++ post))]) ∧ asc l' 0 = .hsl 0 o (m + 3) E 1 ∧ asc l' 1 = sD v nl cap ∧ asc l' 5 = ii (m + 2 : Nat) ∧ asc l' 7 = .c (.int .u64 ((g : Nat) : Int)) ∧ vd W / vd v ≤ g ∧ g ≤ vd W / vd v + 1 ∧ g < 4294967296) ?_ 2 0 k l _ (by omega) hk ⟨g0, r0, a0, a1, a5, a7, a8, h0, rfl⟩
  clear hk a0 a1 a5 a7 a8
  rintro i k l H hi ⟨g, r, a0, a1, a5, a7, a8, hp, rfl⟩
  have ht : trim 1 (fr 119 (keep l [0, 1, 5, 7, 8])) ([rD (pre ++ (W ++ post))]) = ([rD (pre ++ (W ++ post))]) := by
    exact trim_same rfl
  by_cases hc : i < 2
  · have hc' : (i : Int) < ((2 : Nat) : Int) := by omega
    have hc0 : (0 : Int) ≤ i := by omega
    have hw : IntKind.wrap .i64 ((i : Int) + 1) = ((i + 1 : Nat) : Int) := by rw [wrap64 (by omega) (by omega)]; omega
    obtain ⟨hg, hq, hr, hri, hri2⟩ := hp
    have helv := encD_length v
    have helU := encD_length (pre ++ (W ++ post))
    have hUl : (pre ++ (W ++ post)).length = E := by rw [List.length_append, List.length_append, ho, hWl, hE]
    rw [hUl] at helU
    have hxm := encD_get (l := pre ++ (W ++ post)) (i := o + m) (by omega)
    rw [win_get ho (by omega)] at hxm
    have hym := encD_get (l := v) (i := m) (by omega)
    have hy1 := encD_get (l := v) (i := m + 1) (by omega)
    have hn1 := hD.n1
    have hb1 := hD.b1
    have hb2 := hD.b2
    have hc0 := hD.c0
    have hc1 := hD.c1
    have hc2 := hD.c2
    obtain ⟨v1, hv1⟩ : ∃ v1, v1 = v.getD (m + 1) 0 := ⟨_, rfl⟩
    obtain ⟨v2, hv2⟩ : ∃ v2, v2 = v.getD m 0 := ⟨_, rfl⟩
    obtain ⟨u2, hu2⟩ : ∃ u2, u2 = W.getD m 0 := ⟨_, rfl⟩
    rw [← hv1] at hy1 hn1 hb1 hg hD
    rw [← hv2] at hym hb2 hD
    rw [← hu2] at hxm hc2 hD
    have hgH : g ≤ W.getD (m + 1) 0 + 4294967296 * W.getD (m + 2) 0 := by
      have := Nat.mul_le_mul_left g (show 1 ≤ v1 by omega)
      omega
    have hw2 : IntKind.wrap .i64 (((m + 2 : Nat) : Int) - 2) = (m : Int) := by rw [wrap64 (by omega) (by omega)]; omega
    have hw1 : IntKind.wrap .i64 (((m + 2 : Nat) : Int) - 1) = ((m + 1 : Nat) : Int) := by rw [wrap64 (by omega) (by omega)]; omega
    have p1 : (0 : Int) ≤ (m : Int) := by omega
    have p2 : (m : Int) < ((m + 3 : Nat) : Int) := by omega
    have p3 : (m : Int) < (v.length : Int) := by omega
    have p4 : (0 : Int) ≤ ((m + 1 : Nat) : Int) := by omega
    have p5 : ((m + 1 : Nat) : Int) < (v.length : Int) := by omega
    have hcv2 : IntKind.wrap .u64 (v2 : Int) = (v2 : Int) := wr64 (by omega)
    have hcv1 : IntKind.wrap .u64 (v1 : Int) = (v1 : Int) := wr64 (by omega)
    have hcu2 : IntKind.wrap .u64 (u2 : Int) = (u2 : Int) := wr64 (by omega)
    have hsl := fun (X : Heap) (t : TypeId) => shl64 (H := X) (t := t) (a := r) hr
    have hor := fun (X : Heap) (t : TypeId) => or64 (H := X) (t := t) (a := r) (b := u2) hr hc2
    have hra : IntKind.wrap .u64 ((r : Int) + (v1 : Int)) = ((r + v1 : Nat) : Int) := by rw [← Int.natCast_add, wr64 (by omega)]
    by_cases hB : 0 < g / 4294967296
    · have hB' : (0 : Int) < ((g / 4294967296 : Nat) : Int) := by omega
      have hg1 : 1 ≤ g := by omega
      have hql : vd W / vd v < g := Nat.lt_of_lt_of_le hD.small (by omega)
      have hgd : IntKind.wrap .u64 ((g : Int) - 1) = ((g - 1 : Nat) : Int) := by rw [show (g : Int) - 1 = ((g - 1 : Nat) : Int) by omega, wr64 (by omega)]
      have hg' : (g - 1) * v1 + (r + v1) = W.getD (m + 1) 0 + 4294967296 * W.getD (m + 2) 0 := by
        have := Nat.add_mul (g - 1) 1 v1
        rw [show g - 1 + 1 = g by omega, Nat.one_mul] at this
        omega
      simp only [loopR_succ, ht]
      simp only [a0, a1, a5, a7, a8, hc', hc0, hw, helv, helU, shr64, hB', loopR_succ, loopOf, findLoop, firstRegion, Option.some_or, Option.none_or, Option.getD_some, Option.some.injEq, Tryd.f117, FT, Int.reduceEq, Int.reduceToNat, Int.reduceLE, Int.reduceLT, Int.reduceAdd, Int.reduceMul, Int.reduceSub, Int.reduceNeg, Nat.reduceAdd, Nat.reduceSub, Nat.reduceMul, Nat.reduceLT, Nat.reduceBEq, Nat.reduceEqDiff, Nat.reduceLeDiff]
      rw [evalCode_drawn Tryd.f117 4 dr117_4]; rotate_left; rfl
      simp (config := { maxSteps := 4000000 }) only [a0, a1, a5, a7, a8, hc', hc0, hw, helv, helU, shr64, hB', hw2, p1, p2, p3, hxm, hym, hcv2, hcu2, hsl, hor, EVd, List.getElem?_nil, Nat.reducePow, Nat.reduceDiv, Nat.reduceMod, FT, Int.reduceEq, Int.reduceToNat, Int.reduceLE, Int.reduceLT, Int.reduceAdd, Int.reduceMul, Int.reduceSub, Int.reduceNeg, Nat.reduceAdd, Nat.reduceSub, Nat.reduceMul, Nat.reduceLT, Nat.reduceBEq, Nat.reduceEqDiff, Nat.reduceLeDiff]
      try simp only [a0, a1, a5, a7, a8, hc', hc0, hw, helv, helU, shr64, hB', hgd, hw1, p4, p5, hy1, hcv1, hra, FT, Int.reduceEq, Int.reduceToNat, Int.reduceLE, Int.reduceLT, Int.reduceAdd, Int.reduceMul, Int.reduceSub, Int.reduceNeg, Nat.reduceAdd, Nat.reduceSub, Nat.reduceMul, Nat.reduceLT, Nat.reduceBEq, Nat.reduceEqDiff, Nat.reduceLeDiff]
      by_cases hb : 0 < (r + v1) / 4294967296
      · have hb' : (0 : Int) < (((r + v1) / 4294967296 : Nat) : Int) := by omega
        refine .inl ?_
        try simp only [a0, a1, a5, a7, a8, hc', hc0, hw, hb', FT, Int.reduceEq, Int.reduceToNat, Int.reduceLE, Int.reduceLT, Int.reduceAdd, Int.reduceMul, Int.reduceSub, Int.reduceNeg, Nat.reduceAdd, Nat.reduceSub, Nat.reduceMul, Nat.reduceLT, Nat.reduceBEq, Nat.reduceEqDiff, Nat.reduceLeDiff]
        obtain ⟨e1, e2⟩ := hD.brk hg' (by omega)
        exact ⟨_, g - 1, rfl, (by rfl), (by rfl), (by rfl), (by rfl), Nat.le_sub_one_of_lt hql, hD.near hg' e1 e2, e1⟩
      · have hb' : ¬ (0 : Int) < (((r + v1) / 4294967296 : Nat) : Int) := by omega
        try simp only [a0, a1, a5, a7, a8, hc', hc0, hw, hb', FT, Int.reduceEq, Int.reduceToNat, Int.reduceLE, Int.reduceLT, Int.reduceAdd, Int.reduceMul, Int.reduceSub, Int.reduceNeg, Nat.reduceAdd, Nat.reduceSub, Nat.reduceMul, Nat.reduceLT, Nat.reduceBEq, Nat.reduceEqDiff, Nat.reduceLeDiff]
        have hnx : MdI v1 (W.getD (m + 1) 0 + 4294967296 * W.getD (m + 2) 0) (vd W / vd v) (g - 1) (r + v1) (i + 1) := MdI.next ⟨hg, hq, hr, hri, hri2⟩ hn1 hg' (Nat.le_sub_one_of_lt hql) (by omega)
        exact .inr ⟨_, _, hc, rfl, g - 1, r + v1, (by rfl), (by rfl), (by rfl), (by rfl), (by rfl), (by rw [← hv1]; exact hnx), rfl⟩
    · have hB' : ¬ (0 : Int) < ((g / 4294967296 : Nat) : Int) := by omega
      have hgB : g < 4294967296 := by omega
      have hm := mul_le32 hgB hb2
      have hmw : IntKind.wrap .u64 ((g : Int) * (v2 : Int)) = ((g * v2 : Nat) : Int) := by rw [← Int.natCast_mul, wr64 (by omega)]
      simp only [loopR_succ, ht]
      simp only [a0, a1, a5, a7, a8, hc', hc0, hw, helv, helU, shr64, hB', loopR_succ, loopOf, findLoop, firstRegion, Option.some_or, Option.none_or, Option.getD_some, Option.some.injEq, Tryd.f117, FT, Int.reduceEq, Int.reduceToNat, Int.reduceLE, Int.reduceLT, Int.reduceAdd, Int.reduceMul, Int.reduceSub, Int.reduceNeg, Nat.reduceAdd, Nat.reduceSub, Nat.reduceMul, Nat.reduceLT, Nat.reduceBEq, Nat.reduceEqDiff, Nat.reduceLeDiff]
      rw [evalCode_drawn Tryd.f117 4 dr117_4]; rotate_left; rfl
      simp (config := { maxSteps := 4000000 }) only [a0, a1, a5, a7, a8, hc', hc0, hw, helv, helU, shr64, hB', hw2, p1, p2, p3, hxm, hym, hcv2, hcu2, hsl, hor, hmw, EVd, List.getElem?_nil, Nat.reducePow, Nat.reduceDiv, Nat.reduceMod, FT, Int.reduceEq, Int.reduceToNat, Int.reduceLE, Int.reduceLT, Int.reduceAdd, Int.reduceMul, Int.reduceSub, Int.reduceNeg, Nat.reduceAdd, Nat.reduceSub, Nat.reduceMul, Nat.reduceLT, Nat.reduceBEq, Nat.reduceEqDiff, Nat.reduceLeDiff]
      by_cases ht : r * 4294967296 + u2 < g * v2
      · have ht' : ((r * 4294967296 + u2 : Nat) : Int) < ((g * v2 : Nat) : Int) := by omega
        have hql := hD.less hg ht
        have hg1 : 1 ≤ g := Nat.lt_of_le_of_lt (Nat.zero_le _) hql
        have hgd : IntKind.wrap .u64 ((g : Int) - 1) = ((g - 1 : Nat) : Int) := by rw [show (g : Int) - 1 = ((g - 1 : Nat) : Int) by omega, wr64 (by omega)]
        have hg' : (g - 1) * v1 + (r + v1) = W.getD (m + 1) 0 + 4294967296 * W.getD (m + 2) 0 := by
          have := Nat.add_mul (g - 1) 1 v1
          rw [show g - 1 + 1 = g by omega, Nat.one_mul] at this
          omega
        try simp only [a0, a1, a5, a7, a8, hc', hc0, hw, ht', helv, helU, shr64, hgd, hw1, p4, p5, hy1, hcv1, hra, FT, Int.reduceEq, Int.reduceToNat, Int.reduceLE, Int.reduceLT, Int.reduceAdd, Int.reduceMul, Int.reduceSub, Int.reduceNeg, Nat.reduceAdd, Nat.reduceSub, Nat.reduceMul, Nat.reduceLT, Nat.reduceBEq, Nat.reduceEqDiff, Nat.reduceLeDiff]
        by_cases hb : 0 < (r + v1) / 4294967296
        · have hb' : (0 : Int) < (((r + v1) / 4294967296 : Nat) : Int) := by omega
          refine .inl ?_
          try simp only [a0, a1, a5, a7, a8, hc', hc0, hw, hb', FT, Int.reduceEq, Int.reduceToNat, Int.reduceLE, Int.reduceLT, Int.reduceAdd, Int.reduceMul, Int.reduceSub, Int.reduceNeg, Nat.reduceAdd, Nat.reduceSub, Nat.reduceMul, Nat.reduceLT, Nat.reduceBEq, Nat.reduceEqDiff, Nat.reduceLeDiff]
          obtain ⟨e1, e2⟩ := hD.brk hg' (by omega)
          exact ⟨_, g - 1, rfl, (by rfl), (by rfl), (by rfl), (by rfl), Nat.le_sub_one_of_lt hql, hD.near hg' e1 e2, e1⟩
        · have hb' : ¬ (0 : Int) < (((r + v1) / 4294967296 : Nat) : Int) := by omega
          try simp only [a0, a1, a5, a7, a8, hc', hc0, hw, hb', FT, Int.reduceEq, Int.reduceToNat, Int.reduceLE, Int.reduceLT, Int.reduceAdd, Int.reduceMul, Int.reduceSub, Int.reduceNeg, Nat.reduceAdd, Nat.reduceSub, Nat.reduceMul, Nat.reduceLT, Nat.reduceBEq, Nat.reduceEqDiff, Nat.reduceLeDiff]
          have hnx : MdI v1 (W.getD (m + 1) 0 + 4294967296 * W.getD (m + 2) 0) (vd W / vd v) (g - 1) (r + v1) (i + 1) := MdI.next ⟨hg, hq, hr, hri, hri2⟩ hn1 hg' (Nat.le_sub_one_of_lt hql) (by omega)
          exact .inr ⟨_, _, hc, rfl, g - 1, r + v1, (by rfl), (by rfl), (by rfl), (by rfl), (by rfl), (by rw [← hv1]; exact hnx), rfl⟩
      · have ht' : ¬ ((r * 4294967296 + u2 : Nat) : Int) < ((g * v2 : Nat) : Int) := by omega
        refine .inl ?_
        try simp only [a0, a1, a5, a7, a8, hc', hc0, hw, ht', FT, Int.reduceEq, Int.reduceToNat, Int.reduceLE, Int.reduceLT, Int.reduceAdd, Int.reduceMul, Int.reduceSub, Int.reduceNeg, Nat.reduceAdd, Nat.reduceSub, Nat.reduceMul, Nat.reduceLT, Nat.reduceBEq, Nat.reduceEqDiff, Nat.reduceLeDiff]
        exact ⟨_, g, rfl, (by rfl), (by rfl), (by rfl), (by rfl), hq, hD.near hg hgB (by omega), hgB⟩
  · refine .inl ?_
    obtain rfl : i = 2 := by omega
    have hc' : ¬ (((2 : Nat) : Int) < ((2 : Nat) : Int)) := by omega
    obtain ⟨_, _, hr, _, hri2⟩ := hp
    have := hri2 (Nat.le_refl _)
    omega
end
end Go.Proofs.Sw.W
namespace Go.Proofs.Sw.W
open Go.Ab
section
variable [Globals]
theorem loop_back (kf : Nat) (v W1 pre post : List Nat) (nl : Bool) (cap : Option Nat) (N o E : Nat) (hv : okD v) (hokW : okD W1) (hW1 : W1.length = N) (hvN : v.length < N) (ho : pre.length = o) (hE : E = o + (N + post.length)) (hE6 : E ≤ 1000000) (x7 : IV) (k : Nat) (l : Ass) (z : Option Out) (hz : loopR Tryd.prog tab kf none LB117_13 117 119 [0, 1, 5, 7, 9, 88, 89] 1 k l ([rD (pre ++ (W1 ++ post))]) = z) (hk : N < k) (a0 : asc l 0 = .hsl 0 o N E 1) (a1 : asc l 1 = sD v nl cap) (a5 : asc l 5 = ii v.length) (a7 : asc l 7 = .c x7) (a9 : asc l 9 = .c (.int .u64 ((0) : Int))) (a88 : asc l 88 = ii N) (a89 : asc l 89 = ii 0) :
    ∃ l' W cy, z = some (.exit 2 (fr 119 l') [rD (pre ++ (W ++ post))]) ∧ asc l' 7 = .c x7 ∧ AbI v W1 W N cy N := by
  subst hz
  refine loop_nat N (fun k l H => loopR Tryd.prog tab kf none LB117_13 117 119 [0, 1, 5, 7, 9, 88, 89] 1 k l H)
    (fun i l H => ∃ (W : List Nat), ∃ (cy : Nat), asc l 0 = .hsl 0 o N E 1 ∧ asc l 1 = sD v nl cap ∧ asc l 5 = ii v.length ∧ asc l 7 = .c x7 ∧ asc l 9 = .c (.int .u64 (cy : Int)) ∧ asc l 88 = ii N ∧ asc l 89 = ii i ∧ (AbI v W1 W N cy i) ∧ H = ([rD (pre ++ (W ++ post))]))
    (fun z => ∃ l' W cy, z = some (.exit 2 (fr 119 l') [rD (pre ++ (W ++ post))]) ∧ asc l' 7 = .c x7 ∧ AbI v W1 W N cy N) ?_ N 0 k l _ (by omega) hk ⟨W1, (0), a0, a1, a5, a7, a9, a88, a89, ⟨⟨hW1, hokW, by omega, by simp [vd]⟩, rfl⟩, rfl⟩
  clear hk a0 a1 a5 a7 a9 a88 a89
  rintro i k l H hi ⟨W, cy, a0, a1, a5, a7, a9, a88, a89, hp, rfl⟩
  have ht : trim 1 (fr 119 (keep l [0, 1, 5, 7, 9, 88, 89])) ([rD (pre ++ (W ++ post))]) = ([rD (pre ++ (W ++ post))]) := by
    exact trim_same rfl
  by_cases hc : i < N
  · have hc' : (i : Int) < ((N : Nat) : Int) := by omega
    have hc0 : (0 : Int) ≤ i := by omega
    have hw : IntKind.wrap .i64 ((i : Int) + 1) = ((i + 1 : Nat) : Int) := by rw [wrap64 (by omega) (by omega)]; omega
    have helv := encD_length v
    have helU := encD_length (pre ++ (W ++ post))
    have hWl := hp.ad.len
    have hUl : (pre ++ (W ++ post)).length = E := by rw [List.length_append, List.length_append, ho, hWl, hE]
    rw [hUl] at helU
    have h2 := okD_get hp.ad.ok i
    have h1 := okD_get hv i
    have hcy := hp.ad.c1
    have hst := hp.step hv hokW hc
    have hxu := encD_get (l := pre ++ (W ++ post)) (i := o + i) (by omega)
    rw [win_get ho (by omega)] at hxu
    have hiE : o + i < E := by omega
    have hset := fun d : Nat => (encD_set (l := pre ++ (W ++ post)) (i := o + i) (d := d)).trans (by rw [win_set ho (by omega)])
    have hcv1 : IntKind.wrap .u64 ((W.getD i 0 : Nat) : Int) = ((W.getD i 0 : Nat) : Int) := wr64 (by omega)
    have hs1 : IntKind.wrap .u64 ((cy : Int) + ((W.getD i 0 : Nat) : Int)) = ((cy + W.getD i 0 : Nat) : Int) := by rw [← Int.natCast_add, wr64 (by omega)]
    by_cases hiv : i < v.length
    · have hiv' : (i : Int) < v.length := by omega
      have hy := encD_get (l := v) hiv
      have hcv2 : IntKind.wrap .u64 ((v.getD i 0 : Nat) : Int) = ((v.getD i 0 : Nat) : Int) := wr64 (by omega)
      have hs2 : IntKind.wrap .u64 (((cy + W.getD i 0 : Nat) : Int) + ((v.getD i 0 : Nat) : Int)) = ((cy + W.getD i 0 + v.getD i 0 : Nat) : Int) := by rw [← Int.natCast_add, wr64 (by omega)]
      simp only [loopR_succ, ht]
      simp only [a0, a1, a5, a7, a9, a88, a89, hc', hc0, hw, helv, helU, hxu, hiE, hset, hcv1, hs1, hiv', hy, hcv2, hs2, shr64, wrap32m, loopR_succ, loopOf, findLoop, firstRegion, Option.some_or, Option.none_or, Option.getD_some, Option.some.injEq, Tryd.f117, FT, Int.reduceEq, Int.reduceToNat, Int.reduceLE, Int.reduceLT, Int.reduceAdd, Int.reduceMul, Int.reduceSub, Int.reduceNeg, Nat.reduceAdd, Nat.reduceSub, Nat.reduceMul, Nat.reduceLT, Nat.reduceBEq, Nat.reduceEqDiff, Nat.reduceLeDiff]
      exact .inr ⟨_, _, hc, rfl, _, _, (by rfl), (by rfl), (by rfl), (by rfl), (by rfl), (by rfl), (by rfl), hst, rfl⟩
    · have hiv' : ¬ (i : Int) < v.length := by omega
      rw [getD_out (l := v) (i := i) (by omega), Nat.add_zero] at hst
      simp only [loopR_succ, ht]
      simp only [a0, a1, a5, a7, a9, a88, a89, hc', hc0, hw, helv, helU, hxu, hiE, hset, hcv1, hs1, hiv', shr64, wrap32m, loopR_succ, loopOf, findLoop, firstRegion, Option.some_or, Option.none_or, Option.getD_some, Option.some.injEq, Tryd.f117, FT, Int.reduceEq, Int.reduceToNat, Int.reduceLE, Int.reduceLT, Int.reduceAdd, Int.reduceMul, Int.reduceSub, Int.reduceNeg, Nat.reduceAdd, Nat.reduceSub, Nat.reduceMul, Nat.reduceLT, Nat.reduceBEq, Nat.reduceEqDiff, Nat.reduceLeDiff]
      exact .inr ⟨_, _, hc, rfl, _, _, (by rfl), (by rfl), (by rfl), (by rfl), (by rfl), (by rfl), (by rfl), hst, rfl⟩
  · refine .inl ?_
    obtain rfl : i = N := by omega
    have hc' : ¬ (((i : Nat) : Int) < ((i : Nat) : Int)) := by omega
    simp only [loopR_succ, ht]
    simp only [a0, a1, a5, a7, a9, a88, a89, hc', loopR_succ, loopOf, findLoop, firstRegion, Option.some_or, Option.none_or, Option.getD_some, Option.some.injEq, Tryd.f117, FT, Int.reduceEq, Int.reduceToNat, Int.reduceLE, Int.reduceLT, Int.reduceAdd, Int.reduceMul, Int.reduceSub, Int.reduceNeg, Nat.reduceAdd, Nat.reduceSub, Nat.reduceMul, Nat.reduceLT, Nat.reduceBEq, Nat.reduceEqDiff, Nat.reduceLeDiff]
    exact ⟨_, W, cy, rfl, (by rfl), hp⟩
theorem digit_ev (k : Nat) (v W pre post : List Nat) (nl : Bool) (cap : Option Nat) (m o E : Nat) (hv : okD v) (hW : okD W) (hvl : v.length = m + 2) (hWl : W.length = m + 3) (ho : pre.length = o) (hE : E = o + (m + 3 + post.length)) (hE6 : E ≤ 1000000) (hn : 2147483648 ≤ v.getD (m + 1) 0) (hlt : vd W < 4294967296 * vd v) (hk : m + 20 < k) :
    ∃ W', W'.length = m + 3 ∧ okD W' ∧ vd W' = vd W % vd v ∧
      evalT Tryd.prog (mkHints tab) (k+2) (.fn 117) [.hsl 0 o (m + 3) E 1, sD v nl cap] [rD (pre ++ (W ++ post))] = some (.c (.int .u32 ((vd W / vd v : Nat) : Int)), [rD (pre ++ (W' ++ post))]) := by
  have hD := dg_of hv hW hvl hWl hn hlt
  have helv := encD_length v
  have helU := encD_length (pre ++ (W ++ post))
  have hUl : (pre ++ (W ++ post)).length = E := by rw [List.length_append, List.length_append, ho, hWl, hE]
  rw [hUl] at helU
  have hx1 := encD_get (l := pre ++ (W ++ post)) (i := o + (m + 1)) (by omega)
  rw [win_get ho (by omega)] at hx1
  have hx2 := encD_get (l := pre ++ (W ++ post)) (i := o + (m + 2)) (by omega)
  rw [win_get ho (by omega)] at hx2
  have hy1 := encD_get (l := v) (i := m + 1) (by omega)
  have hb1 := hD.b1
  have hc0 := hD.c0
  have hc1 := hD.c1
  have hw2 : IntKind.wrap .i64 (((m + 2 : Nat) : Int) - 1) = ((m + 1 : Nat) : Int) := by rw [wrap64 (by omega) (by omega)]; omega
  have p1 : (0 : Int) ≤ ((m + 1 : Nat) : Int) := by omega
  have p2 : ((m + 1 : Nat) : Int) < ((m + 3 : Nat) : Int) := by omega
  have p3 : (0 : Int) ≤ ((m + 2 : Nat) : Int) := by omega
  have p4 : ((m + 2 : Nat) : Int) < ((m + 3 : Nat) : Int) := by omega
  have p5 : ((m + 1 : Nat) : Int) < ((m + 2 : Nat) : Int) := by omega
  obtain ⟨v1, hv1⟩ : ∃ v1, v1 = v.getD (m + 1) 0 := ⟨_, rfl⟩
  obtain ⟨u0, hu0⟩ : ∃ u0, u0 = W.getD (m + 2) 0 := ⟨_, rfl⟩
  obtain ⟨u1, hu1⟩ : ∃ u1, u1 = W.getD (m + 1) 0 := ⟨_, rfl⟩
  have hfirst := hD.first
  rw [← hv1] at hy1 hb1 hn hfirst
  rw [← hu0] at hx2 hc0 hfirst
  rw [← hu1] at hx1 hc1 hfirst
  obtain ⟨h, hh⟩ : ∃ h, h = u0 * 4294967296 + u1 := ⟨_, rfl⟩
  have hh' : u1 + 4294967296 * u0 = h := by omega
  rw [hh'] at hfirst
  have hcv0 : IntKind.wrap .u64 (u0 : Int) = (u0 : Int) := wr64 (by omega)
  have hcv1 : IntKind.wrap .u64 (u1 : Int) = (u1 : Int) := wr64 (by omega)
  have hcvv : IntKind.wrap .u64 (v1 : Int) = (v1 : Int) := wr64 (by omega)
  have hsl := fun (X : Heap) (t : TypeId) => shl64 (H := X) (t := t) (a := u0) hc0
  have hor := fun (X : Heap) (t : TypeId) => or64 (H := X) (t := t) (a := u0) (b := u1) hc0 hc1
  have hvz : ¬ (v1 : Int) = 0 := by omega
  have hq1 : (h : Int).tdiv (v1 : Int) = ((h / v1 : Nat) : Int) := rfl
  have hq2 : (h : Int).tmod (v1 : Int) = ((h % v1 : Nat) : Int) := rfl
  have hdl := Nat.div_le_self h v1
  have hml := Nat.mod_lt h (show 0 < v1 by omega)
  have hdm := Nat.div_add_mod h v1
  have hqw : IntKind.wrap .u64 ((h / v1 : Nat) : Int) = ((h / v1 : Nat) : Int) := wr64 (by omega)
  have hmd : MdI (v.getD (m + 1) 0) (W.getD (m + 1) 0 + 4294967296 * W.getD (m + 2) 0) (vd W / vd v) (h / v1) (h % v1) 0 := by
    rw [← hv1, ← hu0, ← hu1, hh']
    exact ⟨by rw [Nat.mul_comm]; exact hdm, hfirst, by omega, fun h => by omega, fun h => by omega⟩
  rw [ev117]
  simp only [Tryd.f117, hvl, ii, FT, Int.reduceEq, Int.reduceToNat, Int.reduceLE, Int.reduceLT, Int.reduceAdd, Int.reduceMul, Int.reduceSub, Int.reduceNeg, Nat.reduceAdd, Nat.reduceSub, Nat.reduceMul, Nat.reduceLT, Nat.reduceBEq, Nat.reduceEqDiff, Nat.reduceLeDiff]
  rw [evalCode_drawn Tryd.f117 2 dr117_2]; rotate_left; rfl
  simp (config := { maxSteps := 4000000 }) only [helU, helv, hvl, hw2, p1, p2, p3, p4, p5, hx1, hx2, hcv0, hcv1, hsl, hor, ← hh, EVd, List.getElem?_nil, Nat.reducePow, Nat.reduceDiv, Nat.reduceMod, FT, Int.reduceEq, Int.reduceToNat, Int.reduceLE, Int.reduceLT, Int.reduceAdd, Int.reduceMul, Int.reduceSub, Int.reduceNeg, Nat.reduceAdd, Nat.reduceSub, Nat.reduceMul, Nat.reduceLT, Nat.reduceBEq, Nat.reduceEqDiff, Nat.reduceLeDiff]
  rw [evalCode_drawn Tryd.f117 3 dr117_3]; rotate_left; rfl
  simp (config := { maxSteps := 4000000 }) only [helU, helv, hvl, hw2, p1, p2, p3, p4, p5, hy1, hcvv, hvz, hq1, hq2, hqw, EVd, List.getElem?_nil, Nat.reducePow, Nat.reduceDiv, Nat.reduceMod, FT, Int.reduceEq, Int.reduceToNat, Int.reduceLE, Int.reduceLT, Int.reduceAdd, Int.reduceMul, Int.reduceSub, Int.reduceNeg, Nat.reduceAdd, Nat.reduceSub, Nat.reduceMul, Nat.reduceLT, Nat.reduceBEq, Nat.reduceEqDiff, Nat.reduceLeDiff]
  rw [evalCode_loopB LB117_4 lp117_4]; rotate_left; rfl; rfl; rfl
  generalize hz : loopR _ _ _ _ _ _ _ _ _ _ _ _ = z
  obtain ⟨l', g, rfl, e0, e1, e5, e7, hg1, hg2, hg3⟩ := loop_mend (k + 1) v W pre post nl cap m o E hv hW hvl hWl ho hE hE6 hD (h / v1) (h % v1) hmd _ _ z hz (by omega) (by rfl) (by rw [sD, hvl]; rfl) (by rfl) (by rfl) (by rfl)
  clear hz
  have hdv := Nat.div_add_mod (vd W) (vd v)
  have hVp := hD.pos.1
  have hmv := Nat.mod_lt (vd W) hVp
  obtain ⟨q, hqd⟩ : ∃ q, q = vd W / vd v := ⟨_, rfl⟩
  rw [← hqd] at hdv hg1 hg2 ⊢
  obtain ⟨W1, hW1l, hW1o, hW1v, hls⟩ := less_ev k v W pre post nl cap (m + 3) o E g hv hg3 hWl hW (by omega) ho hE hE6 (by omega)
  simp only [bb] at hls
  have hgm : g % 4294967296 = g := Nat.mod_eq_of_lt hg3
  by_cases hl : vd W < g * vd v
  · have hgq : g = q + 1 := by
      by_cases h : g = q
      · rw [h, Nat.mul_comm] at hl; omega
      · omega
    rw [if_pos hl] at hW1v
    simp only [hl, decide_true] at hls
    have hgd : IntKind.wrap .u64 ((g : Int) - 1) = ((q : Nat) : Int) := by rw [show (g : Int) - 1 = ((q : Nat) : Int) by omega, wr64 (by omega)]
    have hqm : q % 4294967296 = q := Nat.mod_eq_of_lt (by omega)
    simp only [e0, e1, e5, e7, hls, hgd, FT, Int.reduceEq, Int.reduceToNat, Int.reduceLE, Int.reduceLT, Int.reduceAdd, Int.reduceMul, Int.reduceSub, Int.reduceNeg, Nat.reduceAdd, Nat.reduceSub, Nat.reduceMul, Nat.reduceLT, Nat.reduceBEq, Nat.reduceEqDiff, Nat.reduceLeDiff]
    rw [evalCode_loopB LB117_13 lp117_13]; rotate_left; rfl; rfl; rfl
    generalize hz : loopR _ _ _ _ _ _ _ _ _ _ _ _ = z
    obtain ⟨l2, W2, cy, rfl, f7, hI⟩ := loop_back (k + 1) v W1 pre post nl cap (m + 3) o E hv hW1o hW1l (by omega) ho hE hE6 (.int .u64 (q : Int)) _ _ z hz (by omega) (by exact e0) (by exact e1) (by rw [hvl]; exact e5) (by rfl) (by rfl) (by rfl) (by rfl)
    clear hz
    have hv2 := hI.ad.vl
    have hc1' := hI.ad.c1
    have hlt2 := vd_lt hI.ad.ok
    rw [hI.ad.len] at hlt2
    rw [List.take_of_length_le (by rw [hI.ad.len]; exact Nat.le_refl _), List.take_of_length_le (by omega), List.take_of_length_le (by omega)] at hv2
    have hVN := vd_lt hv
    rw [hvl] at hVN
    have hVN2 : 4294967296 ^ (m + 2) ≤ 4294967296 ^ (m + 3) := Nat.pow_le_pow_right (by omega) (by omega)
    rw [hgq, Nat.add_mul, Nat.one_mul, Nat.mul_comm q] at hW1v
    refine ⟨W2, hI.ad.len, hI.ad.ok, ?_, ?_⟩
    · have : cy = 0 ∨ cy = 1 := by omega
      rcases this with rfl | rfl
      · omega
      · omega
    · simp only [f7, wrap32m, hqm, FT, Int.reduceEq, Int.reduceToNat, Int.reduceLE, Int.reduceLT, Int.reduceAdd, Int.reduceMul, Int.reduceSub, Int.reduceNeg, Nat.reduceAdd, Nat.reduceSub, Nat.reduceMul, Nat.reduceLT, Nat.reduceBEq, Nat.reduceEqDiff, Nat.reduceLeDiff]
  · have hgq : g = q := by
      by_cases h : g = q + 1
      · rw [h, Nat.add_mul, Nat.one_mul, Nat.mul_comm q] at hl; omega
      · omega
    rw [if_neg hl] at hW1v
    simp only [hl, decide_false] at hls
    refine ⟨W1, hW1l, hW1o, ?_, ?_⟩
    · rw [hgq, Nat.mul_comm q] at hW1v; omega
    · rw [hgq] at hls e7 hgm
      simp only [e0, e1, e5, e7, hls, wrap32m, hgm, FT, Int.reduceEq, Int.reduceToNat, Int.reduceLE, Int.reduceLT, Int.reduceAdd, Int.reduceMul, Int.reduceSub, Int.reduceNeg, Nat.reduceAdd, Nat.reduceSub, Nat.reduceMul, Nat.reduceLT, Nat.reduceBEq, Nat.reduceEqDiff, Nat.reduceLeDiff]
end
end Go.Proofs.Sw.W
namespace Go.Proofs.Sw.W
open Go.Ab
structure DvI (U0 U O : List Nat) (V n E j : Nat) : Prop where
  ul : U.length = E
  uo : okD U
  ol : O.length = E - n
  oo : okD O
  top : vd (U.drop j) < V
  low : U.take j = U0.take j
  vl : vd (O.drop j) * V + vd (U.drop j) = vd (U0.drop j)
theorem DvI.win {U0 U O : List Nat} {V n E j : Nat} (h : DvI U0 U O V n E (j + 1)) (hj : j + n < E) (hV : V < 4294967296 ^ n) :
    ((U.drop j).take (n + 1)).length = n + 1 ∧ okD ((U.drop j).take (n + 1)) ∧ vd ((U.drop j).take (n + 1)) < 4294967296 * V ∧ vd (U.drop j) = vd ((U.drop j).take (n + 1)) ∧ vd (U.drop (j + n + 1)) = 0 := by
  have h1 := okD_get h.uo j
  have h2 := vd_drop U (j := j) (by rw [h.ul]; omega)
  have h3 := h.top
  have h4 : vd (U.drop j) < 4294967296 * V := by omega
  have h5 : (U.drop j) = (U.drop j).take (n + 1) ++ U.drop (j + n + 1) := by
    rw [show U.drop (j + n + 1) = (U.drop j).drop (n + 1) by rw [List.drop_drop]; rfl, List.take_append_drop]
  have hl : ((U.drop j).take (n + 1)).length = n + 1 := by rw [List.length_take, List.length_drop, h.ul]; omega
  have hok : okD ((U.drop j).take (n + 1)) := fun d hd => h.uo d (List.mem_of_mem_drop (List.mem_of_mem_take hd))
  have h6 : vd (U.drop j) = vd ((U.drop j).take (n + 1)) + 4294967296 ^ (n + 1) * vd (U.drop (j + n + 1)) := by
    conv => lhs; rw [h5, vd_append, hl]
  have h7 : 4294967296 * V < 4294967296 ^ (n + 1) := by rw [Nat.pow_succ, Nat.mul_comm]; omega
  have h8 : vd (U.drop (j + n + 1)) = 0 := by
    by_cases hz : vd (U.drop (j + n + 1)) = 0
    · exact hz
    · have := Nat.mul_le_mul_left (4294967296 ^ (n + 1)) (show 1 ≤ vd (U.drop (j + n + 1)) by omega)
      omega
  rw [h8, Nat.mul_zero, Nat.add_zero] at h6
  exact ⟨hl, hok, by omega, h6, h8⟩
theorem DvI.step {U0 U O W' : List Nat} {V n E j : Nat} (h : DvI U0 U O V n E (j + 1)) (hj : j + n < E) (hV : V < 4294967296 ^ n) (hVp : 0 < V) (hU0 : U0.length = E) (hWl : W'.length = n + 1) (hWo : okD W') (hWv : vd W' = vd ((U.drop j).take (n + 1)) % V) (hq : vd ((U.drop j).take (n + 1)) / V < 4294967296) :
    DvI U0 (U.take j ++ (W' ++ U.drop (j + n + 1))) (O.set j (vd ((U.drop j).take (n + 1)) / V)) V n E j := by
  obtain ⟨_, _, w3, w4, w5⟩ := h.win hj hV
  have hul := h.ul
  have hdl : (U.take j).length = j := by rw [List.length_take]; omega
  have hdr : (U.take j ++ (W' ++ U.drop (j + n + 1))).drop j = W' ++ U.drop (j + n + 1) := by
    have := List.drop_left (l₁ := U.take j) (l₂ := W' ++ U.drop (j + n + 1))
    rwa [hdl] at this
  have hvd : vd (W' ++ U.drop (j + n + 1)) = vd W' := by rw [vd_append, w5, Nat.mul_zero, Nat.add_zero]
  obtain ⟨w, hw⟩ : ∃ w, w = vd ((U.drop j).take (n + 1)) := ⟨_, rfl⟩
  rw [← hw] at hWv hq w3 w4 ⊢
  refine ⟨?_, ?_, by rw [List.length_set]; exact h.ol, okD_set h.oo hq, ?_, ?_, ?_⟩
  · rw [List.length_append, List.length_append, hdl, hWl, List.length_drop]; omega
  · exact okD_append.2 ⟨fun d hd => h.uo d (List.mem_of_mem_take hd), okD_append.2 ⟨hWo, fun d hd => h.uo d (List.mem_of_mem_drop hd)⟩⟩
  · rw [hdr, hvd, hWv]; exact Nat.mod_lt _ hVp
  · have := List.take_left (l₁ := U.take j) (l₂ := W' ++ U.drop (j + n + 1))
    rw [hdl] at this
    rw [this]
    have h2 := congrArg (List.take j) h.low
    rwa [List.take_take, List.take_take, show min j (j + 1) = j by omega] at h2
  · have hg : U.getD j 0 = U0.getD j 0 := by
      have := congrArg (·.getD j 0) h.low
      simpa [List.getD_eq_getElem?_getD, List.getElem?_take] using this
    rw [hdr, hvd, hWv, vd_drop _ (by rw [List.length_set, h.ol]; omega), drop_set, getD_set_self (by rw [h.ol]; omega), vd_drop U0 (by omega), ← h.vl, ← hg]
    have h2 := vd_drop U (j := j) (by omega)
    have h3 := Nat.div_add_mod w V
    rw [Nat.add_mul, Nat.mul_assoc, Nat.mul_add, Nat.mul_comm (w / V)]
    omega
section
variable [Globals]
theorem sliceU {U : List Nat} {X : Heap} {E j m : Nat} (hU : U.length = E) (h : j + (m + 3) ≤ E) : sliceO (rD U :: X) 1 (.hsl 0 0 E E 1) (some (.c (.int .i64 (j : Int)))) (some (.c (.int .i64 ((j + (m + 3) : Nat) : Int)))) = some (.hsl 0 j (m + 3) E 1) := by
  have b1 : boundA E (some (.c (.int .i64 ((j + (m + 3) : Nat) : Int)))) = some (j + (m + 3)) := by
    show (if 0 ≤ ((j + (m + 3) : Nat) : Int) then some (((j + (m + 3) : Nat) : Int)).toNat else none) = _
    rw [if_pos (by omega), Int.toNat_natCast]
  have b2 : boundA 0 (some (.c (.int .i64 (j : Int)))) = some j := by
    show (if 0 ≤ (j : Int) then some (j : Int).toNat else none) = _
    rw [if_pos (by omega), Int.toNat_natCast]
  have hr : rowOf (rD U :: X) 0 E = some (117, encD U) := rowOf_eq (fz := false) rfl (by rw [encD_length, hU])
  simp only [sliceO, b1, b2, Option.bind_some, hr]
  rw [if_pos ⟨by omega, by omega, by omega, trivial, rfl⟩, if_neg (by omega)]
  simp only [Nat.mul_one, Nat.zero_add]
  rw [show j + (m + 3) - j = m + 3 by omega]
set_option maxHeartbeats 8000000 in
theorem loop_div (kf : Nat) (v U0 : List Nat) (x12 : AV) (nl : Bool) (cap : Option Nat) (m E s : Nat) (hv : okD v) (hvl : v.length = m + 2) (hn : 2147483648 ≤ v.getD (m + 1) 0) (hU0 : U0.length = E) (hEm : m + 2 < E) (hE6 : E ≤ 1000000) (hkf : m + 20 < kf) (O0 : List Nat) (h0 : DvI U0 U0 O0 (vd v) (m + 2) E (E - (m + 2))) (k : Nat) (l : Ass) (z : Option Out) (hz : loopR Tryd.prog tab (kf + 2) none LB103_16 103 106 [10, 11, 13, 15, 16, 17] 3 k l ([rD U0, rD [0], rD O0]) = z) (hk : E - (m + 2) < k) (a10 : asc l 10 = ii s) (a11 : asc l 11 = sD v nl cap) (a13 : asc l 13 = .hsl 0 0 E E 1) (a15 : asc l 15 = ii (m + 2 : Nat)) (a16 : asc l 16 = .hsl 2 0 (E - (m + 2)) (E - (m + 2)) 1) (a17 : asc l 17 = ii ((E : Int) - (m + 2 : Nat) - 1 - 0)) :
    ∃ l' U O, z = some (.exit 0 (fr 106 l') [rD U, rD [0], rD O]) ∧ asc l' 10 = ii s ∧ asc l' 13 = .hsl 0 0 E E 1 ∧ asc l' 16 = .hsl 2 0 (E - (m + 2)) (E - (m + 2)) 1 ∧ DvI U0 U O (vd v) (m + 2) E 0 := by
  subst hz
  refine loop_nat (E - (m + 2)) (fun k l H => loopR Tryd.prog tab (kf + 2) none LB103_16 103 106 [10, 11, 13, 15, 16, 17] 3 k l H)
    (fun i l H => ∃ (U : List Nat), ∃ (O : List Nat), asc l 10 = ii s ∧ asc l 11 = sD v nl cap ∧ asc l 13 = .hsl 0 0 E E 1 ∧ asc l 15 = ii (m + 2 : Nat) ∧ asc l 16 = .hsl 2 0 (E - (m + 2)) (E - (m + 2)) 1 ∧ asc l 17 = ii ((E : Int) - (m + 2 : Nat) - 1 - i) ∧ (DvI U0 U O (vd v) (m + 2) E (E - (m + 2) - i)) ∧ H = ([rD U, rD [0], rD O]))
    (fun z => ∃ l' U O, z = some (.exit 0 (fr 106 l') [rD U, rD [0], rD O]) ∧ asc l' 10 = ii s ∧ asc l' 13 = .hsl 0 0 E E 1 ∧ asc l' 16 = .hsl 2 0 (E - (m + 2)) (E - (m + 2)) 1 ∧ DvI U0 U O (vd v) (m + 2) E 0) ?_ (E - (m + 2)) 0 k l _ (by omega) hk ⟨U0, O0, a10, a11, a13, a15, a16, a17, h0, rfl⟩
  clear hk a10 a11 a13 a15 a16 a17
  rintro i k l H hi ⟨U, O, a10, a11, a13, a15, a16, a17, hp, rfl⟩
  have ht : trim 3 (fr 106 (keep l [10, 11, 13, 15, 16, 17])) ([rD U, rD [0], rD O]) = ([rD U, rD [0], rD O]) := by
    exact trim_same rfl
  by_cases hc : i < (E - (m + 2))
  · have hc' : (i : Int) < ((E - (m + 2) : Nat) : Int) := by omega
    have hc0 : (0 : Int) ≤ i := by omega
    have hw : IntKind.wrap .i64 ((i : Int) + 1) = ((i + 1 : Nat) : Int) := by rw [wrap64 (by omega) (by omega)]; omega
    obtain ⟨j, hj⟩ : ∃ j, E - (m + 2) = j + 1 + i := ⟨E - (m + 2) - 1 - i, by omega⟩
    have e1 : E - (m + 2) - i = j + 1 := by omega
    have e2 : E - (m + 2) - (i + 1) = j := by omega
    have e3 : (E : Int) - (m + 2 : Nat) - 1 - (i : Int) = (j : Int) := by omega
    have e4 : (E : Int) - (m + 2 : Nat) - 1 - ((i + 1 : Nat) : Int) = (j : Int) - 1 := by omega
    rw [e3] at a17
    rw [e1] at hp
    rw [e2, e4]
    have hjE : j + (m + 2) < E := by omega
    have hVl := vd_lt hv
    rw [hvl] at hVl
    have hVp : 0 < vd v := by
      have := vd_top2 hvl
      have h2 : 0 < 4294967296 ^ m * (v.getD m 0 + 4294967296 * v.getD (m + 1) 0) := Nat.mul_pos (Nat.pow_pos (by omega)) (by omega)
      omega
    obtain ⟨w1, w2, w3, w4, w5⟩ := hp.win hjE hVl
    have hUl := hp.ul
    have hOl := hp.ol
    have hpre : (U.take j).length = j := by rw [List.length_take]; omega
    obtain ⟨W', d1, d2, d3, hdg⟩ := digit_ev kf v ((U.drop j).take (m + 2 + 1)) (U.take j) (U.drop (j + (m + 2) + 1)) nl cap m j E hv w2 hvl w1 hpre (by rw [List.length_drop, hUl]; omega) hE6 hn w3 hkf
    have hUe : U.take j ++ ((U.drop j).take (m + 2 + 1) ++ U.drop (j + (m + 2) + 1)) = U := by
      rw [show U.drop (j + (m + 2) + 1) = (U.drop j).drop (m + 2 + 1) by rw [List.drop_drop]; rfl, List.take_append_drop, List.take_append_drop]
    rw [hUe] at hdg
    have hqB : vd ((U.drop j).take (m + 2 + 1)) / vd v < 4294967296 := by rw [Nat.div_lt_iff_lt_mul hVp]; exact w3
    have hst := hp.step hjE hVl hVp hU0 d1 d2 d3 hqB
    obtain ⟨U', hU'⟩ : ∃ U', U' = U.take j ++ (W' ++ U.drop (j + (m + 2) + 1)) := ⟨_, rfl⟩
    obtain ⟨q, hqd⟩ : ∃ q, q = vd ((U.drop j).take (m + 2 + 1)) / vd v := ⟨_, rfl⟩
    rw [← hU', ← hqd] at hdg hst
    have helU := encD_length U
    have helU' := encD_length U'
    have helO := encD_length O
    have hU'l := hst.ul
    have hj0 : (0 : Int) ≤ j := by omega
    have hw2 : IntKind.wrap .i64 ((j : Int) - 1) = (j : Int) - 1 := by rw [wrap64 (by omega) (by omega)]
    have hw3 : IntKind.wrap .i64 ((j : Int) + ((m + 2 : Nat) : Int)) = ((j + (m + 2) : Nat) : Int) := by rw [wrap64 (by omega) (by omega)]; omega
    have hw4 : IntKind.wrap .i64 (((j + (m + 2) : Nat) : Int) + 1) = ((j + (m + 3) : Nat) : Int) := by rw [wrap64 (by omega) (by omega)]; omega
    have hjq : j < E - (m + 2) := by omega
    have hjq' : (j : Int) < ((E - (m + 2) : Nat) : Int) := by omega
    have hset := encD_set (l := O) (i := j) (d := q)
    have hslc := fun X : Heap => sliceU (X := X) (j := j) (m := m) hUl (by omega)
    simp only [loopR_succ, ht]
    simp only [a10, a11, a13, a15, a16, a17, hj0, hw2, hw3, hw4, hslc, hdg, helU, hUl, helU', hU'l, helO, hOl, hjq, hjq', hset, loopR_succ, loopOf, findLoop, firstRegion, Option.some_or, Option.none_or, Option.getD_some, Option.some.injEq, Tryd.f103, FT, Int.reduceEq, Int.reduceToNat, Int.reduceLE, Int.reduceLT, Int.reduceAdd, Int.reduceMul, Int.reduceSub, Int.reduceNeg, Nat.reduceAdd, Nat.reduceSub, Nat.reduceMul, Nat.reduceLT, Nat.reduceBEq, Nat.reduceEqDiff, Nat.reduceLeDiff]
    exact .inr ⟨_, _, hc, rfl, U', _, (by rfl), (by rfl), (by rfl), (by rfl), (by rfl), (by rfl), hst, rfl⟩
  · refine .inl ?_
    obtain rfl : i = (E - (m + 2)) := by omega
    have hc' : ¬ ((((E - (m + 2)) : Nat) : Int) < (((E - (m + 2)) : Nat) : Int)) := by omega
    have hlt : ¬ ((0 : Int) ≤ (E : Int) - (m + 2 : Nat) - 1 - (E - (m + 2) : Nat)) := by omega
    rw [Nat.sub_self] at hp
    simp only [loopR_succ, ht]
    simp only [a10, a11, a13, a15, a16, a17, hlt, loopR_succ, loopOf, findLoop, firstRegion, Option.some_or, Option.none_or, Option.getD_some, Option.some.injEq, Tryd.f103, FT, Int.reduceEq, Int.reduceToNat, Int.reduceLE, Int.reduceLT, Int.reduceAdd, Int.reduceMul, Int.reduceSub, Int.reduceNeg, Nat.reduceAdd, Nat.reduceSub, Nat.reduceMul, Nat.reduceLT, Nat.reduceBEq, Nat.reduceEqDiff, Nat.reduceLeDiff]
    exact ⟨_, U, O, rfl, (by rfl), (by rfl), (by rfl), hp⟩
end
end Go.Proofs.Sw.W
namespace Go.Proofs.Sw.W
open Go.Ab
theorem norm_shift {b : List Nat} {m s : Nat} (hb : okD b) (hbl : b.length = m + 2) (h1 : 2147483648 ≤ b.getD (m + 1) 0 * 2 ^ s) (h2 : b.getD (m + 1) 0 * 2 ^ s < 4294967296) (hs : s < 32) :
    (dig (vd b * 2 ^ s)).length = m + 2 ∧ 2147483648 ≤ (dig (vd b * 2 ^ s)).getD (m + 1) 0 ∧ 4294967296 ^ (m + 1) ≤ vd b * 2 ^ s := by
  obtain ⟨t, ht⟩ : ∃ t, t = b.getD (m + 1) 0 := ⟨_, rfl⟩
  rw [← ht] at h1 h2
  have hp : 0 < 2 ^ s := Nat.pow_pos (by omega)
  have hb1 := vd_take b (m + 1)
  rw [List.take_of_length_le (by omega), ← ht] at hb1
  have hb2 := take_lt hb (m + 1)
  obtain ⟨X, hX⟩ : ∃ X, X = 4294967296 ^ (m + 1) := ⟨_, rfl⟩
  rw [← hX] at hb1 hb2 ⊢
  have hXp : 0 < X := by rw [hX]; exact Nat.pow_pos (by omega)
  have ht1 : (t + 1) * 2 ^ s ≤ 4294967296 := by
    rw [pow_s hs, Nat.mul_comm (2 ^ s)]
    refine Nat.mul_le_mul_right _ ?_
    by_cases h : t + 1 ≤ 2 ^ (32 - s)
    · exact h
    · exfalso
      have := Nat.mul_le_mul_right (2 ^ s) (show 2 ^ (32 - s) ≤ t by omega)
      rw [Nat.mul_comm, ← pow_s hs] at this
      omega
  obtain ⟨V, hV⟩ : ∃ V, V = vd b * 2 ^ s := ⟨_, rfl⟩
  rw [← hV]
  have hlo : X * 2147483648 ≤ V := by
    have e1 := Nat.mul_le_mul_left X h1
    have e2 : X * (t * 2 ^ s) ≤ V := by
      rw [hV, ← Nat.mul_assoc]
      exact Nat.mul_le_mul_right _ (by omega)
    omega
  have hhi : V < 4294967296 ^ (m + 2) := by
    have e1 : vd b < X * (t + 1) := by rw [Nat.mul_add, Nat.mul_one]; omega
    have e2 : V < X * (t + 1) * 2 ^ s := by rw [hV]; exact Nat.mul_lt_mul_of_pos_right e1 hp
    have e3 : X * (t + 1) * 2 ^ s ≤ X * 4294967296 := by rw [Nat.mul_assoc]; exact Nat.mul_le_mul_left _ ht1
    have e4 : 4294967296 ^ (m + 2) = X * 4294967296 := by rw [hX, ← Nat.pow_succ]
    omega
  have hl1 := dig_len hhi
  have hvv := vd_dig V
  have hok := (can_dig V).ok
  have hl2 : (dig V).length = m + 2 := by
    by_cases h : (dig V).length ≤ m + 1
    · exfalso
      have h3 := vd_lt hok
      have h4 : 4294967296 ^ (dig V).length ≤ 4294967296 ^ (m + 1) := Nat.pow_le_pow_right (by omega) h
      rw [← hX] at h4
      omega
    · omega
  refine ⟨hl2, ?_, by omega⟩
  have hv1 := vd_take (dig V) (m + 1)
  rw [List.take_of_length_le (by omega), ← hX, hvv] at hv1
  have hv2 := take_lt hok (m + 1)
  rw [← hX] at hv2
  by_cases h : 2147483648 ≤ (dig V).getD (m + 1) 0
  · exact h
  · exfalso
    have e1 := Nat.mul_le_mul_left X (show (dig V).getD (m + 1) 0 + 1 ≤ 2147483648 by omega)
    rw [Nat.mul_add, Nat.mul_one] at e1
    omega
theorem div_start {A v : List Nat} {m : Nat} (hA : okD A) (hAl : m + 2 ≤ A.length) (hV : 4294967296 ^ (m + 1) ≤ vd v) : DvI (A ++ [0]) (A ++ [0]) (List.replicate (A.length + 1 - (m + 2)) 0) (vd v) (m + 2) (A.length + 1) (A.length + 1 - (m + 2)) := by
  refine ⟨by simp, okD_append.2 ⟨hA, fun d hd => by rw [List.mem_singleton.1 hd]; omega⟩, by simp, fun d hd => by rw [List.eq_of_mem_replicate hd]; omega, ?_, rfl, ?_⟩
  · rw [List.drop_append_of_le_length (by omega), vd_snoc, Nat.mul_zero, Nat.add_zero]
    have h1 : vd (A.drop (A.length + 1 - (m + 2))) < 4294967296 ^ (A.drop (A.length + 1 - (m + 2))).length := vd_lt fun d hd => hA d (List.mem_of_mem_drop hd)
    rw [List.length_drop, show A.length - (A.length + 1 - (m + 2)) = m + 1 by omega] at h1
    omega
  · rw [List.drop_of_length_le (by simp)]
    simp [vd]
theorem div_done {A U O : List Nat} {a b s n E : Nat} (hb : 0 < b) (h : DvI (A ++ [0]) U O (b * 2 ^ s) n E 0) (hA : vd A = a * 2 ^ s) : vd O = a / b ∧ vd U / 2 ^ s = a % b := by
  have hp : 0 < 2 ^ s := Nat.pow_pos (by omega)
  have hVp : 0 < b * 2 ^ s := Nat.mul_pos hb hp
  have h1 := h.vl
  have h2 := h.top
  rw [List.drop_zero, List.drop_zero, List.drop_zero, vd_snoc, Nat.mul_zero, Nat.add_zero, hA] at h1
  rw [List.drop_zero] at h2
  constructor
  · have e1 : (vd U + vd O * (b * 2 ^ s)) / (b * 2 ^ s) = vd U / (b * 2 ^ s) + vd O := Nat.add_mul_div_right _ _ hVp
    rw [Nat.add_comm, h1, Nat.mul_div_mul_right _ _ hp, Nat.div_eq_of_lt h2] at e1
    omega
  · have e1 : (vd U + vd O * (b * 2 ^ s)) % (b * 2 ^ s) = vd U % (b * 2 ^ s) := Nat.add_mul_mod_self_right ..
    rw [Nat.add_comm, h1, Nat.mul_mod_mul_right, Nat.mod_eq_of_lt h2] at e1
    rw [← e1, Nat.mul_div_cancel _ hp]
section
variable [Globals]
theorem apU {A : List Nat} {X : Heap} {nl : Bool} (hA : A.length ≤ 1000000) : apO 117 1 4 (some 0) (sD A nl (some A.length)) (.slot :: X) (some ([.int .u32 0], 1)) = some (.hsl 0 0 (A.length + 1) ((A.length + 1) * 1) 1, rD (A ++ [0]) :: X) := by
  have h1 : (A.length + 1) * 4 ≤ roomBytes := Nat.le_trans (show (A.length + 1) * 4 ≤ 4000004 by omega) (by decide)
  have h2 : encD (A ++ [0]) = encD A ++ [.int .u32 0] := by rw [encD_append]; rfl
  unfold apO
  simp only [Option.bind_some]
  rw [if_neg (by omega), if_pos ⟨by omega, h1, by rw [encD_length, Nat.mul_one]⟩]
  rw [← h2]
  rfl
theorem div_ev (k : Nat) (a b : List Nat) (nl nl2 : Bool) (cap cap2 : Option Nat) (ha : okD a) (hb : Can b) (hb0 : b ≠ []) (hla : a.length ≤ 50000) (hlb : b.length ≤ 50000) (hk : a.length + b.length + 100 < k) :
    ∃ nl3 cap3 nl4 cap4, run (k+5) 103 [sD a nl cap, sD b nl2 cap2] = some (.tup [sD (dig (vd a / vd b)) nl3 cap3, sD (dig (vd a % vd b)) nl4 cap4, ii 0]) := by
  have htb := trim_ev (k + 3) b nl2 cap2 (by omega) (by omega)
  rw [hb.tr] at htb
  have hcm := cmp_can (k + 2) a b nl nl2 cap (some b.length) ha hb.ok (by omega) (by omega) (by omega)
  have hbl : 0 < b.length := List.length_pos_iff.2 hb0
  have hbz : ¬ (b.length : Int) = 0 := by omega
  have hlast := trim_last (l := b) (by rw [hb.tr]; exact hb0)
  rw [hb.tr] at hlast
  have hbp : 0 < vd b := by
    by_cases h : vd b = 0
    · exact absurd (can_zero hb h) hb0
    · omega
  simp only [run, ii] at htb hcm
  by_cases hlt : vd a < vd b
  · obtain ⟨nl3, cap3, hno⟩ := norm_ev (k + 2) a nl cap (by omega) (by omega)
    rw [dig_of ha] at hno
    have hc0 : cmpN (vd a) (vd b) < 0 := by unfold cmpN; rw [if_pos hlt]; decide
    rw [Nat.div_eq_of_lt hlt, Nat.mod_eq_of_lt hlt]
    refine ⟨true, some 0, nl3, cap3, ?_⟩
    simp only [run] at hno
    rw [run, ev103, ans_trim]
    simp only [Tryd.f103, ii, htb, hbz, hcm, hc0, hno, FT, Int.reduceEq, Int.reduceToNat, Int.reduceLE, Int.reduceLT, Int.reduceAdd, Int.reduceMul, Int.reduceSub, Int.reduceNeg, Nat.reduceAdd, Nat.reduceSub, Nat.reduceMul, Nat.reduceLT, Nat.reduceBEq, Nat.reduceEqDiff, Nat.reduceLeDiff]
    try rfl
  · have hc0 : ¬ cmpN (vd a) (vd b) < 0 := by unfold cmpN; rw [if_neg hlt]; split <;> decide
    by_cases h1 : b.length = 1
    · obtain ⟨d, hd⟩ : ∃ d, b = [d] := List.length_eq_one_iff.1 h1
      subst hd
      have hdv : vd [d] = d := by simp [vd]
      have hdB : d < 4294967296 := hb.ok d (by simp)
      have hd0 : 0 < d := by omega
      rw [hdv] at hc0 ⊢
      have hds := divs_ev (k + 2) a d nl cap ha hd0 hdB (by omega) (by omega)
      have hr := Nat.mod_lt (vd a) hd0
      obtain ⟨nl3, cap3, hno⟩ := norm_ev (k + 2) [vd a % d] false none (by simp) (by simp)
      have hro : okD [vd a % d] := fun x hx => by rw [List.mem_singleton.1 hx]; omega
      have hdo := dig_of hro
      rw [show vd [vd a % d] = vd a % d by simp [vd]] at hdo
      rw [hdo] at hno
      obtain ⟨H2, hdsx, _, hold⟩ := hand1 (k := k + 4) (f := 103) (r := 8) (i := 3) (id := 1) (g := 105) (a := [vd a % d]) (H := [.slot, rD [vd a % d]]) (by rfl) (by rfl) (by rfl) hno
      refine ⟨false, some (dig (vd a / d)).length, nl3, cap3, ?_⟩
      have henc : encD [vd a % d] = [.int .u32 ((vd a % d : Nat) : Int)] := rfl
      have henb : encD [d] = [.int .u32 (d : Int)] := rfl
      simp only [run, ii, sD, henb, List.length_cons, List.length_nil, Nat.reduceAdd] at hds htb hcm
      simp only [run, sD, rD, henc, List.length_cons, List.length_nil, Nat.reduceAdd] at hno hdsx
      rw [run, ev103, ans_trim]
      simp only [Tryd.f103, ii, sD, henb, List.length_cons, List.length_nil, htb, hcm, hdv, hc0, hds, hno, hdsx, strict_slice, strict_c, strict1_c, strict0_c, Nat.le_refl, FT, Int.reduceEq, Int.reduceToNat, Int.reduceLE, Int.reduceLT, Int.reduceAdd, Int.reduceMul, Int.reduceSub, Int.reduceNeg, Nat.reduceAdd, Nat.reduceSub, Nat.reduceMul, Nat.reduceLT, Nat.reduceBEq, Nat.reduceEqDiff, Nat.reduceLeDiff]
    · obtain ⟨m, hm⟩ : ∃ m, b.length = m + 2 := ⟨b.length - 2, by omega⟩
      have h1' : ¬ ((m + 2 : Nat) : Int) = 1 := by omega
      have h0' : ¬ ((m + 2 : Nat) : Int) = 0 := by omega
      have htl : b.getD (m + 1) 0 ≠ 0 := by rw [hm] at hlast; exact hlast
      have htB := okD_get hb.ok (m + 1)
      obtain ⟨s, hlz, hs32, hs1, hs2⟩ := lz32_ev (k + 2) (b.getD (m + 1) 0) (by omega) htB
      obtain ⟨g1, g2, g3⟩ := norm_shift hb.ok hm hs1 hs2 hs32
      have hsb := shl_ev (k + 2) b s nl2 (some b.length) hb.ok (by omega) (by omega) (by omega)
      have hsa := shl_ev (k + 2) a s nl cap ha (by omega) (by omega) (by omega)
      obtain ⟨V, hV⟩ : ∃ V, V = dig (vd b * 2 ^ s) := ⟨_, rfl⟩
      obtain ⟨A, hA⟩ : ∃ A, A = dig (vd a * 2 ^ s) := ⟨_, rfl⟩
      have hVv : vd V = vd b * 2 ^ s := by rw [hV, vd_dig]
      have hAv : vd A = vd a * 2 ^ s := by rw [hA, vd_dig]
      have hVo : okD V := by rw [hV]; exact (can_dig _).ok
      have hAo : okD A := by rw [hA]; exact (can_dig _).ok
      have hAl : m + 2 ≤ A.length := by
        rw [hA, ← g1]
        exact dig_len_mono (Nat.mul_le_mul_right _ (by omega))
      have hAu : A.length ≤ a.length + 1 := by
        rw [hA]
        refine dig_len ?_
        have h3 := vd_lt ha
        have h4 : 2 ^ s < 4294967296 := Nat.lt_of_lt_of_le (Nat.pow_lt_pow_right (by omega) hs32) (by decide)
        rw [Nat.pow_succ]
        exact Nat.mul_lt_mul'' h3 h4
      rw [← hV] at g1 g2 hsb
      rw [← hA] at hsa
      rw [← hVv] at g3
      have hst := div_start hAo hAl g3
      have hw1 : IntKind.wrap .i64 (((m + 2 : Nat) : Int) - 1) = ((m + 1 : Nat) : Int) := by rw [wrap64 (by omega) (by omega)]; omega
      have hw2 : IntKind.wrap .i64 (((A.length + 1 : Nat) : Int) - ((m + 2 : Nat) : Int)) = ((A.length + 1 - (m + 2) : Nat) : Int) := by rw [wrap64 (by omega) (by omega)]; omega
      have hw3 : IntKind.wrap .i64 (((A.length + 1 - (m + 2) : Nat) : Int) - 1) = ((A.length + 1 - (m + 2) : Nat) : Int) - 1 := by rw [wrap64 (by omega) (by omega)]
      have p1 : (0 : Int) ≤ ((m + 1 : Nat) : Int) := by omega
      have p2 : ((m + 1 : Nat) : Int) < ((m + 2 : Nat) : Int) := by omega
      have hbx := encD_get (l := b) (i := m + 1) (by omega)
      have helb := encD_length b
      have q1 : (0 : Int) ≤ ((A.length + 1 - (m + 2) : Nat) : Int) := by omega
      have q2 : (A.length + 1 - (m + 2)) * 4 ≤ roomBytes := Nat.le_trans (show (A.length + 1 - (m + 2)) * 4 ≤ 4000000 by omega) (by decide)
      have q3 : A.length + 1 - (m + 2) ≤ roomBytes := Nat.le_trans (show A.length + 1 - (m + 2) ≤ 1000000 by omega) (by decide)
      have hap := fun X : Heap => apU (A := A) (X := X) (nl := false) (by omega)
      simp only [run, ii, sD, hm, g1] at hlz hsb hsa htb hcm
      rw [run, ev103, ans_trim]
      simp only [Tryd.f103, ii, sD, hm, h1', h0', htb, hcm, hc0, hw1, p1, p2, hbx, helb, hlz, hsb, hsa, hap, hw2, hw3, q1, q2, q3, encD_rep0, g1, FT, Int.reduceEq, Int.reduceToNat, Int.reduceLE, Int.reduceLT, Int.reduceAdd, Int.reduceMul, Int.reduceSub, Int.reduceNeg, Nat.reduceAdd, Nat.reduceSub, Nat.reduceMul, Nat.reduceLT, Nat.reduceBEq, Nat.reduceEqDiff, Nat.reduceLeDiff]
      rw [evalCode_loopB LB103_16 lp103_16]; rotate_left; rfl; rfl; rfl
      generalize hz : loopR _ _ _ _ _ _ _ _ _ _ _ _ = z
      obtain ⟨l', U, O, rfl, e10, e13, e16, hI⟩ := loop_div (k + 2) V (A ++ [0]) (.c (.int .i64 0)) false (some (m + 2)) m (A.length + 1) s hVo g1 g2 (by simp) (by omega) (by omega) (by omega) _ hst _ _ z hz (by omega) (by rfl) (by rw [sD, g1]; rfl) (by rfl) (by rfl) (by rfl) (by
        rw [show ((A.length + 1 : Nat) : Int) - ((m + 2 : Nat) : Int) - 1 - 0 = ((A.length + 1 - (m + 2) : Nat) : Int) - 1 by omega]; rfl)
      clear hz
      rw [hVv] at hI
      obtain ⟨r1, r2⟩ := div_done hbp hI hAv
      have hUl := hI.ul
      have hOl := hI.ol
      have hdO := dig_of hI.oo
      rw [r1] at hdO
      obtain ⟨nl4, cap4, hsr⟩ := shr_ev (k + 2) U s false none hI.uo hs32 (by omega) (by omega)
      rw [r2] at hsr
      obtain ⟨H2, hd1, hl2, hold⟩ := hand12 (k := k + 4) (f := 103) (r := 19) (i := 2) (id := 0) (g := 118) (a := U) (x := .int .i64 (s : Int)) (H := [rD U, rD [0], rD O]) (by rfl) (by rfl) (by rfl) hsr
      have h22 := hold 2 (by omega)
      simp only [List.getElem?_cons_zero, List.getElem?_cons_succ] at h22
      obtain ⟨H3, hd2, _, _⟩ := trim_call (k := k + 3) (f := 103) (r := 20) (i := 1) (id := 2) (a := O) (H := H2) h22 (by omega) (by omega)
      have htr := trim_ev (k + 3) O false none (by omega) (by omega)
      rw [hdO] at hd2 htr
      have helU := encD_length U
      have helO := encD_length O
      have htU : (encD U).take U.length = encD U := List.take_of_length_le (by rw [helU]; exact Nat.le_refl _)
      have htO : (encD O).take O.length = encD O := List.take_of_length_le (by rw [helO]; exact Nat.le_refl _)
      refine ⟨false, some (dig (vd a / vd b)).length, nl4, cap4, ?_⟩
      simp only [run, ii, sD, rD, hUl, hOl] at hsr hd1 htr hd2 helU helO htU htO h22
      simp only [e10, e13, e16, ii, hsr, hd1, htr, hd2, helU, helO, htU, htO, h22, strict_slice, strict_c, strict1_c, strict0_c, strict_tup, Nat.le_refl, FT, Int.reduceEq, Int.reduceToNat, Int.reduceLE, Int.reduceLT, Int.reduceAdd, Int.reduceMul, Int.reduceSub, Int.reduceNeg, Nat.reduceAdd, Nat.reduceSub, Nat.reduceMul, Nat.reduceLT, Nat.reduceBEq, Nat.reduceEqDiff, Nat.reduceLeDiff]
end
end Go.Proofs.Sw.W
