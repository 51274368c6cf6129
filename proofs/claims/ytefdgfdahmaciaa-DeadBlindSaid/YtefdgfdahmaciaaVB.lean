/- A part of the proof: what functions of the program answer; conditions stand in each theorem. -/
import Derived.Test.YtefdgfdahmaciaaVA
set_option linter.unusedVariables false
set_option linter.unusedSimpArgs false
set_option linter.unusedSectionVars false
namespace Go.Proofs.Sw.W
open Go.Ab
structure MuI (b O : List Nat) (V x p L c k : Nat) : Prop where
  len : O.length = L
  ok : okD O
  cb : c < 4294967296
  z : ∀ j, p + b.length ≤ j → O.getD j 0 = 0
  vl : vd O + 4294967296 ^ (p + k) * c = V + 4294967296 ^ p * (x * vd (b.take k))
theorem mul_le32 {x y : Nat} (hx : x < 4294967296) (hy : y < 4294967296) : x * y ≤ 18446744065119617025 := by
  have := Nat.mul_le_mul (show x ≤ 4294967295 by omega) (show y ≤ 4294967295 by omega)
  exact this
theorem MuI.step {b O : List Nat} {V x p L c k : Nat} (h : MuI b O V x p L c k) (hb : okD b) (hx : x < 4294967296) (hk : k < b.length) (hL : p + b.length < L) :
    c + (x * b.getD k 0 + O.getD (p + k) 0) < 18446744073709551616 ∧ MuI b (O.set (p + k) ((c + (x * b.getD k 0 + O.getD (p + k) 0)) % 4294967296)) V x p L ((c + (x * b.getD k 0 + O.getD (p + k) 0)) / 4294967296) (k + 1) := by
  have h1 := okD_get hb k
  have h2 := okD_get h.ok (p + k)
  have h3 := h.cb
  have h4 := mul_le32 hx h1
  obtain ⟨s, hs⟩ : ∃ s, s = c + (x * b.getD k 0 + O.getD (p + k) 0) := ⟨_, rfl⟩
  rw [← hs]
  refine ⟨by omega, by rw [List.length_set]; exact h.len, okD_set h.ok (by omega), by omega, fun j hj => ?_, ?_⟩
  · rw [getD_set_ne (by omega)]; exact h.z j hj
  · have hv := h.vl
    have hset := vd_set O (p + k) (s % 4294967296) (by rw [h.len]; omega)
    obtain ⟨B, hB⟩ : ∃ B, B = 4294967296 ^ (p + k) := ⟨_, rfl⟩
    have e1 : 4294967296 ^ (p + (k + 1)) * (s / 4294967296) = B * (4294967296 * (s / 4294967296)) := by rw [← Nat.add_assoc, Nat.pow_succ, Nat.mul_assoc, hB]
    have e2 : B * (s % 4294967296) + B * (4294967296 * (s / 4294967296)) = B * s := by rw [← Nat.mul_add]; congr 1; omega
    have e3 : B * s = B * c + (B * (x * b.getD k 0) + B * O.getD (p + k) 0) := by rw [hs, Nat.mul_add, Nat.mul_add]
    have e4 : 4294967296 ^ p * (x * (4294967296 ^ k * b.getD k 0)) = B * (x * b.getD k 0) := by
      rw [hB, Nat.pow_add, Nat.mul_left_comm x, Nat.mul_assoc]
    rw [vd_take, Nat.mul_add, Nat.mul_add, e4, e1]
    rw [← hB] at hset hv
    omega
structure MuO (a b O : List Nat) (L i : Nat) : Prop where
  len : O.length = L
  ok : okD O
  z : ∀ j, i + b.length ≤ j → O.getD j 0 = 0
  vl : vd O = vd (a.take i) * vd b
theorem MuO.next {a b O : List Nat} {L i c V : Nat} (h0 : V = vd (a.take i) * vd b) (h : MuI b O V (a.getD i 0) i L c b.length) (hL : i + b.length < L) : MuO a b (O.set (i + b.length) c) L (i + 1) := by
  refine ⟨by rw [List.length_set]; exact h.len, okD_set h.ok h.cb, fun j hj => ?_, ?_⟩
  · rw [getD_set_ne (by omega)]; exact h.z j (by omega)
  · have hv := h.vl
    have hset := vd_set O (i + b.length) c (by rw [h.len]; exact hL)
    rw [h.z _ (Nat.le_refl _)] at hset
    rw [List.take_of_length_le (Nat.le_refl _)] at hv
    rw [vd_take, Nat.add_mul, Nat.mul_assoc, ← h0]
    omega
section
variable [Globals]
theorem loop_mul7 (kf : Nat) (a b : List Nat) (nl nl2 : Bool) (cap cap2 : Option Nat) (hb : okD b) (V x p L : Nat) (hx : x < 4294967296) (hpL : p + b.length < L) (hL6 : L ≤ 1000000) (O0 : List Nat) (h0 : MuI b O0 V x p L 0 0) (k : Nat) (l : Ass) (z : Option Out) (hz : loopR Try.prog tab kf none LB133_7 133 67 [1, 5, 6, 7, 8, 17, 18, 19, 24, 25, 26] 1 k l ([rD O0]) = z) (hk : b.length < k) (a1 : asc l 1 = sD b nl2 cap2) (a5 : asc l 5 = .hsl 0 0 L L 1) (a6 : asc l 6 = ii p) (a7 : asc l 7 = .c (.int .u32 (x : Int))) (a8 : asc l 8 = .c (.int .u64 ((0) : Int))) (a17 : asc l 17 = sD a nl cap) (a18 : asc l 18 = ii a.length) (a19 : asc l 19 = ii p) (a24 : asc l 24 = sD b nl2 cap2) (a25 : asc l 25 = ii b.length) (a26 : asc l 26 = ii 0) :
    ∃ l' O cy, z = some (.exit 2 (fr 67 l') [rD O]) ∧ asc l' 1 = sD b nl2 cap2 ∧ asc l' 5 = .hsl 0 0 L L 1 ∧ asc l' 6 = ii p ∧ asc l' 8 = .c (.int .u64 ((cy : Nat) : Int)) ∧ asc l' 17 = sD a nl cap ∧ asc l' 18 = ii a.length ∧ asc l' 19 = ii p ∧ MuI b O V x p L cy b.length := by
  subst hz
  refine loop_nat b.length (fun k l H => loopR Try.prog tab kf none LB133_7 133 67 [1, 5, 6, 7, 8, 17, 18, 19, 24, 25, 26] 1 k l H)
    (fun i l H => ∃ (O : List Nat), ∃ (cy : Nat), asc l 1 = sD b nl2 cap2 ∧ asc l 5 = .hsl 0 0 L L 1 ∧ asc l 6 = ii p ∧ asc l 7 = .c (.int .u32 (x : Int)) ∧ asc l 8 = .c (.int .u64 (cy : Int)) ∧ asc l 17 = sD a nl cap ∧ asc l 18 = ii a.length ∧ asc l 19 = ii p ∧ asc l 24 = sD b nl2 cap2 ∧ asc l 25 = ii b.length ∧ asc l 26 = ii i ∧ (MuI b O V x p L cy i) ∧ H = ([rD O]))
    (fun z => ∃ l' O cy, z = some (.exit 2 (fr 67 l') [rD O]) ∧ asc l' 1 = sD b nl2 cap2 ∧ asc l' 5 = .hsl 0 0 L L 1 ∧ asc l' 6 = ii p ∧ asc l' 8 = .c (.int .u64 ((cy : Nat) : Int)) ∧ asc l' 17 = sD a nl cap ∧ asc l' 18 = ii a.length ∧ asc l' 19 = ii p ∧ MuI b O V x p L cy b.length) ?_ b.length 0 k l _ (by omega) hk ⟨O0, (0), a1, a5, a6, a7, a8, a17, a18, a19, a24, a25, a26, h0, rfl⟩
  clear hk a1 a5 a6 a7 a8 a17 a18 a19 a24 a25 a26
  rintro i k l H hi ⟨O, cy, a1, a5, a6, a7, a8, a17, a18, a19, a24, a25, a26, hp, rfl⟩
  have ht : trim 1 (fr 67 (keep l [1, 5, 6, 7, 8, 17, 18, 19, 24, 25, 26])) ([rD O]) = ([rD O]) := by
    exact trim_same rfl
  by_cases hc : i < b.length
  · have hc' : (i : Int) < ((b.length : Nat) : Int) := by omega
    have hc0 : (0 : Int) ≤ i := by omega
    have hw : IntKind.wrap .i64 ((i : Int) + 1) = ((i + 1 : Nat) : Int) := by rw [wrap64 (by omega) (by omega)]; omega
    have hy := encD_get (l := b) hc
    have helb := encD_length b
    have helO := encD_length O
    have hOl := hp.len
    have h1 := okD_get hb i
    have h2 := okD_get hp.ok (p + i)
    have h4 := mul_le32 hx h1
    obtain ⟨hsb, hst⟩ := hp.step hb hx hc hpL
    have hj := hp.cb
    have hpi0 : (0 : Int) ≤ ((p + i : Nat) : Int) := by omega
    have hpi1 : ((p + i : Nat) : Int) < (L : Int) := by omega
    have hpi2 : p + i < L := by omega
    have hwi : IntKind.wrap .i64 ((p : Int) + (i : Int)) = ((p + i : Nat) : Int) := by rw [wrap64 (by omega) (by omega)]; omega
    have hxo := encD_get (l := O) (i := p + i) (by omega)
    have hcv1 : IntKind.wrap .u64 ((b.getD i 0 : Nat) : Int) = ((b.getD i 0 : Nat) : Int) := wr64 (by omega)
    have hcv2 : IntKind.wrap .u64 (x : Int) = (x : Int) := wr64 (by omega)
    have hcv3 : IntKind.wrap .u64 ((O.getD (p + i) 0 : Nat) : Int) = ((O.getD (p + i) 0 : Nat) : Int) := wr64 (by omega)
    have hm1 : IntKind.wrap .u64 ((x : Int) * ((b.getD i 0 : Nat) : Int)) = ((x * b.getD i 0 : Nat) : Int) := by rw [← Int.natCast_mul, wr64 (by omega)]
    have hm2 : IntKind.wrap .u64 (((x * b.getD i 0 : Nat) : Int) + ((O.getD (p + i) 0 : Nat) : Int)) = ((x * b.getD i 0 + O.getD (p + i) 0 : Nat) : Int) := by rw [← Int.natCast_add, wr64 (by omega)]
    have hm3 : IntKind.wrap .u64 ((cy : Int) + ((x * b.getD i 0 + O.getD (p + i) 0 : Nat) : Int)) = ((cy + (x * b.getD i 0 + O.getD (p + i) 0) : Nat) : Int) := by rw [← Int.natCast_add, wr64 hsb]
    have hset := fun v : Nat => encD_set (l := O) (i := p + i) (d := v)
    simp only [loopR_succ, ht]
    simp only [a1, a5, a6, a7, a8, a17, a18, a19, a24, a25, a26, hc', hc0, hw, hy, helb, helO, hOl, hpi0, hpi1, hpi2, hwi, hxo, hcv1, hcv2, hcv3, hm1, hm2, hm3, wrap32m, shr64, hset, loopR_succ, loopOf, findLoop, firstRegion, Option.some_or, Option.none_or, Option.getD_some, Option.some.injEq, Try.f133, FT, Int.reduceEq, Int.reduceToNat, Int.reduceLE, Int.reduceLT, Int.reduceAdd, Int.reduceMul, Int.reduceSub, Int.reduceNeg, Nat.reduceAdd, Nat.reduceSub, Nat.reduceMul, Nat.reduceLT, Nat.reduceBEq, Nat.reduceEqDiff, Nat.reduceLeDiff]
    exact .inr ⟨_, _, hc, rfl, _, _, (by rfl), (by rfl), (by rfl), (by rfl), (by rfl), (by rfl), (by rfl), (by rfl), (by rfl), (by rfl), (by rfl), hst, rfl⟩
  · refine .inl ?_
    obtain rfl : i = b.length := by omega
    have hc' : ¬ (((b.length : Nat) : Int) < ((b.length : Nat) : Int)) := by omega
    simp only [loopR_succ, ht]
    simp only [a1, a5, a6, a7, a8, a17, a18, a19, a24, a25, a26, hc', loopR_succ, loopOf, findLoop, firstRegion, Option.some_or, Option.none_or, Option.getD_some, Option.some.injEq, Try.f133, FT, Int.reduceEq, Int.reduceToNat, Int.reduceLE, Int.reduceLT, Int.reduceAdd, Int.reduceMul, Int.reduceSub, Int.reduceNeg, Nat.reduceAdd, Nat.reduceSub, Nat.reduceMul, Nat.reduceLT, Nat.reduceBEq, Nat.reduceEqDiff, Nat.reduceLeDiff]
    exact ⟨_, O, cy, rfl, (by rfl), (by rfl), (by rfl), (by rfl), (by rfl), (by rfl), (by rfl), hp⟩
theorem loop_mul3 (kf : Nat) (a b : List Nat) (nl nl2 : Bool) (cap cap2 : Option Nat) (ha : okD a) (hb : okD b) (L : Nat) (hL : L = a.length + b.length) (hL6 : L ≤ 1000000) (hkf : b.length < kf) (O0 : List Nat) (h0 : MuO a b O0 L 0) (k : Nat) (l : Ass) (z : Option Out) (hz : loopR Try.prog tab kf none LB133_3 133 67 [1, 5, 17, 18, 19] 1 k l ([rD O0]) = z) (hk : a.length < k) (a1 : asc l 1 = sD b nl2 cap2) (a5 : asc l 5 = .hsl 0 0 L L 1) (a17 : asc l 17 = sD a nl cap) (a18 : asc l 18 = ii a.length) (a19 : asc l 19 = ii 0) :
    ∃ l' O, z = some (.exit 0 (fr 67 l') [rD O]) ∧ asc l' 5 = .hsl 0 0 L L 1 ∧ MuO a b O L a.length := by
  subst hz
  refine loop_nat a.length (fun k l H => loopR Try.prog tab kf none LB133_3 133 67 [1, 5, 17, 18, 19] 1 k l H)
    (fun i l H => ∃ (O : List Nat), asc l 1 = sD b nl2 cap2 ∧ asc l 5 = .hsl 0 0 L L 1 ∧ asc l 17 = sD a nl cap ∧ asc l 18 = ii a.length ∧ asc l 19 = ii i ∧ (MuO a b O L i) ∧ H = ([rD O]))
    (fun z => ∃ l' O, z = some (.exit 0 (fr 67 l') [rD O]) ∧ asc l' 5 = .hsl 0 0 L L 1 ∧ MuO a b O L a.length) ?_ a.length 0 k l _ (by omega) hk ⟨O0, a1, a5, a17, a18, a19, h0, rfl⟩
  clear hk a1 a5 a17 a18 a19
  rintro i k l H hi ⟨O, a1, a5, a17, a18, a19, hp, rfl⟩
  have ht : trim 1 (fr 67 (keep l [1, 5, 17, 18, 19])) ([rD O]) = ([rD O]) := by
    exact trim_same rfl
  by_cases hc : i < a.length
  · have hc' : (i : Int) < ((a.length : Nat) : Int) := by omega
    have hc0 : (0 : Int) ≤ i := by omega
    have hw : IntKind.wrap .i64 ((i : Int) + 1) = ((i + 1 : Nat) : Int) := by rw [wrap64 (by omega) (by omega)]; omega
    have hx := encD_get (l := a) hc
    have hela := encD_length a
    have h1 := okD_get ha i
    simp only [loopR_succ, ht]
    simp only [a1, a5, a17, a18, a19, hc', hc0, hw, hx, hela, loopR_succ, loopOf, findLoop, firstRegion, Option.some_or, Option.none_or, Option.getD_some, Option.some.injEq, Try.f133, FT, Int.reduceEq, Int.reduceToNat, Int.reduceLE, Int.reduceLT, Int.reduceAdd, Int.reduceMul, Int.reduceSub, Int.reduceNeg, Nat.reduceAdd, Nat.reduceSub, Nat.reduceMul, Nat.reduceLT, Nat.reduceBEq, Nat.reduceEqDiff, Nat.reduceLeDiff]
    rw [evalCode_loopB LB133_7 lp133_7]; rotate_left; rfl; rfl; rfl
    generalize hz : loopR _ _ _ _ _ _ _ _ _ _ _ _ = z
    obtain ⟨l2, P, cy, rfl, f1, f5, f6, f8, f17, f18, f19, hI⟩ := loop_mul7 kf a b nl nl2 cap cap2 hb (vd O) (a.getD i 0) i L h1 (by omega) hL6 O ⟨hp.len, hp.ok, by omega, hp.z, by simp [vd]⟩ _ _ z hz (by omega) (by rfl) (by rfl) (by rfl) (by rfl) (by rfl) (by rfl) (by rfl) (by rfl) (by rfl) (by rfl) (by rfl)
    clear hz
    have hst := MuO.next hp.vl hI (by omega)
    have helP := encD_length P
    have hPl := hI.len
    have hcy := hI.cb
    have hcv : cy % 4294967296 = cy := Nat.mod_eq_of_lt hcy
    have hwi : IntKind.wrap .i64 ((i : Int) + (b.length : Int)) = ((i + b.length : Nat) : Int) := by rw [wrap64 (by omega) (by omega)]; omega
    have hpi0 : (0 : Int) ≤ ((i + b.length : Nat) : Int) := by omega
    have hpi1 : ((i + b.length : Nat) : Int) < (L : Int) := by omega
    have hpi2 : i + b.length < L := by omega
    have hset := encD_set (l := P) (i := i + b.length) (d := cy)
    simp only [f1, f5, f6, f8, f17, f18, f19, helP, hPl, hcv, hwi, hpi0, hpi1, hpi2, hset, hw, wrap32m, FT, Int.reduceEq, Int.reduceToNat, Int.reduceLE, Int.reduceLT, Int.reduceAdd, Int.reduceMul, Int.reduceSub, Int.reduceNeg, Nat.reduceAdd, Nat.reduceSub, Nat.reduceMul, Nat.reduceLT, Nat.reduceBEq, Nat.reduceEqDiff, Nat.reduceLeDiff]
    exact .inr ⟨_, _, hc, rfl, _, (by exact f1), (by exact f5), (by exact f17), (by exact f18), (by rfl), hst, rfl⟩
  · refine .inl ?_
    obtain rfl : i = a.length := by omega
    have hc' : ¬ (((a.length : Nat) : Int) < ((a.length : Nat) : Int)) := by omega
    simp only [loopR_succ, ht]
    simp only [a1, a5, a17, a18, a19, hc', loopR_succ, loopOf, findLoop, firstRegion, Option.some_or, Option.none_or, Option.getD_some, Option.some.injEq, Try.f133, FT, Int.reduceEq, Int.reduceToNat, Int.reduceLE, Int.reduceLT, Int.reduceAdd, Int.reduceMul, Int.reduceSub, Int.reduceNeg, Nat.reduceAdd, Nat.reduceSub, Nat.reduceMul, Nat.reduceLT, Nat.reduceBEq, Nat.reduceEqDiff, Nat.reduceLeDiff]
    exact ⟨_, O, rfl, (by rfl), hp⟩
theorem mul_ev (k : Nat) (a b : List Nat) (nl nl2 : Bool) (cap cap2 : Option Nat) (ha : okD a) (hb : okD b) (hla : a.length ≤ 100000) (hlb : b.length ≤ 100000) (hk : a.length + b.length + 10 < k) : run (k+2) 133 [sD a nl cap, sD b nl2 cap2] = some (sD (dig (vd a * vd b)) false (some (dig (vd a * vd b)).length)) := by
  obtain ⟨L, hL⟩ : ∃ L, L = a.length + b.length := ⟨_, rfl⟩
  have hw1 : IntKind.wrap .i64 ((a.length : Int) + (b.length : Int)) = (L : Int) := by rw [wrap64 (by omega) (by omega), hL]; omega
  have q1 : (0 : Int) ≤ (L : Int) := by omega
  have q2 : L * 4 ≤ roomBytes := Nat.le_trans (show L * 4 ≤ 4000000 by omega) (by decide)
  have q3 : L ≤ roomBytes := Nat.le_trans (show L ≤ 1000000 by omega) (by decide)
  rw [run, ev133, ans_trim]
  simp only [Try.f133, hw1, q1, q2, q3, encD_rep0, FT, Int.reduceEq, Int.reduceToNat, Int.reduceLE, Int.reduceLT, Int.reduceAdd, Int.reduceMul, Int.reduceSub, Int.reduceNeg, Nat.reduceAdd, Nat.reduceSub, Nat.reduceMul, Nat.reduceLT, Nat.reduceBEq, Nat.reduceEqDiff, Nat.reduceLeDiff]
  rw [evalCode_loopB LB133_3 lp133_3]; rotate_left; rfl; rfl; rfl
  generalize hz : loopR _ _ _ _ _ _ _ _ _ _ _ _ = z
  have hrep : ∀ j, (List.replicate L 0).getD j 0 = 0 := fun j => by
    rw [List.getD_eq_getElem?_getD, List.getElem?_replicate]; split <;> rfl
  obtain ⟨l', P, rfl, e5, hI⟩ := loop_mul3 (k + 1) a b nl nl2 cap cap2 ha hb L hL (by omega) (by omega) (List.replicate L 0) ⟨by simp, fun d hd => by rw [List.eq_of_mem_replicate hd]; omega, fun j _ => hrep j, by rw [vd_rep]; simp [vd]⟩ _ _ z hz (by omega) (by rfl) (by rfl) (by rfl) (by rfl) (by rfl)
  clear hz
  have hPl := hI.len
  have hok := hI.ok
  have hPv : vd P = vd a * vd b := by rw [hI.vl, List.take_of_length_le (Nat.le_refl _)]
  have hdo := dig_of hok
  rw [hPv] at hdo
  rw [← hPl] at e5
  obtain ⟨H2, hds, _, hold⟩ := trim_call (k := k) (f := 133) (r := 15) (i := 1) (id := 0) (a := P) (H := [rD P]) (by rfl) (by omega) (by omega)
  have htr := trim_ev k P false none (by omega) (by omega)
  have hel := encD_length P
  have htk : (encD P).take P.length = encD P := List.take_of_length_le (by rw [hel]; exact Nat.le_refl _)
  simp only [run] at htr
  rw [hdo] at hds htr
  simp only [hPl] at hds hel htk e5
  simp only [sD, hPl] at htr
  simp only [e5, hel, htk, htr, hds, strict_slice, strict_c, strict1_c, strict0_c, Nat.le_refl, FT, Int.reduceEq, Int.reduceToNat, Int.reduceLE, Int.reduceLT, Int.reduceAdd, Int.reduceMul, Int.reduceSub, Int.reduceNeg, Nat.reduceAdd, Nat.reduceSub, Nat.reduceMul, Nat.reduceLT, Nat.reduceBEq, Nat.reduceEqDiff, Nat.reduceLeDiff]
end
end Go.Proofs.Sw.W
namespace Go.Proofs.Sw.W
open Go.Ab
abbrev nD (x : Int) : List Nat := dig x.natAbs
theorem eqBool (a b : Bool) : (a == b) = decide (a = b) := by cases a <;> cases b <;> rfl
section
variable [Globals]
abbrev aW (x : RI) : AV := .agg [bb (decide (x.v < 0)), sD (dig x.v.natAbs) x.nl x.cap]
theorem hand2 {k f r i id : Nat} {g : FuncId} {x v : AV} {a : List Nat} {H : Heap} (h : H[id]? = some (rD a)) (hx : frzV H x = some (x, H)) (hfr : inB tab.frames g = false) (hkp : keepB tab.keeps f r i = false) (hv : run k g [x, sD a false none] = some v) :
    ∃ H2, doCallS (cxG Try.prog (mkHints tab) k f none) r i g [x, .hsl id 0 a.length a.length 1] H = some (v, H2) ∧ H2.length = H.length ∧ ∀ j, j ≠ id → H2[j]? = H[j]? := by
  have hz : frzTup H [x, .hsl id 0 a.length a.length 1] = some ([x, sD a false none], H.set id (.row true 102 (encD a))) := by
    have hr : rowOf H id a.length = some (102, encD a) := rowOf_eq h (encD_length a)
    rw [frzTup, hx, Option.bind_some, frzTup, frzV_hsl, frz_hsl, hr]
    simp only [Option.bind_some, Nat.zero_add, Nat.mul_one, Nat.le_refl, if_true, List.drop_zero, Option.map_some, frzTup]
    rw [List.take_of_length_le (by rw [encD_length]; exact Nat.le_refl _)]
  rcases doCallS_or (P := Try.prog) (tab := tab) (kf := k) (f := f) (r := r) (i := i) (ar := none) (g := g) hfr hkp (by simp [AV.pure, AV.pure0]) hz hv with e | e
  · exact ⟨_, e, rfl, fun _ _ => rfl⟩
  · exact ⟨_, e, by simp, fun j hj => by rw [List.getElem?_set_ne (fun h => hj h.symm)]⟩
theorem hand1 {k f r i id : Nat} {g : FuncId} {v : AV} {a : List Nat} {H : Heap} (h : H[id]? = some (rD a)) (hfr : inB tab.frames g = false) (hkp : keepB tab.keeps f r i = false) (hv : run k g [sD a false none] = some v) :
    ∃ H2, doCallS (cxG Try.prog (mkHints tab) k f none) r i g [.hsl id 0 a.length a.length 1] H = some (v, H2) ∧ H2.length = H.length ∧ ∀ j, j ≠ id → H2[j]? = H[j]? := by
  have hz : frzTup H [.hsl id 0 a.length a.length 1] = some ([sD a false none], H.set id (.row true 102 (encD a))) := by
    have hr : rowOf H id a.length = some (102, encD a) := rowOf_eq h (encD_length a)
    rw [frzTup, frzV_hsl, frz_hsl, hr]
    simp only [Option.bind_some, Nat.zero_add, Nat.mul_one, Nat.le_refl, if_true, List.drop_zero, Option.map_some, frzTup]
    rw [List.take_of_length_le (by rw [encD_length]; exact Nat.le_refl _)]
  rcases doCallS_or (P := Try.prog) (tab := tab) (kf := k) (f := f) (r := r) (i := i) (ar := none) (g := g) hfr hkp (by simp [AV.pure, AV.pure0]) hz hv with e | e
  · exact ⟨_, e, rfl, fun _ _ => rfl⟩
  · exact ⟨_, e, by simp, fun j hj => by rw [List.getElem?_set_ne (fun h => hj h.symm)]⟩
theorem hand12 {k f r i id : Nat} {g : FuncId} {v : AV} {x : IV} {a : List Nat} {H : Heap} (h : H[id]? = some (rD a)) (hfr : inB tab.frames g = false) (hkp : keepB tab.keeps f r i = false) (hv : run k g [sD a false none, .c x] = some v) :
    ∃ H2, doCallS (cxG Try.prog (mkHints tab) k f none) r i g [.hsl id 0 a.length a.length 1, .c x] H = some (v, H2) ∧ H2.length = H.length ∧ ∀ j, j ≠ id → H2[j]? = H[j]? := by
  have hz : frzTup H [.hsl id 0 a.length a.length 1, .c x] = some ([sD a false none, .c x], H.set id (.row true 102 (encD a))) := by
    have hr : rowOf H id a.length = some (102, encD a) := rowOf_eq h (encD_length a)
    rw [frzTup, frzV_hsl, frz_hsl, hr]
    simp only [Option.bind_some, Nat.zero_add, Nat.mul_one, Nat.le_refl, if_true, List.drop_zero, Option.map_some, frzTup, frzV_c]
    rw [List.take_of_length_le (by rw [encD_length]; exact Nat.le_refl _)]
  rcases doCallS_or (P := Try.prog) (tab := tab) (kf := k) (f := f) (r := r) (i := i) (ar := none) (g := g) hfr hkp (by simp [AV.pure, AV.pure0]) hz hv with e | e
  · exact ⟨_, e, rfl, fun _ _ => rfl⟩
  · exact ⟨_, e, by simp, fun j hj => by rw [List.getElem?_set_ne (fun h => hj h.symm)]⟩
theorem sgn_neg (neg : Bool) (n : Nat) : decide (sgn neg n < 0) = (neg && decide (0 < (dig n).length)) := by
  by_cases h : n = 0
  · subst h
    rw [dig_zero]
    cases neg <;> simp [sgn]
  · have h1 : 0 < (dig n).length := List.length_pos_iff.2 (dig_pos (by omega))
    cases neg
    · simp [sgn]
    · simp [sgn, h1]; omega
theorem made_ev (k : Nat) (neg : Bool) (n : Nat) (nl : Bool) (cap : Option Nat) : run (k+1) 130 [bb neg, sD (dig n) nl cap] = some (aW ⟨sgn neg n, nl, cap⟩) := by
  have h1 : (sgn neg n).natAbs = n := sgn_abs neg n
  have h2 := sgn_neg neg n
  rw [run, ev130, ans_trim]
  cases neg
  · simp only [Try.f130, bb, FT, Int.reduceEq, Int.reduceToNat, Int.reduceLE, Int.reduceLT, Int.reduceAdd, Int.reduceMul, Int.reduceSub, Int.reduceNeg, Nat.reduceAdd, Nat.reduceSub, Nat.reduceMul, Nat.reduceLT, Nat.reduceBEq, Nat.reduceEqDiff, Nat.reduceLeDiff]
    simp only [aW, h1, h2, bb, Bool.false_and]
  · by_cases h0 : 0 < (dig n).length
    · have h0' : (0 : Int) < ((dig n).length : Nat) := by omega
      simp only [Try.f130, bb, h0', FT, Int.reduceEq, Int.reduceToNat, Int.reduceLE, Int.reduceLT, Int.reduceAdd, Int.reduceMul, Int.reduceSub, Int.reduceNeg, Nat.reduceAdd, Nat.reduceSub, Nat.reduceMul, Nat.reduceLT, Nat.reduceBEq, Nat.reduceEqDiff, Nat.reduceLeDiff]
      simp only [aW, h1, h2, h0, bb, decide_true, Bool.and_self]
    · have h0' : ¬ (0 : Int) < ((dig n).length : Nat) := by omega
      simp only [Try.f130, bb, h0', FT, Int.reduceEq, Int.reduceToNat, Int.reduceLE, Int.reduceLT, Int.reduceAdd, Int.reduceMul, Int.reduceSub, Int.reduceNeg, Nat.reduceAdd, Nat.reduceSub, Nat.reduceMul, Nat.reduceLT, Nat.reduceBEq, Nat.reduceEqDiff, Nat.reduceLeDiff]
      simp only [aW, h1, h2, h0, bb, decide_false, Bool.and_false]
theorem Neg_ev (k : Nat) (x : RI) : ∃ z : RI, z.v = -x.v ∧ run (k+2) 114 [aW x] = some (aW z) := by
  have hm := made_ev k (!decide (x.v < 0)) x.v.natAbs x.nl x.cap
  have hv : sgn (!decide (x.v < 0)) x.v.natAbs = -x.v := by unfold sgn; split <;> simp_all <;> omega
  rw [hv] at hm
  refine ⟨⟨-x.v, x.nl, x.cap⟩, rfl, ?_⟩
  simp only [run, bb, aW] at hm
  rw [run, ev114, ans_trim]
  simp only [Try.f114, aW, bb, hm, FT, Int.reduceEq, Int.reduceToNat, Int.reduceLE, Int.reduceLT, Int.reduceAdd, Int.reduceMul, Int.reduceSub, Int.reduceNeg, Nat.reduceAdd, Nat.reduceSub, Nat.reduceMul, Nat.reduceLT, Nat.reduceBEq, Nat.reduceEqDiff, Nat.reduceLeDiff]
theorem Abs_ev (k : Nat) (x : RI) : ∃ z : RI, z.v = x.v.natAbs ∧ run (k+2) 135 [aW x] = some (aW z) := by
  have hm := made_ev k false x.v.natAbs x.nl x.cap
  refine ⟨⟨sgn false x.v.natAbs, x.nl, x.cap⟩, by simp [sgn], ?_⟩
  simp only [run, bb, aW] at hm
  rw [run, ev135, ans_trim]
  simp only [Try.f135, aW, bb, hm, FT, Int.reduceEq, Int.reduceToNat, Int.reduceLE, Int.reduceLT, Int.reduceAdd, Int.reduceMul, Int.reduceSub, Int.reduceNeg, Nat.reduceAdd, Nat.reduceSub, Nat.reduceMul, Nat.reduceLT, Nat.reduceBEq, Nat.reduceEqDiff, Nat.reduceLeDiff]
theorem Sign_ev (k : Nat) (x : RI) : run (k+1) 120 [aW x] = some (ii (if x.v < 0 then -1 else if 0 < x.v then 1 else 0)) := by
  rw [run, ev120, ans_trim]
  by_cases h0 : x.v = 0
  · have hl : (dig x.v.natAbs).length = 0 := by rw [h0]; rfl
    simp only [Try.f120, aW, bb, ii, hl, FT, Int.reduceEq, Int.reduceToNat, Int.reduceLE, Int.reduceLT, Int.reduceAdd, Int.reduceMul, Int.reduceSub, Int.reduceNeg, Nat.reduceAdd, Nat.reduceSub, Nat.reduceMul, Nat.reduceLT, Nat.reduceBEq, Nat.reduceEqDiff, Nat.reduceLeDiff]
    simp [h0]
  · have hl : 0 < (dig x.v.natAbs).length := List.length_pos_iff.2 (dig_pos (by omega))
    have hl' : ¬ ((dig x.v.natAbs).length : Int) = 0 := by omega
    by_cases hn : x.v < 0
    · simp only [Try.f120, aW, bb, ii, hl', hn, FT, Int.reduceEq, Int.reduceToNat, Int.reduceLE, Int.reduceLT, Int.reduceAdd, Int.reduceMul, Int.reduceSub, Int.reduceNeg, Nat.reduceAdd, Nat.reduceSub, Nat.reduceMul, Nat.reduceLT, Nat.reduceBEq, Nat.reduceEqDiff, Nat.reduceLeDiff]
    · have hp : 0 < x.v := by omega
      simp only [Try.f120, aW, bb, ii, hl', hn, hp, FT, Int.reduceEq, Int.reduceToNat, Int.reduceLE, Int.reduceLT, Int.reduceAdd, Int.reduceMul, Int.reduceSub, Int.reduceNeg, Nat.reduceAdd, Nat.reduceSub, Nat.reduceMul, Nat.reduceLT, Nat.reduceBEq, Nat.reduceEqDiff, Nat.reduceLeDiff]
theorem Cmp_ev (k : Nat) (x y : RI) (hx : (nD x.v).length ≤ 100000) (hy : (nD y.v).length ≤ 100000) (hk : (nD x.v).length < k ∧ (nD y.v).length < k) : ∃ c : Int, run (k+3) 99 [aW x, aW y] = some (ii c) ∧ (c = 0 ↔ x.v = y.v) := by
  have h1 := cmp_can k (nD x.v) (nD y.v) x.nl y.nl x.cap y.cap (can_dig _).ok (can_dig _).ok hx hy hk
  have h2 := cmp_can k (nD y.v) (nD x.v) y.nl x.nl y.cap x.cap (can_dig _).ok (can_dig _).ok hy hx ⟨hk.2, hk.1⟩
  rw [vd_dig, vd_dig] at h1 h2
  have cm : ∀ m n : Nat, cmpN m n = 0 ↔ m = n := fun m n => by unfold cmpN; split <;> (try split) <;> omega
  simp only [run, ii] at h1 h2
  by_cases nx : x.v < 0 <;> by_cases ny : y.v < 0
  · refine ⟨cmpN y.v.natAbs x.v.natAbs, ?_, by rw [cm]; omega⟩
    rw [run, ev99, ans_trim]
    simp only [Try.f99, aW, bb, ii, nx, ny, h2, FT, Int.reduceEq, Int.reduceToNat, Int.reduceLE, Int.reduceLT, Int.reduceAdd, Int.reduceMul, Int.reduceSub, Int.reduceNeg, Nat.reduceAdd, Nat.reduceSub, Nat.reduceMul, Nat.reduceLT, Nat.reduceBEq, Nat.reduceEqDiff, Nat.reduceLeDiff]
  · refine ⟨-1, ?_, by omega⟩
    rw [run, ev99, ans_trim]
    simp only [Try.f99, aW, bb, ii, nx, ny, FT, Int.reduceEq, Int.reduceToNat, Int.reduceLE, Int.reduceLT, Int.reduceAdd, Int.reduceMul, Int.reduceSub, Int.reduceNeg, Nat.reduceAdd, Nat.reduceSub, Nat.reduceMul, Nat.reduceLT, Nat.reduceBEq, Nat.reduceEqDiff, Nat.reduceLeDiff]
  · refine ⟨1, ?_, by omega⟩
    rw [run, ev99, ans_trim]
    simp only [Try.f99, aW, bb, ii, nx, ny, FT, Int.reduceEq, Int.reduceToNat, Int.reduceLE, Int.reduceLT, Int.reduceAdd, Int.reduceMul, Int.reduceSub, Int.reduceNeg, Nat.reduceAdd, Nat.reduceSub, Nat.reduceMul, Nat.reduceLT, Nat.reduceBEq, Nat.reduceEqDiff, Nat.reduceLeDiff]
  · refine ⟨cmpN x.v.natAbs y.v.natAbs, ?_, by rw [cm]; omega⟩
    rw [run, ev99, ans_trim]
    simp only [Try.f99, aW, bb, ii, nx, ny, h1, FT, Int.reduceEq, Int.reduceToNat, Int.reduceLE, Int.reduceLT, Int.reduceAdd, Int.reduceMul, Int.reduceSub, Int.reduceNeg, Nat.reduceAdd, Nat.reduceSub, Nat.reduceMul, Nat.reduceLT, Nat.reduceBEq, Nat.reduceEqDiff, Nat.reduceLeDiff]
theorem Add_ev (k : Nat) (x y : RI) (hx : (nD x.v).length ≤ 50000) (hy : (nD y.v).length ≤ 50000) (hk : (nD x.v).length + (nD y.v).length + 20 ≤ k) : ∃ z : RI, z.v = x.v + y.v ∧ run (k+4) 115 [aW x, aW y] = some (aW z) := by
  have hcx := can_dig x.v.natAbs
  have hcy := can_dig y.v.natAbs
  by_cases hs : (decide (x.v < 0)) = decide (y.v < 0)
  · have ha := add_ev (k + 1) (nD x.v) (nD y.v) x.nl y.nl x.cap y.cap hcx.ok hcy.ok (by omega) (by omega) (by omega)
    rw [vd_dig, vd_dig] at ha
    have hm := made_ev (k + 2) (decide (x.v < 0)) (x.v.natAbs + y.v.natAbs) false (some (dig (x.v.natAbs + y.v.natAbs)).length)
    have hv : sgn (decide (x.v < 0)) (x.v.natAbs + y.v.natAbs) = x.v + y.v := by
      rw [decide_eq_decide] at hs
      unfold sgn; simp only [decide_eq_true_eq]; split <;> omega
    rw [hv] at hm
    refine ⟨⟨x.v + y.v, false, some (dig (x.v.natAbs + y.v.natAbs)).length⟩, rfl, ?_⟩
    simp only [run, bb, aW] at hm ha
    rw [run, ev115, ans_trim]
    simp only [Try.f115, aW, bb, eqBool, hs, FT, Int.reduceEq, Int.reduceToNat, Int.reduceLE, Int.reduceLT, Int.reduceAdd, Int.reduceMul, Int.reduceSub, Int.reduceNeg, Nat.reduceAdd, Nat.reduceSub, Nat.reduceMul, Nat.reduceLT, Nat.reduceBEq, Nat.reduceEqDiff, Nat.reduceLeDiff]
    rw [evalCode_drawn Try.f115 2 dr115_2]; rotate_left; rfl
    rw [hs] at hm
    simp only [ha, hm, EVd, List.getElem?_nil, Nat.reducePow, Nat.reduceDiv, Nat.reduceMod, FT, Int.reduceEq, Int.reduceToNat, Int.reduceLE, Int.reduceLT, Int.reduceAdd, Int.reduceMul, Int.reduceSub, Int.reduceNeg, Nat.reduceAdd, Nat.reduceSub, Nat.reduceMul, Nat.reduceLT, Nat.reduceBEq, Nat.reduceEqDiff, Nat.reduceLeDiff]
  · have hcm := cmp_can (k + 1) (nD x.v) (nD y.v) x.nl y.nl x.cap y.cap hcx.ok hcy.ok (by omega) (by omega) (by omega)
    rw [vd_dig, vd_dig] at hcm
    simp only [run, ii] at hcm
    by_cases hlt : x.v.natAbs < y.v.natAbs
    · have hc0 : cmpN x.v.natAbs y.v.natAbs < 0 := by unfold cmpN; rw [if_pos hlt]; decide
      have hsb := sub_ev k (nD y.v) (nD x.v) y.nl x.nl y.cap x.cap hcy hcx (by rw [vd_dig, vd_dig]; omega) (by omega) (by omega) (by omega)
      rw [vd_dig, vd_dig] at hsb
      have hm := made_ev (k + 2) (decide (y.v < 0)) (y.v.natAbs - x.v.natAbs) false (some (dig (y.v.natAbs - x.v.natAbs)).length)
      have hv : sgn (decide (y.v < 0)) (y.v.natAbs - x.v.natAbs) = x.v + y.v := by
        rw [decide_eq_decide] at hs
        unfold sgn; simp only [decide_eq_true_eq]; split <;> omega
      rw [hv] at hm
      refine ⟨⟨x.v + y.v, false, some (dig (y.v.natAbs - x.v.natAbs)).length⟩, rfl, ?_⟩
      simp only [run, bb, ii, aW] at hm hsb
      rw [run, ev115, ans_trim]
      simp only [Try.f115, aW, bb, eqBool, hs, hcm, hc0, hsb, hm, FT, Int.reduceEq, Int.reduceToNat, Int.reduceLE, Int.reduceLT, Int.reduceAdd, Int.reduceMul, Int.reduceSub, Int.reduceNeg, Nat.reduceAdd, Nat.reduceSub, Nat.reduceMul, Nat.reduceLT, Nat.reduceBEq, Nat.reduceEqDiff, Nat.reduceLeDiff]
    · have hc0 : ¬ cmpN x.v.natAbs y.v.natAbs < 0 := by unfold cmpN; rw [if_neg hlt]; split <;> decide
      have hsb := sub_ev k (nD x.v) (nD y.v) x.nl y.nl x.cap y.cap hcx hcy (by rw [vd_dig, vd_dig]; omega) (by omega) (by omega) (by omega)
      rw [vd_dig, vd_dig] at hsb
      have hm := made_ev (k + 2) (decide (x.v < 0)) (x.v.natAbs - y.v.natAbs) false (some (dig (x.v.natAbs - y.v.natAbs)).length)
      have hv : sgn (decide (x.v < 0)) (x.v.natAbs - y.v.natAbs) = x.v + y.v := by
        rw [decide_eq_decide] at hs
        unfold sgn; simp only [decide_eq_true_eq]; split <;> omega
      rw [hv] at hm
      refine ⟨⟨x.v + y.v, false, some (dig (x.v.natAbs - y.v.natAbs)).length⟩, rfl, ?_⟩
      simp only [run, bb, ii, aW] at hm hsb
      rw [run, ev115, ans_trim]
      simp only [Try.f115, aW, bb, eqBool, hs, hcm, hc0, hsb, hm, FT, Int.reduceEq, Int.reduceToNat, Int.reduceLE, Int.reduceLT, Int.reduceAdd, Int.reduceMul, Int.reduceSub, Int.reduceNeg, Nat.reduceAdd, Nat.reduceSub, Nat.reduceMul, Nat.reduceLT, Nat.reduceBEq, Nat.reduceEqDiff, Nat.reduceLeDiff]
theorem Sub_ev (k : Nat) (x y : RI) (hx : (nD x.v).length ≤ 50000) (hy : (nD y.v).length ≤ 50000) (hk : (nD x.v).length + (nD y.v).length + 20 ≤ k) : ∃ z : RI, z.v = x.v - y.v ∧ run (k+5) 116 [aW x, aW y] = some (aW z) := by
  obtain ⟨w, hw, h1⟩ := Neg_ev (k + 2) y
  have hwl : (nD w.v).length = (nD y.v).length := by rw [hw]; simp [nD]
  obtain ⟨z, hz, h2⟩ := Add_ev k x w hx (by omega) (by omega)
  refine ⟨z, by rw [hz, hw]; omega, ?_⟩
  simp only [run, aW, bb] at h1 h2
  rw [run, ev116, ans_trim]
  simp only [Try.f116, aW, bb, FT, Int.reduceEq, Int.reduceToNat, Int.reduceLE, Int.reduceLT, Int.reduceAdd, Int.reduceMul, Int.reduceSub, Int.reduceNeg, Nat.reduceAdd, Nat.reduceSub, Nat.reduceMul, Nat.reduceLT, Nat.reduceBEq, Nat.reduceEqDiff, Nat.reduceLeDiff]
  rw [evalCode_drawn Try.f116 1 dr116_1]; rotate_left; rfl
  simp only [h1, h2, EVd, List.getElem?_nil, Nat.reducePow, Nat.reduceDiv, Nat.reduceMod, FT, Int.reduceEq, Int.reduceToNat, Int.reduceLE, Int.reduceLT, Int.reduceAdd, Int.reduceMul, Int.reduceSub, Int.reduceNeg, Nat.reduceAdd, Nat.reduceSub, Nat.reduceMul, Nat.reduceLT, Nat.reduceBEq, Nat.reduceEqDiff, Nat.reduceLeDiff]
theorem Mul_ev (k : Nat) (x y : RI) (hx : (nD x.v).length ≤ 50000) (hy : (nD y.v).length ≤ 50000) (hk : (nD x.v).length + (nD y.v).length + 20 ≤ k) : ∃ z : RI, z.v = x.v * y.v ∧ run (k+4) 117 [aW x, aW y] = some (aW z) := by
  have hmu := mul_ev (k + 1) (nD x.v) (nD y.v) x.nl y.nl x.cap y.cap (can_dig _).ok (can_dig _).ok (by omega) (by omega) (by omega)
  rw [vd_dig, vd_dig] at hmu
  have hm := made_ev (k + 2) (!(decide (x.v < 0) == decide (y.v < 0))) (x.v.natAbs * y.v.natAbs) false (some (dig (x.v.natAbs * y.v.natAbs)).length)
  have hv : sgn (!(decide (x.v < 0) == decide (y.v < 0))) (x.v.natAbs * y.v.natAbs) = x.v * y.v := by
    rw [← Int.natAbs_mul]
    unfold sgn
    by_cases h1 : x.v < 0 <;> by_cases h2 : y.v < 0
    · have := Int.mul_pos_of_neg_of_neg h1 h2
      simp only [h1, h2, decide_true]
      simp
      omega
    · have := Int.mul_nonpos_of_nonpos_of_nonneg (show x.v ≤ 0 by omega) (show 0 ≤ y.v by omega)
      simp only [h1, h2, decide_true, decide_false]
      simp
      omega
    · have := Int.mul_nonpos_of_nonneg_of_nonpos (show 0 ≤ x.v by omega) (show y.v ≤ 0 by omega)
      simp only [h1, h2, decide_true, decide_false]
      simp
      omega
    · have := Int.mul_nonneg (show 0 ≤ x.v by omega) (show 0 ≤ y.v by omega)
      simp only [h1, h2, decide_false]
      simp
      omega
  rw [hv] at hm
  refine ⟨⟨x.v * y.v, false, some (dig (x.v.natAbs * y.v.natAbs)).length⟩, rfl, ?_⟩
  simp only [run, bb, aW] at hm hmu
  rw [run, ev117, ans_trim]
  simp only [Try.f117, aW, bb, FT, Int.reduceEq, Int.reduceToNat, Int.reduceLE, Int.reduceLT, Int.reduceAdd, Int.reduceMul, Int.reduceSub, Int.reduceNeg, Nat.reduceAdd, Nat.reduceSub, Nat.reduceMul, Nat.reduceLT, Nat.reduceBEq, Nat.reduceEqDiff, Nat.reduceLeDiff]
  rw [evalCode_drawn Try.f117 1 dr117_1]; rotate_left; rfl
  simp only [hmu, hm, EVd, List.getElem?_nil, Nat.reducePow, Nat.reduceDiv, Nat.reduceMod, FT, Int.reduceEq, Int.reduceToNat, Int.reduceLE, Int.reduceLT, Int.reduceAdd, Int.reduceMul, Int.reduceSub, Int.reduceNeg, Nat.reduceAdd, Nat.reduceSub, Nat.reduceMul, Nat.reduceLT, Nat.reduceBEq, Nat.reduceEqDiff, Nat.reduceLeDiff]
end
end Go.Proofs.Sw.W
namespace Go.Proofs.Sw.W
open Go.Ab
section
variable [Globals]
theorem Make_ev (k : Nat) (neg : Bool) (a : List Nat) (nl : Bool) (cap : Option Nat) (ha : okD a) (hl : a.length ≤ 1000000) (hk : a.length < k) : ∃ nl3 cap3, run (k+3) 121 [bb neg, sD a nl cap] = some (aW ⟨sgn neg (vd a), nl3, cap3⟩) := by
  obtain ⟨nl3, cap3, h1⟩ := norm_ev k a nl cap hl hk
  rw [dig_of ha] at h1
  have hm := made_ev (k + 1) neg (vd a) nl3 cap3
  refine ⟨nl3, cap3, ?_⟩
  simp only [run, bb, aW] at h1 hm
  rw [run, ev121, ans_trim]
  simp only [Try.f121, aW, bb, h1, hm, FT, Int.reduceEq, Int.reduceToNat, Int.reduceLE, Int.reduceLT, Int.reduceAdd, Int.reduceMul, Int.reduceSub, Int.reduceNeg, Nat.reduceAdd, Nat.reduceSub, Nat.reduceMul, Nat.reduceLT, Nat.reduceBEq, Nat.reduceEqDiff, Nat.reduceLeDiff]
theorem Of_ev (k : Nat) (n : Int) (h0 : -9223372036854775808 ≤ n) (h1 : n ≤ 9223372036854775807) (hk : 20 < k) : ∃ x : RI, x.v = n ∧ run (k+4) 95 [ii n] = some (aW x) := by
  have hk : 2 < k := by omega
  obtain ⟨u, hu⟩ : ∃ u, u = n.natAbs := ⟨_, rfl⟩
  have hu64 : u < 18446744073709551616 := by omega
  have hok : okD [u % 4294967296, u / 4294967296 % 4294967296] := by
    intro d hd
    simp only [List.mem_cons, List.not_mem_nil, or_false] at hd
    rcases hd with rfl | rfl <;> omega
  have hvd : vd [u % 4294967296, u / 4294967296 % 4294967296] = u := by simp only [vd]; omega
  have e : ∀ m : Int, IntKind.wrap .u64 m = m % 18446744073709551616 := fun m => rfl
  by_cases hn : n < 0
  · have hw1 : IntKind.wrap .u64 n = ((18446744073709551616 - u : Nat) : Int) := by rw [e]; omega
    have hw2 : IntKind.wrap .u64 (0 - ((18446744073709551616 - u : Nat) : Int)) = (u : Int) := by rw [e]; omega
    obtain ⟨nl3, cap3, hmk⟩ := Make_ev k true [u % 4294967296, u / 4294967296 % 4294967296] false none hok (by simp) (by simpa using hk)
    rw [hvd] at hmk
    obtain ⟨H2, hds, hl2, hold⟩ := hand2 (k := k + 3) (f := 95) (r := 4) (i := 8) (id := 1) (g := 121) (x := bb true) (a := [u % 4294967296, u / 4294967296 % 4294967296]) (H := [.cells 140 [.c (.bool false), .c (.slice [] 0 true (some 0))], rD [u % 4294967296, u / 4294967296 % 4294967296]]) (by rfl) (by rfl) (by rfl) (by rfl) hmk
    have h20 := hold 0 (by omega)
    simp only [List.getElem?_cons_zero, List.getElem?_cons_succ] at h20
    have hset : ∀ X : AObj, (H2.set 0 X)[0]? = some X := fun X => List.getElem?_set_self (by rw [hl2]; simp)
    have hv : sgn true u = n := by unfold sgn; simp; omega
    rw [hv] at hmk hds
    refine ⟨⟨n, nl3, cap3⟩, rfl, ?_⟩
    have henc : encD [u % 4294967296, u / 4294967296 % 4294967296] = [.int .u32 ((u % 4294967296 : Nat) : Int), .int .u32 ((u / 4294967296 % 4294967296 : Nat) : Int)] := rfl
    simp only [run, bb, aW, sD, rD, henc, List.length_cons, List.length_nil, Nat.reduceAdd] at hmk hds h20
    rw [run, ev95, ans_trim]
    simp only [Try.f95, ii, bb, hn, hw1, hw2, wrap32m, shr64, hmk, hds, h20, hset, strict_slice, strict_c, strict_agg, strict0_c, strict_bool, Nat.le_refl, FT, Int.reduceEq, Int.reduceToNat, Int.reduceLE, Int.reduceLT, Int.reduceAdd, Int.reduceMul, Int.reduceSub, Int.reduceNeg, Nat.reduceAdd, Nat.reduceSub, Nat.reduceMul, Nat.reduceLT, Nat.reduceBEq, Nat.reduceEqDiff, Nat.reduceLeDiff]
    simp only [aW, hn, decide_true]
  · have hw1 : IntKind.wrap .u64 n = (u : Int) := by rw [e]; omega
    obtain ⟨nl3, cap3, hmk⟩ := Make_ev k false [u % 4294967296, u / 4294967296 % 4294967296] false none hok (by simp) (by simpa using hk)
    rw [hvd] at hmk
    obtain ⟨H2, hds, hl2, hold⟩ := hand2 (k := k + 3) (f := 95) (r := 4) (i := 8) (id := 1) (g := 121) (x := bb false) (a := [u % 4294967296, u / 4294967296 % 4294967296]) (H := [.cells 140 [.c (.bool false), .c (.slice [] 0 true (some 0))], rD [u % 4294967296, u / 4294967296 % 4294967296]]) (by rfl) (by rfl) (by rfl) (by rfl) hmk
    have h20 := hold 0 (by omega)
    simp only [List.getElem?_cons_zero, List.getElem?_cons_succ] at h20
    have hset : ∀ X : AObj, (H2.set 0 X)[0]? = some X := fun X => List.getElem?_set_self (by rw [hl2]; simp)
    have hv : sgn false u = n := by unfold sgn; simp; omega
    rw [hv] at hmk hds
    refine ⟨⟨n, nl3, cap3⟩, rfl, ?_⟩
    have henc : encD [u % 4294967296, u / 4294967296 % 4294967296] = [.int .u32 ((u % 4294967296 : Nat) : Int), .int .u32 ((u / 4294967296 % 4294967296 : Nat) : Int)] := rfl
    simp only [run, bb, aW, sD, rD, henc, List.length_cons, List.length_nil, Nat.reduceAdd] at hmk hds h20
    rw [run, ev95, ans_trim]
    simp only [Try.f95, ii, bb, hn, hw1, wrap32m, shr64, hmk, hds, h20, hset, strict_slice, strict_c, strict_agg, strict0_c, strict_bool, Nat.le_refl, FT, Int.reduceEq, Int.reduceToNat, Int.reduceLE, Int.reduceLT, Int.reduceAdd, Int.reduceMul, Int.reduceSub, Int.reduceNeg, Nat.reduceAdd, Nat.reduceSub, Nat.reduceMul, Nat.reduceLT, Nat.reduceBEq, Nat.reduceEqDiff, Nat.reduceLeDiff]
    simp only [aW, hn, decide_false]
end
end Go.Proofs.Sw.W
namespace Go.Proofs.Sw.W
open Go.Ab
structure DsI (a O : List Nat) (d r j : Nat) : Prop where
  len : O.length = a.length
  ok : okD O
  rd : r < d
  vl : vd (O.drop j) * d + r = vd (a.drop j)
theorem vd_drop (l : List Nat) {j : Nat} (h : j < l.length) : vd (l.drop j) = l.getD j 0 + 4294967296 * vd (l.drop (j + 1)) := by
  rw [List.drop_eq_getElem_cons h, vd, List.getD_eq_getElem?_getD, List.getElem?_eq_getElem h]; rfl
theorem drop_set (l : List Nat) (i v : Nat) : (l.set i v).drop (i + 1) = l.drop (i + 1) := by
  apply List.ext_getElem?
  intro j
  rw [List.getElem?_drop, List.getElem?_drop, List.getElem?_set, if_neg (by omega)]
theorem DsI.step {a O : List Nat} {d r j : Nat} (h : DsI a O d r (j + 1)) (ha : okD a) (hd : d < 4294967296) (hj : j < a.length) :
    r * 4294967296 + a.getD j 0 < 18446744073709551616 ∧ (r * 4294967296 + a.getD j 0) / d < 4294967296 ∧ DsI a (O.set j ((r * 4294967296 + a.getD j 0) / d)) d ((r * 4294967296 + a.getD j 0) % d) j := by
  have h1 := okD_get ha j
  have h2 := h.rd
  have hd0 : 0 < d := by omega
  obtain ⟨s, hs⟩ : ∃ s, s = r * 4294967296 + a.getD j 0 := ⟨_, rfl⟩
  have hsd : s < 4294967296 * d := by
    have : (r + 1) * 4294967296 ≤ d * 4294967296 := Nat.mul_le_mul_right _ h2
    omega
  have hq : s / d < 4294967296 := (Nat.div_lt_iff_lt_mul hd0).2 hsd
  rw [← hs]
  refine ⟨by omega, hq, by rw [List.length_set]; exact h.len, okD_set h.ok hq, Nat.mod_lt _ hd0, ?_⟩
  have hv := h.vl
  have e1 := Nat.div_add_mod s d
  rw [vd_drop _ (by rw [List.length_set, h.len]; exact hj), vd_drop a hj, drop_set, getD_set_self (by rw [h.len]; exact hj), Nat.add_mul, Nat.mul_assoc, Nat.mul_comm (s / d)]
  have e2 := congrArg (4294967296 * ·) hv
  simp only [Nat.mul_add] at e2
  omega
section
variable [Globals]
theorem loop_divs (kf : Nat) (a : List Nat) (d : Nat) (nl : Bool) (cap : Option Nat) (ha : okD a) (hd : d < 4294967296) (hd0 : 0 < d) (hla : a.length ≤ 100000) (O0 : List Nat) (h0 : DsI a O0 d 0 a.length) (k : Nat) (l : Ass) (z : Option Out) (hz : loopR Try.prog tab kf none LB142_6 142 46 [0, 1, 7, 8, 9] 1 k l ([rD O0]) = z) (hk : a.length < k) (a0 : asc l 0 = sD a nl cap) (a1 : asc l 1 = .c (.int .u32 (d : Int))) (a7 : asc l 7 = .hsl 0 0 a.length a.length 1) (a8 : asc l 8 = .c (.int .u64 ((0) : Int))) (a9 : asc l 9 = ii ((a.length : Int) - 1 - 0)) :
    ∃ l' O r, z = some (.exit 0 (fr 46 l') [rD O]) ∧ asc l' 7 = .hsl 0 0 a.length a.length 1 ∧ asc l' 8 = .c (.int .u64 ((r : Nat) : Int)) ∧ DsI a O d r 0 := by
  subst hz
  refine loop_nat a.length (fun k l H => loopR Try.prog tab kf none LB142_6 142 46 [0, 1, 7, 8, 9] 1 k l H)
    (fun i l H => ∃ (O : List Nat), ∃ (r : Nat), asc l 0 = sD a nl cap ∧ asc l 1 = .c (.int .u32 (d : Int)) ∧ asc l 7 = .hsl 0 0 a.length a.length 1 ∧ asc l 8 = .c (.int .u64 (r : Int)) ∧ asc l 9 = ii ((a.length : Int) - 1 - i) ∧ (DsI a O d r (a.length - i)) ∧ H = ([rD O]))
    (fun z => ∃ l' O r, z = some (.exit 0 (fr 46 l') [rD O]) ∧ asc l' 7 = .hsl 0 0 a.length a.length 1 ∧ asc l' 8 = .c (.int .u64 ((r : Nat) : Int)) ∧ DsI a O d r 0) ?_ a.length 0 k l _ (by omega) hk ⟨O0, (0), a0, a1, a7, a8, a9, h0, rfl⟩
  clear hk a0 a1 a7 a8 a9
  rintro i k l H hi ⟨O, r, a0, a1, a7, a8, a9, hp, rfl⟩
  have ht : trim 1 (fr 46 (keep l [0, 1, 7, 8, 9])) ([rD O]) = ([rD O]) := by
    exact trim_same rfl
  by_cases hc : i < a.length
  · have hc' : (i : Int) < ((a.length : Nat) : Int) := by omega
    have hc0 : (0 : Int) ≤ i := by omega
    have hw : IntKind.wrap .i64 ((i : Int) + 1) = ((i + 1 : Nat) : Int) := by rw [wrap64 (by omega) (by omega)]; omega
    obtain ⟨j, hj⟩ : ∃ j, a.length = j + 1 + i := ⟨a.length - 1 - i, by omega⟩
    have e1 : a.length - i = j + 1 := by omega
    have e2 : a.length - (i + 1) = j := by omega
    have e3 : (a.length : Int) - 1 - (i : Int) = (j : Int) := by omega
    have e4 : (a.length : Int) - 1 - ((i + 1 : Nat) : Int) = (j : Int) - 1 := by omega
    rw [e3] at a9
    rw [e1] at hp
    rw [e2, e4]
    have hj0 : (0 : Int) ≤ j := by omega
    have hj1 : (j : Int) < a.length := by omega
    have hj2 : j < a.length := by omega
    have hx := encD_get (l := a) (i := j) hj2
    have hw2 : IntKind.wrap .i64 ((j : Int) - 1) = (j : Int) - 1 := by rw [wrap64 (by omega) (by omega)]
    have hela := encD_length a
    have helO := encD_length O
    have hOl := hp.len
    have h1 := okD_get ha j
    have h2 := hp.rd
    obtain ⟨s1, s2, hst⟩ := hp.step ha hd hj2
    have hcv1 : IntKind.wrap .u64 ((a.getD j 0 : Nat) : Int) = ((a.getD j 0 : Nat) : Int) := wr64 (by omega)
    have hcv2 : IntKind.wrap .u64 (d : Int) = (d : Int) := wr64 (by omega)
    have hsh := fun (X : Heap) (t : TypeId) => shl64 (H := X) (t := t) (a := r) (by omega)
    have hor := fun (X : Heap) (t : TypeId) => or64 (H := X) (t := t) (a := r) (b := a.getD j 0) (by omega) h1
    obtain ⟨s, hs⟩ : ∃ s, s = r * 4294967296 + a.getD j 0 := ⟨_, rfl⟩
    rw [← hs] at s1 s2 hst
    have hdz : ¬ (d : Int) = 0 := by omega
    have hq : ((s : Int)).tdiv (d : Int) = ((s / d : Nat) : Int) := rfl
    have hm : ((s : Int)).tmod (d : Int) = ((s % d : Nat) : Int) := rfl
    have hqw : IntKind.wrap .u64 ((s / d : Nat) : Int) = ((s / d : Nat) : Int) := wr64 (by omega)
    have hqm : s / d % 4294967296 = s / d := Nat.mod_eq_of_lt s2
    have hset := fun v : Nat => encD_set (l := O) (i := j) (d := v)
    simp only [loopR_succ, ht]
    simp only [a0, a1, a7, a8, a9, hc', hc0, hw, hx, hj0, hj1, hj2, hw2, hela, helO, hOl, hcv1, hcv2, hsh, hor, ← hs, hdz, hq, hm, hqw, hqm, wrap32m, hset, loopR_succ, loopOf, findLoop, firstRegion, Option.some_or, Option.none_or, Option.getD_some, Option.some.injEq, Try.f142, FT, Int.reduceEq, Int.reduceToNat, Int.reduceLE, Int.reduceLT, Int.reduceAdd, Int.reduceMul, Int.reduceSub, Int.reduceNeg, Nat.reduceAdd, Nat.reduceSub, Nat.reduceMul, Nat.reduceLT, Nat.reduceBEq, Nat.reduceEqDiff, Nat.reduceLeDiff]
    exact .inr ⟨_, _, hc, rfl, _, _, (by rfl), (by rfl), (by rfl), (by rfl), (by rfl), hst, rfl⟩
  · refine .inl ?_
    obtain rfl : i = a.length := by omega
    have hc' : ¬ (((a.length : Nat) : Int) < ((a.length : Nat) : Int)) := by omega
    have hlt : ¬ ((0 : Int) ≤ (a.length : Int) - 1 - a.length) := by omega
    rw [Nat.sub_self] at hp
    simp only [loopR_succ, ht]
    simp only [a0, a1, a7, a8, a9, hlt, loopR_succ, loopOf, findLoop, firstRegion, Option.some_or, Option.none_or, Option.getD_some, Option.some.injEq, Try.f142, FT, Int.reduceEq, Int.reduceToNat, Int.reduceLE, Int.reduceLT, Int.reduceAdd, Int.reduceMul, Int.reduceSub, Int.reduceNeg, Nat.reduceAdd, Nat.reduceSub, Nat.reduceMul, Nat.reduceLT, Nat.reduceBEq, Nat.reduceEqDiff, Nat.reduceLeDiff]
    exact ⟨_, O, r, rfl, (by rfl), (by rfl), hp⟩
theorem divs_ev (k : Nat) (a : List Nat) (d : Nat) (nl : Bool) (cap : Option Nat) (ha : okD a) (hd0 : 0 < d) (hd : d < 4294967296) (hla : a.length ≤ 100000) (hk : a.length + 10 < k) :
    run (k+2) 142 [sD a nl cap, .c (.int .u32 (d : Int))] = some (.tup [sD (dig (vd a / d)) false (some (dig (vd a / d)).length), .c (.int .u32 ((vd a % d : Nat) : Int)), ii 0]) := by
  have hdz : ¬ (d : Int) = 0 := by omega
  have q1 : (0 : Int) ≤ (a.length : Int) := by omega
  have q2 : a.length * 4 ≤ roomBytes := Nat.le_trans (show a.length * 4 ≤ 4000000 by omega) (by decide)
  have q3 : a.length ≤ roomBytes := Nat.le_trans (show a.length ≤ 1000000 by omega) (by decide)
  have hw1 : IntKind.wrap .i64 ((a.length : Int) - 1) = (a.length : Int) - 1 := by rw [wrap64 (by omega) (by omega)]
  rw [run, ev142, ans_trim]
  simp only [Try.f142, hdz, q1, q2, q3, hw1, encD_rep0, ii, FT, Int.reduceEq, Int.reduceToNat, Int.reduceLE, Int.reduceLT, Int.reduceAdd, Int.reduceMul, Int.reduceSub, Int.reduceNeg, Nat.reduceAdd, Nat.reduceSub, Nat.reduceMul, Nat.reduceLT, Nat.reduceBEq, Nat.reduceEqDiff, Nat.reduceLeDiff]
  rw [evalCode_loopB LB142_6 lp142_6]; rotate_left; rfl; rfl; rfl
  generalize hz : loopR _ _ _ _ _ _ _ _ _ _ _ _ = z
  obtain ⟨l', P, r, rfl, e7, e8, hI⟩ := loop_divs (k + 1) a d nl cap ha hd hd0 hla (List.replicate a.length 0) ⟨by simp, fun d hd => by rw [List.eq_of_mem_replicate hd]; omega, hd0, by rw [List.drop_of_length_le (by simp), List.drop_of_length_le (Nat.le_refl _)]; simp [vd]⟩ _ _ z hz (by omega) (by rfl) (by rfl) (by rfl) (by rfl) (by rw [show (a.length : Int) - 1 - 0 = (a.length : Int) - 1 by omega]; rfl)
  clear hz
  have hv := hI.vl
  rw [List.drop_zero, List.drop_zero] at hv
  have hrd := hI.rd
  have hqv : vd P = vd a / d := by
    have := Nat.div_eq_of_lt_le (k := vd P) (m := vd a) (n := d) (by omega) (by rw [Nat.succ_mul]; omega)
    omega
  have hrv : r = vd a % d := by
    have h1 := Nat.div_add_mod (vd a) d
    rw [← hqv, Nat.mul_comm] at h1
    omega
  have hPl := hI.len
  have hok := hI.ok
  have hdo := dig_of hok
  rw [hqv] at hdo
  rw [← hPl] at e7
  have hrm : r % 4294967296 = r := Nat.mod_eq_of_lt (by omega)
  obtain ⟨H2, hds, _, hold⟩ := trim_call (k := k) (f := 142) (r := 11) (i := 1) (id := 0) (a := P) (H := [rD P]) (by rfl) (by omega) (by omega)
  have htr := trim_ev k P false none (by omega) (by omega)
  have hel := encD_length P
  have htk : (encD P).take P.length = encD P := List.take_of_length_le (by rw [hel]; exact Nat.le_refl _)
  simp only [run] at htr
  rw [hdo] at hds htr
  simp only [hPl] at hds hel htk e7
  simp only [sD, hPl] at htr
  simp only [e7, e8, hel, htk, htr, hds, wrap32m, hrm, ← hrv, strict_slice, strict_c, strict1_c, strict0_c, Nat.le_refl, FT, Int.reduceEq, Int.reduceToNat, Int.reduceLE, Int.reduceLT, Int.reduceAdd, Int.reduceMul, Int.reduceSub, Int.reduceNeg, Nat.reduceAdd, Nat.reduceSub, Nat.reduceMul, Nat.reduceLT, Nat.reduceBEq, Nat.reduceEqDiff, Nat.reduceLeDiff]
end
end Go.Proofs.Sw.W
namespace Go.Proofs.Sw.W
open Go.Ab
def tb8 (y : Nat) : Nat := if y = 0 then 0 else Nat.log2 y + 1
theorem tb8_facts {y : Nat} (h : 0 < y) : 1 ≤ tb8 y ∧ 2 ^ (tb8 y - 1) ≤ y ∧ y < 2 ^ tb8 y := by
  unfold tb8
  rw [if_neg (by omega)]
  exact ⟨by omega, by rw [Nat.add_sub_cancel]; exact Nat.log2_self_le (by omega), Nat.lt_log2_self⟩
section
variable [Globals]
theorem idx_of {S : ByteArray} {y : Nat} (h : (S[y]?).map UInt8.toNat = some (tb8 y)) : indexA Try.prog 9 (.c (.str S)) (.c (.int .u8 (y : Int))) = some (.c (.int .u8 ((tb8 y : Nat) : Int))) := by
  have e : indexA Try.prog 9 (.c (.str S)) (.c (.int .u8 (y : Int))) = if (0 : Int) ≤ (y : Int) then (S[((y : Nat) : Int).toNat]?).map (fun b => AV.c (.int .u8 b.toNat)) else none := by kernel_rfl
  rw [e, if_pos (by omega), Int.toNat_natCast]
  cases hs : S[y]? with
  | none => rw [hs] at h; cases h
  | some b =>
    rw [hs] at h
    have h2 : b.toNat = tb8 y := by simpa using h
    rw [Option.map_some, h2]
theorem shr32a {H : Heap} {t : TypeId} {a : Nat} : binA Try.prog H .shr t (.c (.int .u32 (a : Int))) (.c (.int .u64 16)) = some (.c (.int .u32 ((a / 65536 : Nat) : Int))) := by
  have e : binA Try.prog H .shr t (.c (.int .u32 (a : Int))) (.c (.int .u64 16)) = some (.c (.int .u32 ((a : Int).fdiv 65536))) := rfl
  rw [e, Int.fdiv_eq_ediv_of_nonneg _ (by omega)]
  rfl
theorem shr32b {H : Heap} {t : TypeId} {a : Nat} : binA Try.prog H .shr t (.c (.int .u32 (a : Int))) (.c (.int .u64 8)) = some (.c (.int .u32 ((a / 256 : Nat) : Int))) := by
  have e : binA Try.prog H .shr t (.c (.int .u32 (a : Int))) (.c (.int .u64 8)) = some (.c (.int .u32 ((a : Int).fdiv 256))) := rfl
  rw [e, Int.fdiv_eq_ediv_of_nonneg _ (by omega)]
  rfl
theorem wrap8 {n : Nat} (h : n < 256) : IntKind.wrap .u8 (n : Int) = (n : Int) := by
  have e : IntKind.wrap .u8 (n : Int) = (n : Int) % 256 := rfl
  rw [e]; omega
theorem len_up {x y n s : Nat} (hy : y = x / 2 ^ n) (h0 : 0 < y) (hs : s = n + tb8 y) : 1 ≤ s ∧ 2 ^ (s - 1) ≤ x ∧ x < 2 ^ s := by
  obtain ⟨h1, h2, h3⟩ := tb8_facts h0
  subst hs
  refine ⟨by omega, ?_, ?_⟩
  · rw [show n + tb8 y - 1 = tb8 y - 1 + n by omega, Nat.pow_add]
    rw [hy] at h2
    have := Nat.mul_le_mul_right (2 ^ n) h2
    exact Nat.le_trans (by rw [hy]; exact this) (Nat.div_mul_le_self _ _)
  · rw [Nat.add_comm, Nat.pow_add, ← Nat.div_lt_iff_lt_mul (Nat.pow_pos (by omega)), ← hy]
    exact h3
theorem len32_ev (k : Nat) (x : Nat) (hx0 : 0 < x) (hx : x < 4294967296) : ∃ s : Nat, run (k+1) 152 [.c (.int .u32 (x : Int))] = some (ii s) ∧ s ≤ 32 ∧ 1 ≤ s ∧ 2 ^ (s - 1) ≤ x ∧ x < 2 ^ s := by
  by_cases h1 : 65536 ≤ x
  · have h1' : (65536 : Int) ≤ (x : Int) := by omega
    by_cases h2 : 256 ≤ x / 65536
    · have h2' : (256 : Int) ≤ ((x / 65536 : Nat) : Int) := by omega
      have hy : x / 65536 / 256 < 256 := by omega
      have hw := wrap8 hy
      obtain ⟨q1, q2, q3⟩ := tb8_facts (y := x / 65536 / 256) (by omega)
      have hu := len_up (x := x) (y := x / 65536 / 256) (n := 24) (s := 24 + tb8 (x / 65536 / 256)) (by omega) (by omega) rfl
      have ht : tb8 (x / 65536 / 256) ≤ 8 := by
        by_cases h : tb8 (x / 65536 / 256) ≤ 8
        · exact h
        · have := Nat.pow_le_pow_right (show 2 > 0 by omega) (show 8 ≤ tb8 (x / 65536 / 256) - 1 by omega); omega
      refine ⟨24 + tb8 (x / 65536 / 256), ?_, by omega, hu⟩
      have hw2 : IntKind.wrap .i64 ((tb8 (x / 65536 / 256) : Nat) : Int) = ((tb8 (x / 65536 / 256) : Nat) : Int) := wrap64 (by omega) (by omega)
      have hw3 : IntKind.wrap .i64 (24 + ((tb8 (x / 65536 / 256) : Nat) : Int)) = ((24 + tb8 (x / 65536 / 256) : Nat) : Int) := by rw [wrap64 (by omega) (by omega)]; omega
      rw [run, ev152, ans_trim]
      simp only [Try.f152, h1', h2', shr32a, shr32b, hw, ii, FT, Int.reduceEq, Int.reduceToNat, Int.reduceLE, Int.reduceLT, Int.reduceAdd, Int.reduceMul, Int.reduceSub, Int.reduceNeg, Nat.reduceAdd, Nat.reduceSub, Nat.reduceMul, Nat.reduceLT, Nat.reduceBEq, Nat.reduceEqDiff, Nat.reduceLeDiff]
      rw [idx_of (y := x / 65536 / 256)]
      rotate_left
      · revert hy
        generalize x / 65536 / 256 = y
        revert y
        decide +kernel
      simp only [hw2, hw3, FT, Int.reduceEq, Int.reduceToNat, Int.reduceLE, Int.reduceLT, Int.reduceAdd, Int.reduceMul, Int.reduceSub, Int.reduceNeg, Nat.reduceAdd, Nat.reduceSub, Nat.reduceMul, Nat.reduceLT, Nat.reduceBEq, Nat.reduceEqDiff, Nat.reduceLeDiff]
    · have h2' : ¬ (256 : Int) ≤ ((x / 65536 : Nat) : Int) := by omega
      have hy : x / 65536 < 256 := by omega
      have hw := wrap8 hy
      obtain ⟨q1, q2, q3⟩ := tb8_facts (y := x / 65536) (by omega)
      have hu := len_up (x := x) (y := x / 65536) (n := 16) (s := 16 + tb8 (x / 65536)) (by omega) (by omega) rfl
      have ht : tb8 (x / 65536) ≤ 8 := by
        by_cases h : tb8 (x / 65536) ≤ 8
        · exact h
        · have := Nat.pow_le_pow_right (show 2 > 0 by omega) (show 8 ≤ tb8 (x / 65536) - 1 by omega); omega
      refine ⟨16 + tb8 (x / 65536), ?_, by omega, hu⟩
      have hw2 : IntKind.wrap .i64 ((tb8 (x / 65536) : Nat) : Int) = ((tb8 (x / 65536) : Nat) : Int) := wrap64 (by omega) (by omega)
      have hw3 : IntKind.wrap .i64 (16 + ((tb8 (x / 65536) : Nat) : Int)) = ((16 + tb8 (x / 65536) : Nat) : Int) := by rw [wrap64 (by omega) (by omega)]; omega
      rw [run, ev152, ans_trim]
      simp only [Try.f152, h1', h2', shr32a, hw, ii, FT, Int.reduceEq, Int.reduceToNat, Int.reduceLE, Int.reduceLT, Int.reduceAdd, Int.reduceMul, Int.reduceSub, Int.reduceNeg, Nat.reduceAdd, Nat.reduceSub, Nat.reduceMul, Nat.reduceLT, Nat.reduceBEq, Nat.reduceEqDiff, Nat.reduceLeDiff]
      rw [idx_of (y := x / 65536)]
      rotate_left
      · revert hy
        generalize x / 65536 = y
        revert y
        decide +kernel
      simp only [hw2, hw3, FT, Int.reduceEq, Int.reduceToNat, Int.reduceLE, Int.reduceLT, Int.reduceAdd, Int.reduceMul, Int.reduceSub, Int.reduceNeg, Nat.reduceAdd, Nat.reduceSub, Nat.reduceMul, Nat.reduceLT, Nat.reduceBEq, Nat.reduceEqDiff, Nat.reduceLeDiff]
  · have h1' : ¬ (65536 : Int) ≤ (x : Int) := by omega
    by_cases h2 : 256 ≤ x
    · have h2' : (256 : Int) ≤ ((x : Nat) : Int) := by omega
      have hy : x / 256 < 256 := by omega
      have hw := wrap8 hy
      obtain ⟨q1, q2, q3⟩ := tb8_facts (y := x / 256) (by omega)
      have hu := len_up (x := x) (y := x / 256) (n := 8) (s := 8 + tb8 (x / 256)) (by omega) (by omega) rfl
      have ht : tb8 (x / 256) ≤ 8 := by
        by_cases h : tb8 (x / 256) ≤ 8
        · exact h
        · have := Nat.pow_le_pow_right (show 2 > 0 by omega) (show 8 ≤ tb8 (x / 256) - 1 by omega); omega
      refine ⟨8 + tb8 (x / 256), ?_, by omega, hu⟩
      have hw2 : IntKind.wrap .i64 ((tb8 (x / 256) : Nat) : Int) = ((tb8 (x / 256) : Nat) : Int) := wrap64 (by omega) (by omega)
      have hw3 : IntKind.wrap .i64 (8 + ((tb8 (x / 256) : Nat) : Int)) = ((8 + tb8 (x / 256) : Nat) : Int) := by rw [wrap64 (by omega) (by omega)]; omega
      rw [run, ev152, ans_trim]
      simp only [Try.f152, h1', h2', shr32b, hw, ii, FT, Int.reduceEq, Int.reduceToNat, Int.reduceLE, Int.reduceLT, Int.reduceAdd, Int.reduceMul, Int.reduceSub, Int.reduceNeg, Nat.reduceAdd, Nat.reduceSub, Nat.reduceMul, Nat.reduceLT, Nat.reduceBEq, Nat.reduceEqDiff, Nat.reduceLeDiff]
      rw [idx_of (y := x / 256)]
      rotate_left
      · revert hy
        generalize x / 256 = y
        revert y
        decide +kernel
      simp only [hw2, hw3, FT, Int.reduceEq, Int.reduceToNat, Int.reduceLE, Int.reduceLT, Int.reduceAdd, Int.reduceMul, Int.reduceSub, Int.reduceNeg, Nat.reduceAdd, Nat.reduceSub, Nat.reduceMul, Nat.reduceLT, Nat.reduceBEq, Nat.reduceEqDiff, Nat.reduceLeDiff]
    · have h2' : ¬ (256 : Int) ≤ ((x : Nat) : Int) := by omega
      have hy : x < 256 := by omega
      have hw := wrap8 hy
      obtain ⟨q1, q2, q3⟩ := tb8_facts (y := x) (by omega)
      have hu := len_up (x := x) (y := x) (n := 0) (s := 0 + tb8 x) (by simp) (by omega) rfl
      have ht : tb8 x ≤ 8 := by
        by_cases h : tb8 x ≤ 8
        · exact h
        · have := Nat.pow_le_pow_right (show 2 > 0 by omega) (show 8 ≤ tb8 x - 1 by omega); omega
      rw [Nat.zero_add] at hu
      refine ⟨tb8 x, ?_, by omega, hu⟩
      have hw2 : IntKind.wrap .i64 ((tb8 x : Nat) : Int) = ((tb8 x : Nat) : Int) := wrap64 (by omega) (by omega)
      have hw3 : IntKind.wrap .i64 (0 + ((tb8 x : Nat) : Int)) = ((tb8 x : Nat) : Int) := by rw [wrap64 (by omega) (by omega)]; omega
      rw [run, ev152, ans_trim]
      simp only [Try.f152, h1', h2', hw, ii, FT, Int.reduceEq, Int.reduceToNat, Int.reduceLE, Int.reduceLT, Int.reduceAdd, Int.reduceMul, Int.reduceSub, Int.reduceNeg, Nat.reduceAdd, Nat.reduceSub, Nat.reduceMul, Nat.reduceLT, Nat.reduceBEq, Nat.reduceEqDiff, Nat.reduceLeDiff]
      rw [idx_of (y := x)]
      rotate_left
      · revert hy
        generalize x = y
        revert y
        decide +kernel
      simp only [hw2, hw3, FT, Int.reduceEq, Int.reduceToNat, Int.reduceLE, Int.reduceLT, Int.reduceAdd, Int.reduceMul, Int.reduceSub, Int.reduceNeg, Nat.reduceAdd, Nat.reduceSub, Nat.reduceMul, Nat.reduceLT, Nat.reduceBEq, Nat.reduceEqDiff, Nat.reduceLeDiff]
theorem lz32_ev (k : Nat) (x : Nat) (hx0 : 0 < x) (hx : x < 4294967296) : ∃ s : Nat, run (k+2) 143 [.c (.int .u32 (x : Int))] = some (ii s) ∧ s < 32 ∧ 2147483648 ≤ x * 2 ^ s ∧ x * 2 ^ s < 4294967296 := by
  obtain ⟨s, h1, h2, h3, h4, h5⟩ := len32_ev k x hx0 hx
  have hw : IntKind.wrap .i64 (32 - (s : Int)) = ((32 - s : Nat) : Int) := by rw [wrap64 (by omega) (by omega)]; omega
  refine ⟨32 - s, ?_, by omega, ?_, ?_⟩
  · simp only [run, ii] at h1
    rw [run, ev143, ans_trim]
    simp only [Try.f143, h1, hw, ii, FT, Int.reduceEq, Int.reduceToNat, Int.reduceLE, Int.reduceLT, Int.reduceAdd, Int.reduceMul, Int.reduceSub, Int.reduceNeg, Nat.reduceAdd, Nat.reduceSub, Nat.reduceMul, Nat.reduceLT, Nat.reduceBEq, Nat.reduceEqDiff, Nat.reduceLeDiff]
  · have := Nat.mul_le_mul_right (2 ^ (32 - s)) h4
    rw [← Nat.pow_add, show s - 1 + (32 - s) = 31 by omega] at this
    exact this
  · have := Nat.mul_lt_mul_of_pos_right h5 (show 0 < 2 ^ (32 - s) from Nat.pow_pos (by omega))
    rw [← Nat.pow_add, show s + (32 - s) = 32 by omega] at this
    exact this
end
end Go.Proofs.Sw.W
namespace Go.Proofs.Sw.W
open Go.Ab
theorem or_sum {i a b : Nat} (hb : b < 2 ^ i) : b ||| 2 ^ i * a = b + 2 ^ i * a := by
  rw [Nat.or_comm, ← Nat.two_pow_add_eq_or_of_lt hb]; omega
structure ShU (a O : List Nat) (L q s i : Nat) : Prop where
  len : O.length = L
  ok : okD O
  top : O.getD (i + q) 0 < 2 ^ s
  z : ∀ j, i + q < j → O.getD j 0 = 0
  vl : vd O = 4294967296 ^ q * (2 ^ s * vd (a.take i))
theorem pow_s {s : Nat} (h : s < 32) : 4294967296 = 2 ^ s * 2 ^ (32 - s) := by rw [← Nat.pow_add, show s + (32 - s) = 32 by omega]
theorem up_parts {x s : Nat} (hs : s < 32) (hx : x < 4294967296) : x * 2 ^ s % 4294967296 = 2 ^ s * (x % 2 ^ (32 - s)) ∧ x * 2 ^ s / 4294967296 < 2 ^ s ∧ 2 ^ s * (x % 2 ^ (32 - s)) + 2 ^ s ≤ 4294967296 := by
  have hp : 0 < 2 ^ (32 - s) := Nat.pow_pos (by omega)
  refine ⟨?_, ?_, ?_⟩
  · conv => lhs; rw [pow_s hs, Nat.mul_comm x]
    exact Nat.mul_mod_mul_left ..
  · rw [Nat.div_lt_iff_lt_mul (by omega), Nat.mul_comm]
    exact Nat.mul_lt_mul_of_pos_left hx (Nat.pow_pos (by omega))
  · have h1 : x % 2 ^ (32 - s) + 1 ≤ 2 ^ (32 - s) := Nat.mod_lt _ hp
    have h2 := Nat.mul_le_mul_left (2 ^ s) h1
    rw [← pow_s hs, Nat.mul_add, Nat.mul_one] at h2
    exact h2
theorem ShU.step {a O : List Nat} {L q s i : Nat} (h : ShU a O L q s i) (ha : okD a) (hs : s < 32) (hL : i + q + 1 < L) :
    O.getD (i + q) 0 ||| (a.getD i 0 * 2 ^ s % 4294967296) < 4294967296 ∧ O.getD (i + q + 1) 0 ||| (a.getD i 0 * 2 ^ s / 4294967296 % 4294967296) < 4294967296 ∧
    ShU a ((O.set (i + q) (O.getD (i + q) 0 ||| (a.getD i 0 * 2 ^ s % 4294967296))).set (i + q + 1) (O.getD (i + q + 1) 0 ||| (a.getD i 0 * 2 ^ s / 4294967296 % 4294967296))) L q s (i + 1) := by
  have h1 := okD_get ha i
  obtain ⟨u1, u2, u3⟩ := up_parts hs h1
  have ht := h.top
  have hp32 : 2 ^ s < 4294967296 := Nat.lt_of_lt_of_le (Nat.pow_lt_pow_right (by omega) hs) (by decide)
  have e1 : O.getD (i + q) 0 ||| (a.getD i 0 * 2 ^ s % 4294967296) = O.getD (i + q) 0 + a.getD i 0 * 2 ^ s % 4294967296 := by rw [u1, or_sum ht]
  have e2 : O.getD (i + q + 1) 0 ||| (a.getD i 0 * 2 ^ s / 4294967296 % 4294967296) = a.getD i 0 * 2 ^ s / 4294967296 := by
    rw [h.z (i + q + 1) (by omega), Nat.zero_or, Nat.mod_eq_of_lt (by omega)]
  rw [e1, e2]
  obtain ⟨y, hy⟩ : ∃ y, y = a.getD i 0 * 2 ^ s := ⟨_, rfl⟩
  rw [← hy] at u1 u2 ⊢
  have hlo : O.getD (i + q) 0 + y % 4294967296 < 4294967296 := by omega
  refine ⟨hlo, by omega, by rw [List.length_set, List.length_set]; exact h.len, okD_set (okD_set h.ok hlo) (by omega), ?_, fun j hj => ?_, ?_⟩
  · rw [show i + 1 + q = i + q + 1 by omega, getD_set_self (by rw [List.length_set, h.len]; exact hL)]
    exact u2
  · rw [getD_set_ne (by omega), getD_set_ne (by omega)]
    exact h.z j (by omega)
  · have s1 := vd_set O (i + q) (O.getD (i + q) 0 + y % 4294967296) (by rw [h.len]; omega)
    have s2 := vd_set (O.set (i + q) (O.getD (i + q) 0 + y % 4294967296)) (i + q + 1) (y / 4294967296) (by rw [List.length_set, h.len]; exact hL)
    rw [getD_set_ne (show i + q ≠ i + q + 1 by omega), h.z (i + q + 1) (by omega)] at s2
    have hv := h.vl
    obtain ⟨B, hB⟩ : ∃ B, B = 4294967296 ^ (i + q) := ⟨_, rfl⟩
    have e3 : 4294967296 ^ (i + q + 1) * (y / 4294967296) = B * (4294967296 * (y / 4294967296)) := by rw [Nat.pow_succ, Nat.mul_assoc, hB]
    have e4 : B * (y % 4294967296) + B * (4294967296 * (y / 4294967296)) = B * y := by rw [← Nat.mul_add]; congr 1; omega
    have e5 : 4294967296 ^ q * (2 ^ s * (4294967296 ^ i * a.getD i 0)) = B * y := by
      rw [hB, hy, Nat.pow_add, Nat.mul_left_comm (2 ^ s), Nat.mul_comm (2 ^ s), ← Nat.mul_assoc, Nat.mul_comm (4294967296 ^ q)]
    rw [vd_take, Nat.mul_add, Nat.mul_add, e5]
    rw [← hB, Nat.mul_add] at s1
    rw [e3] at s2
    omega
section
variable [Globals]
theorem or32 {H : Heap} {t : TypeId} {a b : Nat} (ha : a < 4294967296) (hb : b < 4294967296) (h : a ||| b < 4294967296) : binA Try.prog H .or t (.c (.int .u32 (a : Int))) (.c (.int .u32 (b : Int))) = some (.c (.int .u32 ((a ||| b : Nat) : Int))) := by
  have e : binA Try.prog H .or t (.c (.int .u32 (a : Int))) (.c (.int .u32 (b : Int))) = some (.c (.int .u32 (IntKind.wrap .u32 ((BitVec.ofInt 32 (a : Int) ||| BitVec.ofInt 32 (b : Int)).toNat : Nat)))) := rfl
  rw [e, BitVec.toNat_or, of32 ha, of32 hb, wr32 h]
theorem loop_shl (kf : Nat) (a : List Nat) (nl : Bool) (cap : Option Nat) (ha : okD a) (n L q s : Nat) (hq : q = n / 32) (hs : s = n % 32) (hL : L = a.length + q + 1) (hL6 : L ≤ 1000000) (O0 : List Nat) (h0 : ShU a O0 L q s 0) (k : Nat) (l : Ass) (z : Option Out) (hz : loopR Try.prog tab kf none LB144_8 144 62 [1, 6, 7, 24, 25, 26] 1 k l ([rD O0]) = z) (hk : a.length < k) (a1 : asc l 1 = ii n) (a6 : asc l 6 = .hsl 0 0 L L 1) (a7 : asc l 7 = ii s) (a24 : asc l 24 = sD a nl cap) (a25 : asc l 25 = ii a.length) (a26 : asc l 26 = ii 0) :
    ∃ l' O, z = some (.exit 0 (fr 62 l') [rD O]) ∧ asc l' 6 = .hsl 0 0 L L 1 ∧ ShU a O L q s a.length := by
  subst hz
  refine loop_nat a.length (fun k l H => loopR Try.prog tab kf none LB144_8 144 62 [1, 6, 7, 24, 25, 26] 1 k l H)
    (fun i l H => ∃ (O : List Nat), asc l 1 = ii n ∧ asc l 6 = .hsl 0 0 L L 1 ∧ asc l 7 = ii s ∧ asc l 24 = sD a nl cap ∧ asc l 25 = ii a.length ∧ asc l 26 = ii i ∧ (ShU a O L q s i) ∧ H = ([rD O]))
    (fun z => ∃ l' O, z = some (.exit 0 (fr 62 l') [rD O]) ∧ asc l' 6 = .hsl 0 0 L L 1 ∧ ShU a O L q s a.length) ?_ a.length 0 k l _ (by omega) hk ⟨O0, a1, a6, a7, a24, a25, a26, h0, rfl⟩
  clear hk a1 a6 a7 a24 a25 a26
  rintro i k l H hi ⟨O, a1, a6, a7, a24, a25, a26, hp, rfl⟩
  have ht : trim 1 (fr 62 (keep l [1, 6, 7, 24, 25, 26])) ([rD O]) = ([rD O]) := by
    exact trim_same rfl
  by_cases hc : i < a.length
  · have hc' : (i : Int) < ((a.length : Nat) : Int) := by omega
    have hc0 : (0 : Int) ≤ i := by omega
    have hw : IntKind.wrap .i64 ((i : Int) + 1) = ((i + 1 : Nat) : Int) := by rw [wrap64 (by omega) (by omega)]; omega
    have hx := encD_get (l := a) hc
    have hela := encD_length a
    have helO := encD_length O
    have hOl := hp.len
    have h1 := okD_get ha i
    have hs32 : s < 32 := by omega
    have hiq : i + q + 1 < L := by omega
    obtain ⟨b1, b2, hst⟩ := hp.step ha hs32 hiq
    have htq : ((n : Nat) : Int).tdiv 32 = ((q : Nat) : Int) := by rw [hq]; rfl
    have hwq : IntKind.wrap .i64 (q : Int) = (q : Int) := wrap64 (by omega) (by omega)
    have hwi : IntKind.wrap .i64 ((i : Int) + (q : Int)) = ((i + q : Nat) : Int) := by rw [wrap64 (by omega) (by omega)]; omega
    have hwj : IntKind.wrap .i64 (((i + q : Nat) : Int) + 1) = ((i + q + 1 : Nat) : Int) := by rw [wrap64 (by omega) (by omega)]; omega
    have p1 : (0 : Int) ≤ ((i + q : Nat) : Int) := by omega
    have p2 : ((i + q : Nat) : Int) < (L : Int) := by omega
    have p3 : i + q < L := by omega
    have p4 : (0 : Int) ≤ ((i + q + 1 : Nat) : Int) := by omega
    have p5 : ((i + q + 1 : Nat) : Int) < (L : Int) := by omega
    have hxo := encD_get (l := O) (i := i + q) (by omega)
    have g1 := okD_get hp.ok (i + q)
    have g2 := okD_get hp.ok (i + q + 1)
    have hcv1 : IntKind.wrap .u64 ((a.getD i 0 : Nat) : Int) = ((a.getD i 0 : Nat) : Int) := wr64 (by omega)
    have hsh := fun (X : Heap) (t : TypeId) => shlN (H := X) (t := t) (a := a.getD i 0) (n := s) h1 hs32
    obtain ⟨O1, hO1⟩ : ∃ O1, O1 = O.set (i + q) (O.getD (i + q) 0 ||| (a.getD i 0 * 2 ^ s % 4294967296)) := ⟨_, rfl⟩
    have hxo2 := encD_get (l := O1) (i := i + q + 1) (by rw [hO1, List.length_set]; omega)
    have hg2 : O1.getD (i + q + 1) 0 = O.getD (i + q + 1) 0 := by rw [hO1, getD_set_ne (by omega)]
    rw [hg2] at hxo2
    have helO1 := encD_length O1
    have hO1l : O1.length = L := by rw [hO1, List.length_set]; exact hOl
    have ho1 := fun (X : Heap) (t : TypeId) => or32 (H := X) (t := t) (a := O.getD (i + q) 0) (b := a.getD i 0 * 2 ^ s % 4294967296) g1 (by omega) b1
    have ho2 := fun (X : Heap) (t : TypeId) => or32 (H := X) (t := t) (a := O.getD (i + q + 1) 0) (b := a.getD i 0 * 2 ^ s / 4294967296 % 4294967296) g2 (by omega) b2
    have hset1 := encD_set (l := O) (i := i + q) (d := O.getD (i + q) 0 ||| (a.getD i 0 * 2 ^ s % 4294967296))
    rw [← hO1] at hset1 hst
    have hset2 := fun v : Nat => encD_set (l := O1) (i := i + q + 1) (d := v)
    simp only [loopR_succ, ht]
    simp only [a1, a6, a7, a24, a25, a26, hc', hc0, hw, hx, hela, helO, hOl, helO1, hO1l, htq, hwq, hwi, hwj, p1, p2, p3, p4, p5, hiq, hxo, hxo2, hcv1, hsh, ho1, ho2, hset1, hset2, wrap32m, shr64, loopR_succ, loopOf, findLoop, firstRegion, Option.some_or, Option.none_or, Option.getD_some, Option.some.injEq, Try.f144, FT, Int.reduceEq, Int.reduceToNat, Int.reduceLE, Int.reduceLT, Int.reduceAdd, Int.reduceMul, Int.reduceSub, Int.reduceNeg, Nat.reduceAdd, Nat.reduceSub, Nat.reduceMul, Nat.reduceLT, Nat.reduceBEq, Nat.reduceEqDiff, Nat.reduceLeDiff]
    exact .inr ⟨_, _, hc, rfl, _, (by rfl), (by rfl), (by rfl), (by rfl), (by rfl), (by rfl), hst, rfl⟩
  · refine .inl ?_
    obtain rfl : i = a.length := by omega
    have hc' : ¬ (((a.length : Nat) : Int) < ((a.length : Nat) : Int)) := by omega
    simp only [loopR_succ, ht]
    simp only [a1, a6, a7, a24, a25, a26, hc', loopR_succ, loopOf, findLoop, firstRegion, Option.some_or, Option.none_or, Option.getD_some, Option.some.injEq, Try.f144, FT, Int.reduceEq, Int.reduceToNat, Int.reduceLE, Int.reduceLT, Int.reduceAdd, Int.reduceMul, Int.reduceSub, Int.reduceNeg, Nat.reduceAdd, Nat.reduceSub, Nat.reduceMul, Nat.reduceLT, Nat.reduceBEq, Nat.reduceEqDiff, Nat.reduceLeDiff]
    exact ⟨_, O, rfl, (by rfl), hp⟩
theorem shl_ev (k : Nat) (a : List Nat) (n : Nat) (nl : Bool) (cap : Option Nat) (ha : okD a) (hn : n ≤ 65536) (hla : a.length ≤ 100000) (hk : a.length + n + 10 < k) :
    run (k+2) 144 [sD a nl cap, ii n] = some (.tup [sD (dig (vd a * 2 ^ n)) false (some (dig (vd a * 2 ^ n)).length), ii 0]) := by
  obtain ⟨q, hq⟩ : ∃ q, q = n / 32 := ⟨_, rfl⟩
  obtain ⟨s, hs⟩ : ∃ s, s = n % 32 := ⟨_, rfl⟩
  obtain ⟨L, hL⟩ : ∃ L, L = a.length + q + 1 := ⟨_, rfl⟩
  have hn0 : ¬ (n : Int) < 0 := by omega
  have hn1 : ¬ (65536 : Int) < (n : Int) := by omega
  have htq : ((n : Nat) : Int).tdiv 32 = ((q : Nat) : Int) := by rw [hq]; rfl
  have hts : ((n : Nat) : Int).tmod 32 = ((s : Nat) : Int) := by rw [hs]; rfl
  have hwq : IntKind.wrap .i64 (q : Int) = (q : Int) := wrap64 (by omega) (by omega)
  have hw1 : IntKind.wrap .i64 ((a.length : Int) + (q : Int)) = ((a.length + q : Nat) : Int) := by rw [wrap64 (by omega) (by omega)]; omega
  have hw2 : IntKind.wrap .i64 (((a.length + q : Nat) : Int) + 1) = (L : Int) := by rw [wrap64 (by omega) (by omega), hL]; omega
  have q1 : (0 : Int) ≤ (L : Int) := by omega
  have q2 : L * 4 ≤ roomBytes := Nat.le_trans (show L * 4 ≤ 4000000 by omega) (by decide)
  have q3 : L ≤ roomBytes := Nat.le_trans (show L ≤ 1000000 by omega) (by decide)
  have hrep : ∀ j, (List.replicate L 0).getD j 0 = 0 := fun j => by
    rw [List.getD_eq_getElem?_getD, List.getElem?_replicate]; split <;> rfl
  rw [run, ev144, ans_trim]
  simp only [Try.f144, ii, hn0, hn1, htq, hts, hwq, hw1, hw2, q1, q2, q3, encD_rep0, FT, Int.reduceEq, Int.reduceToNat, Int.reduceLE, Int.reduceLT, Int.reduceAdd, Int.reduceMul, Int.reduceSub, Int.reduceNeg, Nat.reduceAdd, Nat.reduceSub, Nat.reduceMul, Nat.reduceLT, Nat.reduceBEq, Nat.reduceEqDiff, Nat.reduceLeDiff]
  rw [evalCode_loopB LB144_8 lp144_8]; rotate_left; rfl; rfl; rfl
  generalize hz : loopR _ _ _ _ _ _ _ _ _ _ _ _ = z
  obtain ⟨l', P, rfl, e6, hI⟩ := loop_shl (k + 1) a nl cap ha n L q s hq hs hL (by omega) (List.replicate L 0) ⟨by simp, fun d hd => by rw [List.eq_of_mem_replicate hd]; omega, by rw [hrep]; exact Nat.pow_pos (by omega), fun j _ => hrep j, by rw [vd_rep]; simp [vd]⟩ _ _ z hz (by omega) (by rfl) (by rfl) (by rfl) (by rfl) (by rfl) (by rfl)
  clear hz
  have hPv : vd P = vd a * 2 ^ n := by
    rw [hI.vl, List.take_of_length_le (Nat.le_refl _), ← Nat.mul_assoc, show (4294967296 : Nat) = 2 ^ 32 from rfl, ← Nat.pow_mul, ← Nat.pow_add, show 32 * q + s = n by omega, Nat.mul_comm]
  have hPl := hI.len
  have hok := hI.ok
  have hdo := dig_of hok
  rw [hPv] at hdo
  rw [← hPl] at e6
  obtain ⟨H2, hds, _, hold⟩ := trim_call (k := k) (f := 144) (r := 14) (i := 1) (id := 0) (a := P) (H := [rD P]) (by rfl) (by omega) (by omega)
  have htr := trim_ev k P false none (by omega) (by omega)
  have hel := encD_length P
  have htk : (encD P).take P.length = encD P := List.take_of_length_le (by rw [hel]; exact Nat.le_refl _)
  simp only [run] at htr
  rw [hdo] at hds htr
  simp only [hPl] at hds hel htk e6
  simp only [sD, hPl] at htr
  simp only [e6, hel, htk, htr, hds, strict_slice, strict_c, strict1_c, strict0_c, Nat.le_refl, FT, Int.reduceEq, Int.reduceToNat, Int.reduceLE, Int.reduceLT, Int.reduceAdd, Int.reduceMul, Int.reduceSub, Int.reduceNeg, Nat.reduceAdd, Nat.reduceSub, Nat.reduceMul, Nat.reduceLT, Nat.reduceBEq, Nat.reduceEqDiff, Nat.reduceLeDiff]
end
end Go.Proofs.Sw.W
namespace Go.Proofs.Sw.W
open Go.Ab
structure ShD (V : Nat) (O : List Nat) (L i : Nat) : Prop where
  len : O.length = L
  ok : okD O
  vl : vd (O.take i) = V % 4294967296 ^ i
theorem ShD.step {V : Nat} {O : List Nat} {L i : Nat} (h : ShD V O L i) (hi : i < L) {d : Nat} (hd : d = V / 4294967296 ^ i % 4294967296) : ShD V (O.set i d) L (i + 1) := by
  refine ⟨by rw [List.length_set]; exact h.len, okD_set h.ok (by omega), ?_⟩
  rw [vd_put (by rw [h.len]; exact hi), h.vl, Nat.pow_succ, Nat.mod_mul, ← hd]
theorem vd_drop_div (a : List Nat) (ha : okD a) : ∀ i, i ≤ a.length → vd (a.drop i) = vd a / 4294967296 ^ i
  | 0, _ => by simp
  | i + 1, h => by
    have ih := vd_drop_div a ha i (by omega)
    have h1 := vd_drop a (j := i) (by omega)
    have h2 := okD_get ha i
    rw [Nat.pow_succ, ← Nat.div_div_eq_div_mul, ← ih, h1]
    omega
theorem down_digit {a : List Nat} (ha : okD a) {i s : Nat} (hi : i < a.length) (hs : s < 32) :
    (a.getD (i + 1) 0 * 4294967296 + a.getD i 0) / 2 ^ s % 4294967296 = vd a / 2 ^ s / 4294967296 ^ i % 4294967296 := by
  have h0 := vd_drop a hi
  have hB := pow_s hs
  rw [Nat.div_div_eq_div_mul, Nat.mul_comm (2 ^ s), ← Nat.div_div_eq_div_mul, ← vd_drop_div a ha i (by omega), h0]
  have hp : 0 < 2 ^ s := Nat.pow_pos (by omega)
  have key : ∀ r : Nat, ∃ t, vd (a.drop (i + 1)) = a.getD (i + 1) 0 + 4294967296 * t := fun _ => by
    by_cases h : i + 1 < a.length
    · exact ⟨_, vd_drop a h⟩
    · exact ⟨0, by rw [List.drop_of_length_le (by omega), getD_out (by omega)]; rfl⟩
  obtain ⟨t, ht⟩ := key 0
  rw [ht]
  obtain ⟨x, hx⟩ : ∃ x, x = a.getD (i + 1) 0 * 4294967296 + a.getD i 0 := ⟨_, rfl⟩
  have e1 : a.getD i 0 + 4294967296 * (a.getD (i + 1) 0 + 4294967296 * t) = x + 2 ^ s * (4294967296 * (2 ^ (32 - s) * t)) := by
    have : 4294967296 * (4294967296 * t) = 2 ^ s * (4294967296 * (2 ^ (32 - s) * t)) := by
      conv => lhs; arg 1; rw [hB]
      rw [Nat.mul_assoc, Nat.mul_left_comm (2 ^ (32 - s))]
    omega
  rw [e1, ← hx, Nat.add_mul_div_left _ _ hp]
  omega
section
variable [Globals]
theorem loop_shr (kf : Nat) (a : List Nat) (nl : Bool) (cap : Option Nat) (ha : okD a) (s : Nat) (hs32 : s < 32) (hla : a.length ≤ 1000000) (O0 : List Nat) (h0 : ShD (vd a / 2 ^ s) O0 a.length 0) (k : Nat) (l : Ass) (z : Option Out) (hz : loopR Try.prog tab kf none LB146_10 146 62 [0, 6, 7, 29, 30, 31] 1 k l ([rD O0]) = z) (hk : a.length < k) (a0 : asc l 0 = sD a nl cap) (a6 : asc l 6 = ii s) (a7 : asc l 7 = .hsl 0 0 a.length a.length 1) (a29 : asc l 29 = sD a nl cap) (a30 : asc l 30 = ii a.length) (a31 : asc l 31 = ii 0) :
    ∃ l' O, z = some (.exit 0 (fr 62 l') [rD O]) ∧ asc l' 7 = .hsl 0 0 a.length a.length 1 ∧ ShD (vd a / 2 ^ s) O a.length a.length := by
  subst hz
  refine loop_nat a.length (fun k l H => loopR Try.prog tab kf none LB146_10 146 62 [0, 6, 7, 29, 30, 31] 1 k l H)
    (fun i l H => ∃ (O : List Nat), asc l 0 = sD a nl cap ∧ asc l 6 = ii s ∧ asc l 7 = .hsl 0 0 a.length a.length 1 ∧ asc l 29 = sD a nl cap ∧ asc l 30 = ii a.length ∧ asc l 31 = ii i ∧ (ShD (vd a / 2 ^ s) O a.length i) ∧ H = ([rD O]))
    (fun z => ∃ l' O, z = some (.exit 0 (fr 62 l') [rD O]) ∧ asc l' 7 = .hsl 0 0 a.length a.length 1 ∧ ShD (vd a / 2 ^ s) O a.length a.length) ?_ a.length 0 k l _ (by omega) hk ⟨O0, a0, a6, a7, a29, a30, a31, h0, rfl⟩
  clear hk a0 a6 a7 a29 a30 a31
  rintro i k l H hi ⟨O, a0, a6, a7, a29, a30, a31, hp, rfl⟩
  have ht : trim 1 (fr 62 (keep l [0, 6, 7, 29, 30, 31])) ([rD O]) = ([rD O]) := by
    exact trim_same rfl
  by_cases hc : i < a.length
  · have hc' : (i : Int) < ((a.length : Nat) : Int) := by omega
    have hc0 : (0 : Int) ≤ i := by omega
    have hw : IntKind.wrap .i64 ((i : Int) + 1) = ((i + 1 : Nat) : Int) := by rw [wrap64 (by omega) (by omega)]; omega
    have hx := encD_get (l := a) hc
    have hela := encD_length a
    have helO := encD_length O
    have hOl := hp.len
    have h1 := okD_get ha i
    have hst := hp.step hc (down_digit ha hc hs32)
    have hcv1 : IntKind.wrap .u64 ((a.getD i 0 : Nat) : Int) = ((a.getD i 0 : Nat) : Int) := wr64 (by omega)
    have hset := fun v : Nat => encD_set (l := O) (i := i) (d := v)
    have hsh := fun (X : Heap) (t : TypeId) (y : Nat) => shrN (H := X) (t := t) (a := y) (n := s) hs32
    have hj0 : (0 : Int) ≤ ((i + 1 : Nat) : Int) := by omega
    by_cases hn : i + 1 < a.length
    · have hn' : ((i + 1 : Nat) : Int) < a.length := by omega
      have hy := encD_get (l := a) hn
      have h2 := okD_get ha (i + 1)
      have hcv2 : IntKind.wrap .u64 ((a.getD (i + 1) 0 : Nat) : Int) = ((a.getD (i + 1) 0 : Nat) : Int) := wr64 (by omega)
      have hsl := fun (X : Heap) (t : TypeId) => shl64 (H := X) (t := t) h2
      have hor := fun (X : Heap) (t : TypeId) => or64' (H := X) (t := t) (a := a.getD (i + 1) 0) (b := a.getD i 0) h2 h1
      simp only [loopR_succ, ht]
      simp only [a0, a6, a7, a29, a30, a31, hc', hc0, hw, hc, hx, hy, hela, helO, hOl, hn', hj0, hcv1, hcv2, hsl, hor, hsh, wrap32m, hset, loopR_succ, loopOf, findLoop, firstRegion, Option.some_or, Option.none_or, Option.getD_some, Option.some.injEq, Try.f146, FT, Int.reduceEq, Int.reduceToNat, Int.reduceLE, Int.reduceLT, Int.reduceAdd, Int.reduceMul, Int.reduceSub, Int.reduceNeg, Nat.reduceAdd, Nat.reduceSub, Nat.reduceMul, Nat.reduceLT, Nat.reduceBEq, Nat.reduceEqDiff, Nat.reduceLeDiff]
      exact .inr ⟨_, _, rfl, _, (by rfl), (by rfl), (by rfl), (by rfl), (by rfl), (by rfl), hst, rfl⟩
    · have hn' : ¬ ((i + 1 : Nat) : Int) < a.length := by omega
      rw [getD_out (l := a) (i := i + 1) (by omega), Nat.zero_mul, Nat.zero_add] at hst
      simp only [loopR_succ, ht]
      simp only [a0, a6, a7, a29, a30, a31, hc', hc0, hw, hc, hx, hela, helO, hOl, hn', hj0, hcv1, hsh, wrap32m, hset, loopR_succ, loopOf, findLoop, firstRegion, Option.some_or, Option.none_or, Option.getD_some, Option.some.injEq, Try.f146, FT, Int.reduceEq, Int.reduceToNat, Int.reduceLE, Int.reduceLT, Int.reduceAdd, Int.reduceMul, Int.reduceSub, Int.reduceNeg, Nat.reduceAdd, Nat.reduceSub, Nat.reduceMul, Nat.reduceLT, Nat.reduceBEq, Nat.reduceEqDiff, Nat.reduceLeDiff]
      exact .inr ⟨_, _, rfl, _, (by rfl), (by rfl), (by rfl), (by rfl), (by rfl), (by rfl), hst, rfl⟩
  · refine .inl ?_
    obtain rfl : i = a.length := by omega
    have hc' : ¬ (((a.length : Nat) : Int) < ((a.length : Nat) : Int)) := by omega
    simp only [loopR_succ, ht]
    simp only [a0, a6, a7, a29, a30, a31, hc', loopR_succ, loopOf, findLoop, firstRegion, Option.some_or, Option.none_or, Option.getD_some, Option.some.injEq, Try.f146, FT, Int.reduceEq, Int.reduceToNat, Int.reduceLE, Int.reduceLT, Int.reduceAdd, Int.reduceMul, Int.reduceSub, Int.reduceNeg, Nat.reduceAdd, Nat.reduceSub, Nat.reduceMul, Nat.reduceLT, Nat.reduceBEq, Nat.reduceEqDiff, Nat.reduceLeDiff]
    exact ⟨_, O, rfl, (by rfl), hp⟩
theorem sliceFrom0 {H : Heap} {d : List Nat} {nl : Bool} {cap : Option Nat} : sliceO H 1 (sD d nl cap) (some (.c (.int .i64 0))) none = some (sD d nl cap) := by
  have hc : cap.map (fun x => x - 0) = cap := by cases cap <;> rfl
  have htk : (encD d).take d.length = encD d := List.take_of_length_le (by rw [encD_length]; exact Nat.le_refl _)
  have h0 : boundA 0 (some (.c (.int .i64 0))) = some 0 := rfl
  have h1 : boundA d.length none = some d.length := rfl
  simp only [sliceO, h0, h1, Option.bind_some, Nat.zero_mul, List.drop_zero, Nat.sub_zero, Nat.mul_one, encD_length, htk]
  rw [if_pos ⟨Nat.zero_le _, Nat.le_refl _, trivial⟩]
  simp only [Nat.sub_zero] at hc
  rw [hc]
theorem shr_ev (k : Nat) (a : List Nat) (n : Nat) (nl : Bool) (cap : Option Nat) (ha : okD a) (hn : n < 32) (hla : a.length ≤ 100000) (hk : a.length + 10 < k) :
    ∃ nl3 cap3, run (k+2) 146 [sD a nl cap, ii n] = some (.tup [sD (dig (vd a / 2 ^ n)) nl3 cap3, ii 0]) := by
  have h1 := trim_ev (k) a nl cap (by omega) (by omega)
  have hva := vd_trim a
  have hca := can_trim ha
  have hta := trim_len a
  obtain ⟨A, hA⟩ : ∃ A, A = trimD a := ⟨_, rfl⟩
  rw [← hA] at h1 hva hca hta
  have hn0 : ¬ (n : Int) < 0 := by omega
  have htq : ((n : Nat) : Int).tdiv 32 = ((n / 32 : Nat) : Int) := rfl
  have htq2 : n / 32 = 0 := by omega
  have htq3 : IntKind.wrap .i64 (((n / 32 : Nat)) : Int) = 0 := by rw [htq2]; rfl
  have hts : ((n : Nat) : Int).tmod 32 = ((n : Nat) : Int) := by
    have : ((n : Nat) : Int).tmod 32 = ((n % 32 : Nat) : Int) := rfl
    rw [this, Nat.mod_eq_of_lt hn]
  simp only [run] at h1
  by_cases h0 : A.length = 0
  · have hA0 : A = [] := List.eq_nil_of_length_eq_zero h0
    rw [hA0] at hva
    have hv0 : vd a = 0 := by rw [← hva]; rfl
    refine ⟨true, some 0, ?_⟩
    have hle : (A.length : Int) ≤ 0 := by omega
    rw [run, ev146, ans_trim]
    simp only [Try.f146, ii, hn0, h1, htq, htq3, hle, FT, Int.reduceEq, Int.reduceToNat, Int.reduceLE, Int.reduceLT, Int.reduceAdd, Int.reduceMul, Int.reduceSub, Int.reduceNeg, Nat.reduceAdd, Nat.reduceSub, Nat.reduceMul, Nat.reduceLT, Nat.reduceBEq, Nat.reduceEqDiff, Nat.reduceLeDiff]
    rw [hv0, Nat.zero_div]
    rfl
  · have hle : ¬ (A.length : Int) ≤ 0 := by omega
    have q1 : (0 : Int) ≤ (A.length : Int) := by omega
    have q2 : A.length * 4 ≤ roomBytes := Nat.le_trans (show A.length * 4 ≤ 4000000 by omega) (by decide)
    have q3 : A.length ≤ roomBytes := Nat.le_trans (show A.length ≤ 1000000 by omega) (by decide)
    refine ⟨false, some (dig (vd a / 2 ^ n)).length, ?_⟩
    rw [run, ev146, ans_trim]
    simp only [Try.f146, ii, hn0, h1, htq, htq3, hts, hle, sliceFrom0, q1, q2, q3, encD_rep0, FT, Int.reduceEq, Int.reduceToNat, Int.reduceLE, Int.reduceLT, Int.reduceAdd, Int.reduceMul, Int.reduceSub, Int.reduceNeg, Nat.reduceAdd, Nat.reduceSub, Nat.reduceMul, Nat.reduceLT, Nat.reduceBEq, Nat.reduceEqDiff, Nat.reduceLeDiff]
    rw [evalCode_loopB LB146_10 lp146_10]; rotate_left; rfl; rfl; rfl
    generalize hz : loopR _ _ _ _ _ _ _ _ _ _ _ _ = z
    obtain ⟨l', P, rfl, e7, hI⟩ := loop_shr (k + 1) A nl (some A.length) hca.ok n hn (by omega) (List.replicate A.length 0) ⟨by simp, fun d hd => by rw [List.eq_of_mem_replicate hd]; omega, by simp [vd, Nat.mod_one]⟩ _ _ z hz (by omega) (by rfl) (by rfl) (by rfl) (by rfl) (by rfl) (by rfl)
    clear hz
    have hPl := hI.len
    have hok := hI.ok
    have hlt : vd A / 2 ^ n < 4294967296 ^ A.length := Nat.lt_of_le_of_lt (Nat.div_le_self _ _) (vd_lt hca.ok)
    have hPv : vd P = vd a / 2 ^ n := by
      have := hI.vl
      rw [List.take_of_length_le (by rw [hPl]; exact Nat.le_refl _), Nat.mod_eq_of_lt hlt, hva] at this
      exact this
    have hdo := dig_of hok
    rw [hPv] at hdo
    rw [← hPl] at e7
    obtain ⟨H2, hds, _, hold⟩ := trim_call (k := k) (f := 146) (r := 17) (i := 1) (id := 0) (a := P) (H := [rD P]) (by rfl) (by omega) (by omega)
    have htr := trim_ev k P false none (by omega) (by omega)
    have hel := encD_length P
    have htk : (encD P).take P.length = encD P := List.take_of_length_le (by rw [hel]; exact Nat.le_refl _)
    simp only [run] at htr
    rw [hdo] at hds htr
    simp only [hPl] at hds hel htk e7
    simp only [sD, hPl] at htr
    simp only [e7, hel, htk, htr, hds, strict_slice, strict_c, strict1_c, strict0_c, Nat.le_refl, FT, Int.reduceEq, Int.reduceToNat, Int.reduceLE, Int.reduceLT, Int.reduceAdd, Int.reduceMul, Int.reduceSub, Int.reduceNeg, Nat.reduceAdd, Nat.reduceSub, Nat.reduceMul, Nat.reduceLT, Nat.reduceBEq, Nat.reduceEqDiff, Nat.reduceLeDiff]
end
end Go.Proofs.Sw.W
namespace Go.Proofs.Sw.W
open Go.Ab
structure LeI (v W0 W : List Nat) (N T c b i : Nat) : Prop where
  len : W.length = N
  ok : okD W
  cb : c < 4294967296
  b1 : b ≤ 1
  rest : W.drop i = W0.drop i
  c0 : v.length < i → c = 0
  vl : vd (W.take i) + T * vd (v.take i) = vd (W0.take i) + 4294967296 ^ i * (c + b)
theorem LeI.step {v W0 W : List Nat} {N T c b i : Nat} (h : LeI v W0 W N T c b i) (hv : okD v) (hT : T < 4294967296) (hi : i < N) (hW0 : W0.length = N) (hok0 : okD W0) :
    c + v.getD i 0 * T < 18446744073709551616 ∧ LeI v W0 (W.set i (suD (W.getD i 0) ((c + v.getD i 0 * T) % 4294967296 + b))) N T ((c + v.getD i 0 * T) / 4294967296) (if W.getD i 0 < (c + v.getD i 0 * T) % 4294967296 + b then 1 else 0) (i + 1) := by
  have h1 := okD_get hv i
  have h2 := okD_get h.ok i
  have h3 := h.cb
  have h4 := mul_le32 h1 hT
  have h5 := h.b1
  have hw : W.getD i 0 = W0.getD i 0 := by
    have := congrArg (·.getD 0 0) h.rest
    simpa [List.getD_eq_getElem?_getD, List.getElem?_drop] using this
  obtain ⟨s, hs⟩ : ∃ s, s = c + v.getD i 0 * T := ⟨_, rfl⟩
  obtain ⟨x, hx⟩ : ∃ x, x = W.getD i 0 := ⟨_, rfl⟩
  obtain ⟨y, hy⟩ : ∃ y, y = s % 4294967296 + b := ⟨_, rfl⟩
  rw [← hs, ← hx, ← hy]
  rw [← hx] at h2 hw
  have hlt : suD x y < 4294967296 := by unfold suD; split <;> omega
  refine ⟨by omega, by rw [List.length_set]; exact h.len, okD_set h.ok hlt, by omega, by split <;> omega, ?_, fun hgt => ?_, ?_⟩
  · rw [drop_set]
    have := congrArg (List.drop 1) h.rest
    rwa [List.drop_drop, List.drop_drop] at this
  · have : v.getD i 0 = 0 := getD_out (by omega)
    rw [this, Nat.zero_mul, Nat.add_zero] at hs
    omega
  · have hvl := h.vl
    have e0 : suD x y + y = x + 4294967296 * (if x < y then 1 else 0) := by unfold suD; split <;> omega
    obtain ⟨bb', hb'⟩ : ∃ bb', bb' = if x < y then 1 else 0 := ⟨_, rfl⟩
    rw [← hb'] at e0 ⊢
    obtain ⟨B, hB⟩ : ∃ B, B = 4294967296 ^ i := ⟨_, rfl⟩
    rw [vd_put (by rw [h.len]; exact hi), vd_take, vd_take, ← hw, Nat.pow_succ, ← hB]
    rw [← hB] at hvl
    have e1 : B * 4294967296 * (s / 4294967296 + bb') = B * (4294967296 * (s / 4294967296)) + B * (4294967296 * bb') := by rw [Nat.mul_assoc, Nat.mul_add, Nat.mul_add]
    have e2 : T * (vd (v.take i) + B * v.getD i 0) = T * vd (v.take i) + B * (v.getD i 0 * T) := by rw [Nat.mul_add, Nat.mul_comm (v.getD i 0), Nat.mul_left_comm]
    have e3 := congrArg (B * ·) e0
    simp only [Nat.mul_add] at e3
    have e4 : B * s = B * c + B * (v.getD i 0 * T) := by rw [hs, Nat.mul_add]
    have e5 : B * y = B * (s % 4294967296) + B * b := by rw [hy, Nat.mul_add]
    have e6 : B * (s % 4294967296) + B * (4294967296 * (s / 4294967296)) = B * s := by rw [← Nat.mul_add]; congr 1; omega
    rw [e1, e2]
    rw [Nat.mul_add B] at hvl
    omega
theorem LeI.fin {v W0 W : List Nat} {N T c b : Nat} (h : LeI v W0 W N T c b N) (hvN : v.length < N) (hW0 : W0.length = N) : (0 < b ↔ vd W0 < T * vd v) ∧ vd W + T * vd v = vd W0 + 4294967296 ^ N * (if vd W0 < T * vd v then 1 else 0) := by
  have h1 := h.vl
  rw [List.take_of_length_le (by rw [h.len]; exact Nat.le_refl _), List.take_of_length_le (by omega), List.take_of_length_le (by omega), h.c0 hvN, Nat.zero_add] at h1
  have h2 := vd_lt h.ok
  rw [h.len] at h2
  have h3 := h.b1
  obtain ⟨X, hX⟩ : ∃ X, X = T * vd v := ⟨_, rfl⟩
  rw [← hX] at h1 ⊢
  have : b = 0 ∨ b = 1 := by omega
  rcases this with rfl | rfl
  · rw [Nat.mul_zero, Nat.add_zero] at h1
    have hn : ¬ vd W0 < X := by omega
    rw [if_neg hn]
    exact ⟨by omega, by omega⟩
  · rw [Nat.mul_one] at h1
    have hn : vd W0 < X := by omega
    rw [if_pos hn]
    exact ⟨by omega, by omega⟩
theorem win_get {pre W post : List Nat} {o i : Nat} (ho : pre.length = o) (hi : i < W.length) : (pre ++ (W ++ post)).getD (o + i) 0 = W.getD i 0 := by
  rw [List.getD_eq_getElem?_getD, List.getD_eq_getElem?_getD, List.getElem?_append_right (by omega), show o + i - pre.length = i by omega, List.getElem?_append_left hi]
theorem win_set {pre W post : List Nat} {o i d : Nat} (ho : pre.length = o) (hi : i < W.length) : (pre ++ (W ++ post)).set (o + i) d = pre ++ (W.set i d ++ post) := by
  rw [List.set_append_right _ _ (by omega), show o + i - pre.length = i by omega, List.set_append_left _ _ hi]
theorem wsb_two {x y b : Nat} (hx : x < 4294967296) (hy : y < 4294967296) (hb : b ≤ 1) : IntKind.wrap .u64 (((wsb x y : Nat) : Int) - (b : Int)) = ((wsb x (y + b) : Nat) : Int) := by
  have e : IntKind.wrap .u64 (((wsb x y : Nat) : Int) - (b : Int)) = (((wsb x y : Nat) : Int) - (b : Int)) % 18446744073709551616 := rfl
  rw [e]
  unfold wsb
  by_cases h1 : x < y
  · rw [if_pos h1, if_pos (by omega)]; omega
  · rw [if_neg h1]
    split <;> omega
section
variable [Globals]
theorem loop_less (kf : Nat) (v W0 pre post : List Nat) (nl : Bool) (cap : Option Nat) (N o E T : Nat) (hv : okD v) (hT : T < 4294967296) (hW0 : W0.length = N) (hok0 : okD W0) (ho : pre.length = o) (hE : E = o + (N + post.length)) (hE6 : E ≤ 1000000) (hvN : v.length ≤ 1000000) (k : Nat) (l : Ass) (z : Option Out) (hz : loopR Try.prog tab kf none LB153_3 153 52 [0, 1, 2, 7, 8, 12, 13] 1 k l ([rD (pre ++ (W0 ++ post))]) = z) (hk : N < k) (a0 : asc l 0 = .hsl 0 o N E 1) (a1 : asc l 1 = sD v nl cap) (a2 : asc l 2 = .c (.int .u64 (T : Int))) (a7 : asc l 7 = .c (.int .u64 ((0) : Int))) (a8 : asc l 8 = .c (.int .u64 ((0) : Int))) (a12 : asc l 12 = ii N) (a13 : asc l 13 = ii 0) :
    ∃ l' W cy bo, z = some (.exit 0 (fr 52 l') [rD (pre ++ (W ++ post))]) ∧ asc l' 8 = .c (.int .u64 ((bo : Nat) : Int)) ∧ LeI v W0 W N T cy bo N := by
  subst hz
  refine loop_nat N (fun k l H => loopR Try.prog tab kf none LB153_3 153 52 [0, 1, 2, 7, 8, 12, 13] 1 k l H)
    (fun i l H => ∃ (W : List Nat), ∃ (cy : Nat), ∃ (bo : Nat), asc l 0 = .hsl 0 o N E 1 ∧ asc l 1 = sD v nl cap ∧ asc l 2 = .c (.int .u64 (T : Int)) ∧ asc l 7 = .c (.int .u64 (cy : Int)) ∧ asc l 8 = .c (.int .u64 (bo : Int)) ∧ asc l 12 = ii N ∧ asc l 13 = ii i ∧ (LeI v W0 W N T cy bo i) ∧ H = ([rD (pre ++ (W ++ post))]))
    (fun z => ∃ l' W cy bo, z = some (.exit 0 (fr 52 l') [rD (pre ++ (W ++ post))]) ∧ asc l' 8 = .c (.int .u64 ((bo : Nat) : Int)) ∧ LeI v W0 W N T cy bo N) ?_ N 0 k l _ (by omega) hk ⟨W0, (0), (0), a0, a1, a2, a7, a8, a12, a13, ⟨hW0, hok0, by omega, by omega, rfl, fun h => rfl, by simp [vd]⟩, rfl⟩
  clear hk a0 a1 a2 a7 a8 a12 a13
  rintro i k l H hi ⟨W, cy, bo, a0, a1, a2, a7, a8, a12, a13, hp, rfl⟩
  have ht : trim 1 (fr 52 (keep l [0, 1, 2, 7, 8, 12, 13])) ([rD (pre ++ (W ++ post))]) = ([rD (pre ++ (W ++ post))]) := by
    exact trim_same rfl
  by_cases hc : i < N
  · have hc' : (i : Int) < ((N : Nat) : Int) := by omega
    have hc0 : (0 : Int) ≤ i := by omega
    have hw : IntKind.wrap .i64 ((i : Int) + 1) = ((i + 1 : Nat) : Int) := by rw [wrap64 (by omega) (by omega)]; omega
    have helv := encD_length v
    have helU := encD_length (pre ++ (W ++ post))
    have hWl := hp.len
    have hUl : (pre ++ (W ++ post)).length = E := by rw [List.length_append, List.length_append, ho, hWl, hE]
    rw [hUl] at helU
    have h2 := okD_get hp.ok i
    have hcb := hp.cb
    have hb1 := hp.b1
    obtain ⟨hs64, hst⟩ := hp.step hv hT hc hW0 hok0
    have hxu := encD_get (l := pre ++ (W ++ post)) (i := o + i) (by omega)
    rw [win_get ho (by omega)] at hxu
    have hiE : o + i < E := by omega
    have hset := fun d : Nat => (encD_set (l := pre ++ (W ++ post)) (i := o + i) (d := d)).trans (by rw [win_set ho (by omega)])
    have hcv1 : IntKind.wrap .u64 ((W.getD i 0 : Nat) : Int) = ((W.getD i 0 : Nat) : Int) := wr64 (by omega)
    by_cases hiv : i < v.length
    · have hiv' : (i : Int) < v.length := by omega
      have hy := encD_get (l := v) hiv
      have h1 := okD_get hv i
      have h4 := mul_le32 h1 hT
      have hcv2 : IntKind.wrap .u64 ((v.getD i 0 : Nat) : Int) = ((v.getD i 0 : Nat) : Int) := wr64 (by omega)
      have hm1 : IntKind.wrap .u64 (((v.getD i 0 : Nat) : Int) * (T : Int)) = ((v.getD i 0 * T : Nat) : Int) := by rw [← Int.natCast_mul, wr64 (by omega)]
      have hm2 : IntKind.wrap .u64 ((cy : Int) + ((v.getD i 0 * T : Nat) : Int)) = ((cy + v.getD i 0 * T : Nat) : Int) := by rw [← Int.natCast_add, wr64 hs64]
      obtain ⟨s, hs⟩ : ∃ s, s = cy + v.getD i 0 * T := ⟨_, rfl⟩
      rw [← hs] at hm2 hs64 hst
      have ham := fun (X : Heap) (t : TypeId) => and64m (H := X) (t := t) (a := s) hs64
      have hw1 := wrap_sub h2 (show s % 4294967296 ≤ 4294967296 by omega)
      have hw2 := wsb_two (y := s % 4294967296) (b := bo) h2 (by omega) hb1
      obtain ⟨g1, g2, g3⟩ := wsb_facts h2 (show s % 4294967296 + bo ≤ 4294967296 by omega)
      have ha1 := fun (X : Heap) (t : TypeId) => and64o (H := X) (t := t) (a := wsb (W.getD i 0) (s % 4294967296 + bo) / 4294967296) (by omega)
      rw [← g2, ← g3] at hst
      simp only [loopR_succ, ht]
      simp only [a0, a1, a2, a7, a8, a12, a13, hc', hc0, hw, helv, helU, hxu, hiE, hset, hcv1, hiv', hy, hcv2, hm1, hm2, ham, hw1, hw2, ha1, shr64, wrap32m, loopR_succ, loopOf, findLoop, firstRegion, Option.some_or, Option.none_or, Option.getD_some, Option.some.injEq, Try.f153, FT, Int.reduceEq, Int.reduceToNat, Int.reduceLE, Int.reduceLT, Int.reduceAdd, Int.reduceMul, Int.reduceSub, Int.reduceNeg, Nat.reduceAdd, Nat.reduceSub, Nat.reduceMul, Nat.reduceLT, Nat.reduceBEq, Nat.reduceEqDiff, Nat.reduceLeDiff]
      exact .inr ⟨_, _, hc, rfl, _, _, _, (by rfl), (by rfl), (by rfl), (by rfl), (by rfl), (by rfl), (by rfl), hst, rfl⟩
    · have hiv' : ¬ (i : Int) < v.length := by omega
      rw [getD_out (l := v) (i := i) (by omega), Nat.zero_mul, Nat.add_zero] at hs64 hst
      have ham := fun (X : Heap) (t : TypeId) => and64m (H := X) (t := t) (a := cy) hs64
      have hw1 := wrap_sub h2 (show cy % 4294967296 ≤ 4294967296 by omega)
      have hw2 := wsb_two (y := cy % 4294967296) (b := bo) h2 (by omega) hb1
      obtain ⟨g1, g2, g3⟩ := wsb_facts h2 (show cy % 4294967296 + bo ≤ 4294967296 by omega)
      have ha1 := fun (X : Heap) (t : TypeId) => and64o (H := X) (t := t) (a := wsb (W.getD i 0) (cy % 4294967296 + bo) / 4294967296) (by omega)
      rw [← g2, ← g3] at hst
      simp only [loopR_succ, ht]
      simp only [a0, a1, a2, a7, a8, a12, a13, hc', hc0, hw, helv, helU, hxu, hiE, hset, hcv1, hiv', ham, hw1, hw2, ha1, shr64, wrap32m, loopR_succ, loopOf, findLoop, firstRegion, Option.some_or, Option.none_or, Option.getD_some, Option.some.injEq, Try.f153, FT, Int.reduceEq, Int.reduceToNat, Int.reduceLE, Int.reduceLT, Int.reduceAdd, Int.reduceMul, Int.reduceSub, Int.reduceNeg, Nat.reduceAdd, Nat.reduceSub, Nat.reduceMul, Nat.reduceLT, Nat.reduceBEq, Nat.reduceEqDiff, Nat.reduceLeDiff]
      exact .inr ⟨_, _, hc, rfl, _, _, _, (by rfl), (by rfl), (by rfl), (by rfl), (by rfl), (by rfl), (by rfl), hst, rfl⟩
  · refine .inl ?_
    obtain rfl : i = N := by omega
    have hc' : ¬ (((i : Nat) : Int) < ((i : Nat) : Int)) := by omega
    simp only [loopR_succ, ht]
    simp only [a0, a1, a2, a7, a8, a12, a13, hc', loopR_succ, loopOf, findLoop, firstRegion, Option.some_or, Option.none_or, Option.getD_some, Option.some.injEq, Try.f153, FT, Int.reduceEq, Int.reduceToNat, Int.reduceLE, Int.reduceLT, Int.reduceAdd, Int.reduceMul, Int.reduceSub, Int.reduceNeg, Nat.reduceAdd, Nat.reduceSub, Nat.reduceMul, Nat.reduceLT, Nat.reduceBEq, Nat.reduceEqDiff, Nat.reduceLeDiff]
    exact ⟨_, W, cy, bo, rfl, (by rfl), hp⟩
theorem less_ev (k : Nat) (v W pre post : List Nat) (nl : Bool) (cap : Option Nat) (N o E T : Nat) (hv : okD v) (hT : T < 4294967296) (hW : W.length = N) (hokW : okD W) (hvN : v.length < N) (ho : pre.length = o) (hE : E = o + (N + post.length)) (hE6 : E ≤ 1000000) (hk : N < k) :
    ∃ W', W'.length = N ∧ okD W' ∧ vd W' + T * vd v = vd W + 4294967296 ^ N * (if vd W < T * vd v then 1 else 0) ∧
      evalT Try.prog (mkHints tab) (k+1) (.fn 153) [.hsl 0 o N E 1, sD v nl cap, .c (.int .u64 (T : Int))] [rD (pre ++ (W ++ post))] = some (bb (decide (vd W < T * vd v)), [rD (pre ++ (W' ++ post))]) := by
  rw [ev153]
  simp only [Try.f153, bb, FT, Int.reduceEq, Int.reduceToNat, Int.reduceLE, Int.reduceLT, Int.reduceAdd, Int.reduceMul, Int.reduceSub, Int.reduceNeg, Nat.reduceAdd, Nat.reduceSub, Nat.reduceMul, Nat.reduceLT, Nat.reduceBEq, Nat.reduceEqDiff, Nat.reduceLeDiff]
  rw [evalCode_loopB LB153_3 lp153_3]; rotate_left; rfl; rfl; rfl
  generalize hz : loopR _ _ _ _ _ _ _ _ _ _ _ _ = z
  obtain ⟨l', W', cy, bo, rfl, e8, hI⟩ := loop_less k v W pre post nl cap N o E T hv hT hW hokW ho hE hE6 (by omega) _ _ z hz (by omega) (by rfl) (by rfl) (by rfl) (by rfl) (by rfl) (by rfl) (by rfl)
  clear hz
  obtain ⟨h1, h2⟩ := hI.fin hvN hW
  refine ⟨W', hI.len, hI.ok, h2, ?_⟩
  have hd : (decide ((0 : Int) < (bo : Int))) = decide (vd W < T * vd v) := by rw [decide_eq_decide, ← h1]; omega
  simp only [e8, hd, FT, Int.reduceEq, Int.reduceToNat, Int.reduceLE, Int.reduceLT, Int.reduceAdd, Int.reduceMul, Int.reduceSub, Int.reduceNeg, Nat.reduceAdd, Nat.reduceSub, Nat.reduceMul, Nat.reduceLT, Nat.reduceBEq, Nat.reduceEqDiff, Nat.reduceLeDiff]
end
end Go.Proofs.Sw.W
