/- A part of the proof: what functions of the program answer; conditions stand in each theorem. -/
import Derived.Test.YtiiannaficbjeaaDoorVA
set_option linter.unusedVariables false
set_option linter.unusedSimpArgs false
set_option linter.unusedSectionVars false
namespace Go.Proofs.Sw.W
open Go.Ab
variable [Globals]
theorem wrap32m (n : Nat) : IntKind.wrap .u32 (n : Int) = ((n % 4294967296 : Nat) : Int) := by
  have e : IntKind.wrap .u32 (n : Int) = (n : Int) % 4294967296 := rfl
  rw [e]; omega
theorem of64 {n : Nat} (h : n < 18446744073709551616) : (BitVec.ofInt 64 (n : Int)).toNat = n := by
  rw [BitVec.ofInt_natCast, BitVec.toNat_ofNat]
  exact Nat.mod_eq_of_lt h
theorem of32 {n : Nat} (h : n < 4294967296) : (BitVec.ofInt 32 (n : Int)).toNat = n := by
  rw [BitVec.ofInt_natCast, BitVec.toNat_ofNat]
  exact Nat.mod_eq_of_lt h
theorem shr64 {H : Heap} {t : TypeId} {a : Nat} : binA Tryd.prog H .shr t (.c (.int .u64 (a : Int))) (.c (.int .u64 32)) = some (.c (.int .u64 ((a / 4294967296 : Nat) : Int))) := by
  have e : binA Tryd.prog H .shr t (.c (.int .u64 (a : Int))) (.c (.int .u64 32)) = some (.c (.int .u64 ((a : Int).fdiv 4294967296))) := rfl
  rw [e, Int.fdiv_eq_ediv_of_nonneg _ (by omega)]
  rfl
theorem shl64 {H : Heap} {t : TypeId} {a : Nat} (h : a < 4294967296) : binA Tryd.prog H .shl t (.c (.int .u64 (a : Int))) (.c (.int .u64 32)) = some (.c (.int .u64 ((a * 4294967296 : Nat) : Int))) := by
  have e : binA Tryd.prog H .shl t (.c (.int .u64 (a : Int))) (.c (.int .u64 32)) = some (.c (.int .u64 (IntKind.wrap .u64 ((a : Int) * 4294967296)))) := rfl
  rw [e, show (a : Int) * 4294967296 = ((a * 4294967296 : Nat) : Int) by omega, wr64 (by omega)]
theorem shlN {H : Heap} {t : TypeId} {a n : Nat} (h : a < 4294967296) (hn : n < 32) : binA Tryd.prog H .shl t (.c (.int .u64 (a : Int))) (.c (.int .i64 (n : Int))) = some (.c (.int .u64 ((a * 2 ^ n : Nat) : Int))) := by
  have e : binA Tryd.prog H .shl t (.c (.int .u64 (a : Int))) (.c (.int .i64 (n : Int))) = if 0 ≤ (n : Int) then some (.c (.int .u64 (IntKind.wrap .u64 (a * 2 ^ (min (n : Int).toNat 64))))) else none := rfl
  have hp : 2 ^ n < 4294967296 := Nat.lt_of_lt_of_le (Nat.pow_lt_pow_right (by omega) hn) (by decide)
  have hm : a * 2 ^ n < 18446744073709551616 := Nat.lt_of_lt_of_le (Nat.mul_lt_mul'' h hp) (by decide)
  rw [e, if_pos (by omega), Int.toNat_natCast, Nat.min_eq_left (by omega)]
  rw [show (a : Int) * (2 : Int) ^ n = ((a * 2 ^ n : Nat) : Int) by simp, wr64 hm]
theorem shrN {H : Heap} {t : TypeId} {a n : Nat} (hn : n < 32) : binA Tryd.prog H .shr t (.c (.int .u64 (a : Int))) (.c (.int .i64 (n : Int))) = some (.c (.int .u64 ((a / 2 ^ n : Nat) : Int))) := by
  have e : binA Tryd.prog H .shr t (.c (.int .u64 (a : Int))) (.c (.int .i64 (n : Int))) = if 0 ≤ (n : Int) then some (.c (.int .u64 ((a : Int).fdiv (2 ^ (min (n : Int).toNat 64))))) else none := rfl
  rw [e, if_pos (by omega), Int.toNat_natCast, Nat.min_eq_left (by omega)]
  rw [show (2 : Int) ^ n = ((2 ^ n : Nat) : Int) by simp, Int.fdiv_eq_ediv_of_nonneg _ (Int.natCast_nonneg _)]
  rfl
theorem or64 {H : Heap} {t : TypeId} {a b : Nat} (ha : a < 4294967296) (hb : b < 4294967296) : binA Tryd.prog H .or t (.c (.int .u64 ((a * 4294967296 : Nat) : Int))) (.c (.int .u64 (b : Int))) = some (.c (.int .u64 ((a * 4294967296 + b : Nat) : Int))) := by
  have e : binA Tryd.prog H .or t (.c (.int .u64 ((a * 4294967296 : Nat) : Int))) (.c (.int .u64 (b : Int))) = some (.c (.int .u64 (IntKind.wrap .u64 ((BitVec.ofInt 64 ((a * 4294967296 : Nat) : Int) ||| BitVec.ofInt 64 (b : Int)).toNat : Nat)))) := rfl
  have h := Nat.two_pow_add_eq_or_of_lt (i := 32) (b := b) (by omega) a
  rw [e, BitVec.toNat_or, of64 (by omega), of64 (by omega), Nat.mul_comm a, show (4294967296 : Nat) = 2 ^ 32 from rfl, ← h, wr64 (by omega)]
theorem or64' {H : Heap} {t : TypeId} {a b : Nat} (ha : a < 4294967296) (hb : b < 4294967296) : binA Tryd.prog H .or t (.c (.int .u64 (b : Int))) (.c (.int .u64 ((a * 4294967296 : Nat) : Int))) = some (.c (.int .u64 ((a * 4294967296 + b : Nat) : Int))) := by
  have e : binA Tryd.prog H .or t (.c (.int .u64 (b : Int))) (.c (.int .u64 ((a * 4294967296 : Nat) : Int))) = some (.c (.int .u64 (IntKind.wrap .u64 ((BitVec.ofInt 64 (b : Int) ||| BitVec.ofInt 64 ((a * 4294967296 : Nat) : Int)).toNat : Nat)))) := rfl
  have h := Nat.two_pow_add_eq_or_of_lt (i := 32) (b := b) (by omega) a
  rw [e, BitVec.toNat_or, of64 (by omega), of64 (by omega), Nat.or_comm, Nat.mul_comm a, show (4294967296 : Nat) = 2 ^ 32 from rfl, ← h, wr64 (by omega)]
theorem and64m {H : Heap} {t : TypeId} {a : Nat} (ha : a < 18446744073709551616) : binA Tryd.prog H .and t (.c (.int .u64 (a : Int))) (.c (.int .u64 4294967295)) = some (.c (.int .u64 ((a % 4294967296 : Nat) : Int))) := by
  have e : binA Tryd.prog H .and t (.c (.int .u64 (a : Int))) (.c (.int .u64 4294967295)) = some (.c (.int .u64 (IntKind.wrap .u64 ((BitVec.ofInt 64 (a : Int) &&& BitVec.ofInt 64 ((4294967295 : Nat) : Int)).toNat : Nat)))) := rfl
  have h := Nat.and_two_pow_sub_one_eq_mod a 32
  rw [e, BitVec.toNat_and, of64 ha, of64 (by omega), show (4294967295 : Nat) = 2 ^ 32 - 1 from rfl, h, wr64 (by omega)]
theorem and64o {H : Heap} {t : TypeId} {a : Nat} (ha : a < 18446744073709551616) : binA Tryd.prog H .and t (.c (.int .u64 (a : Int))) (.c (.int .u64 1)) = some (.c (.int .u64 ((a % 2 : Nat) : Int))) := by
  have e : binA Tryd.prog H .and t (.c (.int .u64 (a : Int))) (.c (.int .u64 1)) = some (.c (.int .u64 (IntKind.wrap .u64 ((BitVec.ofInt 64 (a : Int) &&& BitVec.ofInt 64 ((1 : Nat) : Int)).toNat : Nat)))) := rfl
  have h := Nat.and_two_pow_sub_one_eq_mod a 1
  rw [e, BitVec.toNat_and, of64 ha, of64 (by omega), show (1 : Nat) = 2 ^ 1 - 1 from rfl, h, wr64 (by omega)]
theorem encD_rep0 (L : Nat) : (List.replicate L [IV.int .u32 0]).flatten = encD (List.replicate L 0) := by simp [encD]
theorem cpD {d s : List Nat} {X : Heap} {n : Nat} (hd : d.length = n) (hs : s.length = n) : cpO 1 (.hsl 0 0 n n 1) (rD d :: X) (some (encD s, n)) = some (n, rD s :: X) := by
  have hr : rowOf (rD d :: X) 0 n = some (117, encD d) := rowOf_eq (fz := false) rfl (by rw [encD_length, hd])
  unfold cpO
  simp only [Option.bind_some, hr]
  rw [if_pos ⟨by omega, trivial, rfl⟩]
  have h1 : (encD s).take n = encD s := List.take_of_length_le (by rw [encD_length]; omega)
  have h2 : (encD d).drop n = [] := List.drop_eq_nil_of_le (by rw [encD_length]; omega)
  simp [h1, h2]
theorem norm_ev (k : Nat) (a : List Nat) (nl : Bool) (cap : Option Nat) (hl : a.length ≤ 1000000) (hk : a.length < k) : ∃ nl3 cap3, run (k+2) 105 [sD a nl cap] = some (sD (trimD a) nl3 cap3) := by
  have h1 := trim_ev k a nl cap hl hk
  have hta := trim_len a
  obtain ⟨A, hA⟩ : ∃ A, A = trimD a := ⟨_, rfl⟩
  rw [← hA] at h1 hta ⊢
  have q1 : (0 : Int) ≤ A.length := by omega
  have q2 : A.length * 4 ≤ roomBytes := Nat.le_trans (show A.length * 4 ≤ 4000000 by omega) (by decide)
  have q3 : A.length ≤ roomBytes := Nat.le_trans (show A.length ≤ 1000000 by omega) (by decide)
  have hel := encD_length A
  have hel0 := encD_length (List.replicate A.length 0)
  rw [List.length_replicate] at hel0
  simp only [run] at h1
  rw [run, ev105, ans_trim]
  simp only [Tryd.f105, h1, q1, q2, q3, encD_rep0, hel, hel0, FT, Int.reduceEq, Int.reduceToNat, Int.reduceLE, Int.reduceLT, Int.reduceAdd, Int.reduceMul, Int.reduceSub, Int.reduceNeg, Nat.reduceAdd, Nat.reduceSub, Nat.reduceMul, Nat.reduceLT, Nat.reduceBEq, Nat.reduceEqDiff, Nat.reduceLeDiff]
  rw [cpD (List.length_replicate ..) rfl]
  have htk : (encD A).take A.length = encD A := List.take_of_length_le (by rw [hel]; exact Nat.le_refl _)
  simp only [hel, htk, Nat.le_refl, FT, Int.reduceEq, Int.reduceToNat, Int.reduceLE, Int.reduceLT, Int.reduceAdd, Int.reduceMul, Int.reduceSub, Int.reduceNeg, Nat.reduceAdd, Nat.reduceSub, Nat.reduceMul, Nat.reduceLT, Nat.reduceBEq, Nat.reduceEqDiff, Nat.reduceLeDiff]
  exact ⟨_, _, rfl⟩
end Go.Proofs.Sw.W
namespace Go.Proofs.Sw.W
open Go.Ab
theorem take_set (l : List Nat) (i v : Nat) : (l.set i v).take i = l.take i := by
  apply List.ext_getElem?
  intro j
  rw [List.getElem?_take, List.getElem?_take]
  by_cases h : j < i
  · rw [if_pos h, if_pos h, List.getElem?_set, if_neg (by omega)]
  · rw [if_neg h, if_neg h]
theorem getD_set_self {l : List Nat} {i v : Nat} (h : i < l.length) : (l.set i v).getD i 0 = v := by
  rw [List.getD_eq_getElem?_getD, List.getElem?_set_self h]; rfl
theorem getD_set_ne {l : List Nat} {i j v : Nat} (h : i ≠ j) : (l.set i v).getD j 0 = l.getD j 0 := by
  rw [List.getD_eq_getElem?_getD, List.getElem?_set, if_neg h, ← List.getD_eq_getElem?_getD]
theorem vd_put {l : List Nat} {i v : Nat} (h : i < l.length) : vd ((l.set i v).take (i + 1)) = vd (l.take i) + 4294967296 ^ i * v := by
  rw [vd_take, take_set, getD_set_self h]
structure AdI (a b O : List Nat) (L c i : Nat) : Prop where
  len : O.length = L
  ok : okD O
  c1 : c ≤ 1
  vl : vd (O.take i) + 4294967296 ^ i * c = vd (a.take i) + vd (b.take i)
theorem AdI.step {a b O : List Nat} {L c i : Nat} (h : AdI a b O L c i) (ha : okD a) (hb : okD b) (hi : i < L) : AdI a b (O.set i ((c + a.getD i 0 + b.getD i 0) % 4294967296)) L ((c + a.getD i 0 + b.getD i 0) / 4294967296) (i + 1) := by
  have h1 := okD_get ha i
  have h2 := okD_get hb i
  have h3 := h.c1
  refine ⟨by rw [List.length_set]; exact h.len, okD_set h.ok (by omega), by omega, ?_⟩
  have hv := h.vl
  rw [vd_put (by rw [h.len]; exact hi), vd_take, vd_take]
  obtain ⟨s, hs⟩ : ∃ s, s = c + a.getD i 0 + b.getD i 0 := ⟨_, rfl⟩
  rw [← hs]
  have e1 : 4294967296 ^ (i + 1) * (s / 4294967296) = 4294967296 ^ i * (4294967296 * (s / 4294967296)) := by rw [Nat.pow_succ, Nat.mul_assoc]
  have e2 : 4294967296 ^ i * (s % 4294967296) + 4294967296 ^ i * (4294967296 * (s / 4294967296)) = 4294967296 ^ i * s := by rw [← Nat.mul_add]; congr 1; omega
  have e3 : 4294967296 ^ i * s = 4294967296 ^ i * c + 4294967296 ^ i * a.getD i 0 + 4294967296 ^ i * b.getD i 0 := by rw [hs, Nat.mul_add, Nat.mul_add]
  omega
structure SuI (a b O : List Nat) (L c i : Nat) : Prop where
  len : O.length = L
  ok : okD O
  c1 : c ≤ 1
  vl : vd (O.take i) + vd (b.take i) = vd (a.take i) + 4294967296 ^ i * c
def suD (x y : Nat) : Nat := if x < y then x + 4294967296 - y else x - y
theorem SuI.step {a b O : List Nat} {L c i : Nat} (h : SuI a b O L c i) (ha : okD a) (hb : okD b) (hi : i < L) : SuI a b (O.set i (suD (a.getD i 0) (c + b.getD i 0))) L (if a.getD i 0 < c + b.getD i 0 then 1 else 0) (i + 1) := by
  have h1 := okD_get ha i
  have h2 := okD_get hb i
  have h3 := h.c1
  obtain ⟨x, hx⟩ : ∃ x, x = a.getD i 0 := ⟨_, rfl⟩
  obtain ⟨y, hy⟩ : ∃ y, y = b.getD i 0 := ⟨_, rfl⟩
  rw [← hx] at h1 ⊢
  rw [← hy] at h2 ⊢
  have hlt : suD x (c + y) < 4294967296 := by unfold suD; split <;> omega
  refine ⟨by rw [List.length_set]; exact h.len, okD_set h.ok hlt, by split <;> omega, ?_⟩
  have hv := h.vl
  rw [vd_put (by rw [h.len]; exact hi), vd_take, vd_take, ← hx, ← hy]
  have e0 : suD x (c + y) + (c + y) = x + 4294967296 * (if x < c + y then 1 else 0) := by unfold suD; split <;> omega
  have e1 : 4294967296 ^ (i + 1) * (if x < c + y then 1 else 0) = 4294967296 ^ i * (4294967296 * (if x < c + y then 1 else 0)) := by rw [Nat.pow_succ, Nat.mul_assoc]
  have e2 := congrArg (4294967296 ^ i * ·) e0
  simp only [Nat.mul_add] at e2
  rw [e1]
  omega
section
variable [Globals]
theorem loop_add (kf : Nat) (a b : List Nat) (nl nl2 : Bool) (cap cap2 : Option Nat) (ha : okD a) (hb : okD b) (L : Nat) (hL : L = a.length + 1) (hla : a.length ≤ 100000) (O0 : List Nat) (c0 : Nat) (h0 : AdI a b O0 L c0 0) (k : Nat) (l : Ass) (z : Option Out) (hz : loopR Tryd.prog tab kf none LB100_6 100 58 [0, 1, 5, 6, 20, 21, 22] 1 k l ([rD O0]) = z) (hk : a.length < k) (a0 : asc l 0 = sD a nl cap) (a1 : asc l 1 = sD b nl2 cap2) (a5 : asc l 5 = .hsl 0 0 L L 1) (a6 : asc l 6 = .c (.int .u64 (c0 : Int))) (a20 : asc l 20 = sD a nl cap) (a21 : asc l 21 = ii a.length) (a22 : asc l 22 = ii 0) :
    ∃ l' O cy, z = some (.exit 0 (fr 58 l') [rD O]) ∧ asc l' 0 = sD a nl cap ∧ asc l' 5 = .hsl 0 0 L L 1 ∧ asc l' 6 = .c (.int .u64 ((cy : Nat) : Int)) ∧ AdI a b O L cy a.length := by
  subst hz
  refine loop_nat a.length (fun k l H => loopR Tryd.prog tab kf none LB100_6 100 58 [0, 1, 5, 6, 20, 21, 22] 1 k l H)
    (fun i l H => ∃ (O : List Nat), ∃ (cy : Nat), asc l 0 = sD a nl cap ∧ asc l 1 = sD b nl2 cap2 ∧ asc l 5 = .hsl 0 0 L L 1 ∧ asc l 6 = .c (.int .u64 (cy : Int)) ∧ asc l 20 = sD a nl cap ∧ asc l 21 = ii a.length ∧ asc l 22 = ii i ∧ (AdI a b O L cy i) ∧ H = ([rD O]))
    (fun z => ∃ l' O cy, z = some (.exit 0 (fr 58 l') [rD O]) ∧ asc l' 0 = sD a nl cap ∧ asc l' 5 = .hsl 0 0 L L 1 ∧ asc l' 6 = .c (.int .u64 ((cy : Nat) : Int)) ∧ AdI a b O L cy a.length) ?_ a.length 0 k l _ (by omega) hk ⟨O0, c0, a0, a1, a5, a6, a20, a21, a22, h0, rfl⟩
  clear hk a0 a1 a5 a6 a20 a21 a22
  rintro i k l H hi ⟨O, cy, a0, a1, a5, a6, a20, a21, a22, hp, rfl⟩
  have ht : trim 1 (fr 58 (keep l [0, 1, 5, 6, 20, 21, 22])) ([rD O]) = ([rD O]) := by
    exact trim_same rfl
  by_cases hc : i < a.length
  · have hc' : (i : Int) < ((a.length : Nat) : Int) := by omega
    have hc0 : (0 : Int) ≤ i := by omega
    have hw : IntKind.wrap .i64 ((i : Int) + 1) = ((i + 1 : Nat) : Int) := by rw [wrap64 (by omega) (by omega)]; omega
    have hx := encD_get (l := a) hc
    have hela := encD_length a
    have helb := encD_length b
    have helO := encD_length O
    have hOl := hp.len
    have hc1 := hp.c1
    have h1 := okD_get ha i
    have h2 := okD_get hb i
    have hiL : i < L := by omega
    have hiL' : (i : Int) < L := by omega
    have hst := hp.step ha hb hiL
    have hcv1 : IntKind.wrap .u64 ((a.getD i 0 : Nat) : Int) = ((a.getD i 0 : Nat) : Int) := wr64 (by omega)
    have hs1 : IntKind.wrap .u64 ((cy : Int) + ((a.getD i 0 : Nat) : Int)) = ((cy + a.getD i 0 : Nat) : Int) := by rw [show (cy : Int) + ((a.getD i 0 : Nat) : Int) = ((cy + a.getD i 0 : Nat) : Int) by omega, wr64 (by omega)]
    have hset := fun v : Nat => encD_set (l := O) (i := i) (d := v)
    by_cases hib : i < b.length
    · have hib' : (i : Int) < b.length := by omega
      have hy := encD_get (l := b) hib
      have hcv2 : IntKind.wrap .u64 ((b.getD i 0 : Nat) : Int) = ((b.getD i 0 : Nat) : Int) := wr64 (by omega)
      have hs2 : IntKind.wrap .u64 (((cy + a.getD i 0 : Nat) : Int) + ((b.getD i 0 : Nat) : Int)) = ((cy + a.getD i 0 + b.getD i 0 : Nat) : Int) := by rw [show ((cy + a.getD i 0 : Nat) : Int) + ((b.getD i 0 : Nat) : Int) = ((cy + a.getD i 0 + b.getD i 0 : Nat) : Int) by omega, wr64 (by omega)]
      simp only [loopR_succ, ht]
      simp only [a0, a1, a5, a6, a20, a21, a22, hc', hc0, hw, hx, hy, hela, helb, helO, hOl, hib', hiL, hiL', hcv1, hcv2, hs1, hs2, wrap32m, shr64, hset, loopR_succ, loopOf, findLoop, firstRegion, Option.some_or, Option.none_or, Option.getD_some, Option.some.injEq, Tryd.f100, FT, Int.reduceEq, Int.reduceToNat, Int.reduceLE, Int.reduceLT, Int.reduceAdd, Int.reduceMul, Int.reduceSub, Int.reduceNeg, Nat.reduceAdd, Nat.reduceSub, Nat.reduceMul, Nat.reduceLT, Nat.reduceBEq, Nat.reduceEqDiff, Nat.reduceLeDiff]
      exact .inr ⟨_, _, hc, rfl, _, _, (by rfl), (by rfl), (by rfl), (by rfl), (by rfl), (by rfl), (by rfl), hst, rfl⟩
    · have hib' : ¬ (i : Int) < b.length := by omega
      rw [getD_out (l := b) (by omega), Nat.add_zero] at hst
      simp only [loopR_succ, ht]
      simp only [a0, a1, a5, a6, a20, a21, a22, hc', hc0, hw, hx, hela, helb, helO, hOl, hib', hiL, hiL', hcv1, hs1, wrap32m, shr64, hset, loopR_succ, loopOf, findLoop, firstRegion, Option.some_or, Option.none_or, Option.getD_some, Option.some.injEq, Tryd.f100, FT, Int.reduceEq, Int.reduceToNat, Int.reduceLE, Int.reduceLT, Int.reduceAdd, Int.reduceMul, Int.reduceSub, Int.reduceNeg, Nat.reduceAdd, Nat.reduceSub, Nat.reduceMul, Nat.reduceLT, Nat.reduceBEq, Nat.reduceEqDiff, Nat.reduceLeDiff]
      exact .inr ⟨_, _, hc, rfl, _, _, (by rfl), (by rfl), (by rfl), (by rfl), (by rfl), (by rfl), (by rfl), hst, rfl⟩
  · refine .inl ?_
    obtain rfl : i = a.length := by omega
    have hc' : ¬ (((a.length : Nat) : Int) < ((a.length : Nat) : Int)) := by omega
    simp only [loopR_succ, ht]
    simp only [a0, a1, a5, a6, a20, a21, a22, hc', loopR_succ, loopOf, findLoop, firstRegion, Option.some_or, Option.none_or, Option.getD_some, Option.some.injEq, Tryd.f100, FT, Int.reduceEq, Int.reduceToNat, Int.reduceLE, Int.reduceLT, Int.reduceAdd, Int.reduceMul, Int.reduceSub, Int.reduceNeg, Nat.reduceAdd, Nat.reduceSub, Nat.reduceMul, Nat.reduceLT, Nat.reduceBEq, Nat.reduceEqDiff, Nat.reduceLeDiff]
    exact ⟨_, O, cy, rfl, (by rfl), (by rfl), (by rfl), hp⟩
theorem add_end {a b O : List Nat} {L c : Nat} (h : AdI a b O L c a.length) (hL : L = a.length + 1) (hab : b.length ≤ a.length) : okD (O.set a.length c) ∧ (O.set a.length c).length = L ∧ vd (O.set a.length c) = vd a + vd b := by
  have h1 := h.c1
  have hv := h.vl
  refine ⟨okD_set h.ok (by omega), by rw [List.length_set]; exact h.len, ?_⟩
  have h2 : (O.set a.length c).take (a.length + 1) = O.set a.length c := List.take_of_length_le (by rw [List.length_set, h.len]; omega)
  rw [← h2, vd_put (by rw [h.len]; omega), hv, List.take_of_length_le (Nat.le_refl _), List.take_of_length_le hab]
theorem add_evA (k : Nat) (a b : List Nat) (nl nl2 : Bool) (cap cap2 : Option Nat) (ha : okD a) (hb : okD b) (hab : b.length ≤ a.length) (hla : a.length ≤ 100000) (hlb : b.length ≤ 100000) (hk : a.length + b.length + 10 < k) : run (k+2) 100 [sD a nl cap, sD b nl2 cap2] = some (sD (dig (vd a + vd b)) false (some (dig (vd a + vd b)).length)) := by
  have hlt : ¬ (a.length : Int) < b.length := by omega
  obtain ⟨L, hL⟩ : ∃ L, L = a.length + 1 := ⟨_, rfl⟩
  have hw1 : IntKind.wrap .i64 ((a.length : Int) + 1) = (L : Int) := by rw [wrap64 (by omega) (by omega), hL]; omega
  have q1 : (0 : Int) ≤ (L : Int) := by omega
  have q2 : L * 4 ≤ roomBytes := Nat.le_trans (show L * 4 ≤ 4000000 by omega) (by decide)
  have q3 : L ≤ roomBytes := Nat.le_trans (show L ≤ 1000000 by omega) (by decide)
  rw [run, ev100, ans_trim]
  simp only [Tryd.f100, hlt, hw1, q1, q2, q3, encD_rep0, FT, Int.reduceEq, Int.reduceToNat, Int.reduceLE, Int.reduceLT, Int.reduceAdd, Int.reduceMul, Int.reduceSub, Int.reduceNeg, Nat.reduceAdd, Nat.reduceSub, Nat.reduceMul, Nat.reduceLT, Nat.reduceBEq, Nat.reduceEqDiff, Nat.reduceLeDiff]
  rw [evalCode_loopB LB100_6 lp100_6]; rotate_left; rfl; rfl; rfl
  generalize hz : loopR _ _ _ _ _ _ _ _ _ _ _ _ = z
  obtain ⟨l', O, cy, rfl, e0, e5, e6, hI⟩ := loop_add (k + 1) a b nl nl2 cap cap2 (by assumption) (by assumption) L hL (by omega) (List.replicate L 0) 0 ⟨by simp, fun d hd => by rw [List.eq_of_mem_replicate hd]; omega, by omega, by simp [vd]⟩ _ _ z hz (by omega) (by rfl) (by rfl) (by rfl) (by rfl) (by rfl) (by rfl) (by rfl)
  clear hz
  obtain ⟨hok, hPl, hPv⟩ := add_end hI hL (by omega)
  have hset := encD_set (l := O) (i := a.length) (d := cy)
  have helO := encD_length O
  have hOl := hI.len
  have hcy := hI.c1
  have hcv : (cy % 4294967296 : Nat) = cy := Nat.mod_eq_of_lt (by omega)
  have hj0 : (0 : Int) ≤ (a.length : Int) := by omega
  have hjL : (a.length : Int) < (L : Int) := by omega
  have hjN : a.length < L := by omega
  obtain ⟨P, hP⟩ : ∃ P, P = O.set a.length cy := ⟨_, rfl⟩
  rw [← hP] at hset hok hPl hPv
  have hdo := dig_of hok
  rw [hPv] at hdo
  rw [← hPl] at e5
  obtain ⟨H2, hds, _, hold⟩ := trim_call (k := k) (f := 100) (r := 15) (i := 1) (id := 0) (a := P) (H := [rD P]) (by rfl) (by omega) (by omega)
  have htr := trim_ev k P false none (by omega) (by omega)
  have hel := encD_length P
  have htk : (encD P).take P.length = encD P := List.take_of_length_le (by rw [hel]; exact Nat.le_refl _)
  simp only [run] at htr
  rw [hdo] at hds htr
  simp only [hPl] at hds hel htk e5
  simp only [sD, hPl] at htr
  simp only [e0, e5, e6, wrap32m, hcv, helO, hOl, hj0, hjL, hjN, hset, hel, htk, htr, hds, strict_slice, strict_c, strict1_c, strict0_c, Nat.le_refl, FT, Int.reduceEq, Int.reduceToNat, Int.reduceLE, Int.reduceLT, Int.reduceAdd, Int.reduceMul, Int.reduceSub, Int.reduceNeg, Nat.reduceAdd, Nat.reduceSub, Nat.reduceMul, Nat.reduceLT, Nat.reduceBEq, Nat.reduceEqDiff, Nat.reduceLeDiff]
theorem add_evB (k : Nat) (a b : List Nat) (nl nl2 : Bool) (cap cap2 : Option Nat) (ha : okD a) (hb : okD b) (hab : a.length < b.length) (hla : a.length ≤ 100000) (hlb : b.length ≤ 100000) (hk : a.length + b.length + 10 < k) : run (k+2) 100 [sD a nl cap, sD b nl2 cap2] = some (sD (dig (vd b + vd a)) false (some (dig (vd b + vd a)).length)) := by
  have hlt : (a.length : Int) < b.length := by omega
  obtain ⟨L, hL⟩ : ∃ L, L = b.length + 1 := ⟨_, rfl⟩
  have hw1 : IntKind.wrap .i64 ((b.length : Int) + 1) = (L : Int) := by rw [wrap64 (by omega) (by omega), hL]; omega
  have q1 : (0 : Int) ≤ (L : Int) := by omega
  have q2 : L * 4 ≤ roomBytes := Nat.le_trans (show L * 4 ≤ 4000000 by omega) (by decide)
  have q3 : L ≤ roomBytes := Nat.le_trans (show L ≤ 1000000 by omega) (by decide)
  rw [run, ev100, ans_trim]
  simp only [Tryd.f100, hlt, hw1, q1, q2, q3, encD_rep0, FT, Int.reduceEq, Int.reduceToNat, Int.reduceLE, Int.reduceLT, Int.reduceAdd, Int.reduceMul, Int.reduceSub, Int.reduceNeg, Nat.reduceAdd, Nat.reduceSub, Nat.reduceMul, Nat.reduceLT, Nat.reduceBEq, Nat.reduceEqDiff, Nat.reduceLeDiff]
  rw [evalCode_loopB LB100_6 lp100_6]; rotate_left; rfl; rfl; rfl
  generalize hz : loopR _ _ _ _ _ _ _ _ _ _ _ _ = z
  obtain ⟨l', O, cy, rfl, e0, e5, e6, hI⟩ := loop_add (k + 1) b a nl2 nl cap2 cap (by assumption) (by assumption) L hL (by omega) (List.replicate L 0) 0 ⟨by simp, fun d hd => by rw [List.eq_of_mem_replicate hd]; omega, by omega, by simp [vd]⟩ _ _ z hz (by omega) (by rfl) (by rfl) (by rfl) (by rfl) (by rfl) (by rfl) (by rfl)
  clear hz
  obtain ⟨hok, hPl, hPv⟩ := add_end hI hL (by omega)
  have hset := encD_set (l := O) (i := b.length) (d := cy)
  have helO := encD_length O
  have hOl := hI.len
  have hcy := hI.c1
  have hcv : (cy % 4294967296 : Nat) = cy := Nat.mod_eq_of_lt (by omega)
  have hj0 : (0 : Int) ≤ (b.length : Int) := by omega
  have hjL : (b.length : Int) < (L : Int) := by omega
  have hjN : b.length < L := by omega
  obtain ⟨P, hP⟩ : ∃ P, P = O.set b.length cy := ⟨_, rfl⟩
  rw [← hP] at hset hok hPl hPv
  have hdo := dig_of hok
  rw [hPv] at hdo
  rw [← hPl] at e5
  obtain ⟨H2, hds, _, hold⟩ := trim_call (k := k) (f := 100) (r := 15) (i := 1) (id := 0) (a := P) (H := [rD P]) (by rfl) (by omega) (by omega)
  have htr := trim_ev k P false none (by omega) (by omega)
  have hel := encD_length P
  have htk : (encD P).take P.length = encD P := List.take_of_length_le (by rw [hel]; exact Nat.le_refl _)
  simp only [run] at htr
  rw [hdo] at hds htr
  simp only [hPl] at hds hel htk e5
  simp only [sD, hPl] at htr
  simp only [e0, e5, e6, wrap32m, hcv, helO, hOl, hj0, hjL, hjN, hset, hel, htk, htr, hds, strict_slice, strict_c, strict1_c, strict0_c, Nat.le_refl, FT, Int.reduceEq, Int.reduceToNat, Int.reduceLE, Int.reduceLT, Int.reduceAdd, Int.reduceMul, Int.reduceSub, Int.reduceNeg, Nat.reduceAdd, Nat.reduceSub, Nat.reduceMul, Nat.reduceLT, Nat.reduceBEq, Nat.reduceEqDiff, Nat.reduceLeDiff]
theorem add_ev (k : Nat) (a b : List Nat) (nl nl2 : Bool) (cap cap2 : Option Nat) (ha : okD a) (hb : okD b) (hla : a.length ≤ 100000) (hlb : b.length ≤ 100000) (hk : a.length + b.length + 10 < k) : run (k+2) 100 [sD a nl cap, sD b nl2 cap2] = some (sD (dig (vd a + vd b)) false (some (dig (vd a + vd b)).length)) := by
  by_cases h : b.length ≤ a.length
  · exact add_evA k a b nl nl2 cap cap2 ha hb h hla hlb hk
  · rw [Nat.add_comm (vd a)]
    exact add_evB k a b nl nl2 cap cap2 ha hb (by omega) hla hlb hk
end
end Go.Proofs.Sw.W
namespace Go.Proofs.Sw.W
open Go.Ab
def wsb (x y : Nat) : Nat := if x < y then x + 18446744073709551616 - y else x - y
theorem wsb_facts {x y : Nat} (hx : x < 4294967296) (hy : y ≤ 4294967296) : wsb x y < 18446744073709551616 ∧ wsb x y % 4294967296 = suD x y ∧ wsb x y / 4294967296 % 2 = if x < y then 1 else 0 := by
  unfold wsb suD
  by_cases h : x < y
  · simp only [h, if_true]; omega
  · simp only [h, if_false]; omega
section
variable [Globals]
theorem wrap_sub {x y : Nat} (hx : x < 4294967296) (hy : y ≤ 4294967296) : IntKind.wrap .u64 ((x : Int) - (y : Int)) = ((wsb x y : Nat) : Int) := by
  have e : IntKind.wrap .u64 ((x : Int) - (y : Int)) = ((x : Int) - (y : Int)) % 18446744073709551616 := rfl
  rw [e]
  unfold wsb
  split <;> omega
theorem loop_sub (kf : Nat) (a b : List Nat) (nl nl2 : Bool) (cap cap2 : Option Nat) (ha : okD a) (hb : okD b) (L : Nat) (hL : L = a.length) (hla : a.length ≤ 100000) (O0 : List Nat) (c0 : Nat) (h0 : SuI a b O0 L c0 0) (k : Nat) (l : Ass) (z : Option Out) (hz : loopR Tryd.prog tab kf none LB101_6 101 53 [1, 6, 7, 19, 20, 21] 1 k l ([rD O0]) = z) (hk : a.length < k) (a1 : asc l 1 = sD b nl2 cap2) (a6 : asc l 6 = .hsl 0 0 L L 1) (a7 : asc l 7 = .c (.int .u64 (c0 : Int))) (a19 : asc l 19 = sD a nl cap) (a20 : asc l 20 = ii a.length) (a21 : asc l 21 = ii 0) :
    ∃ l' O cy, z = some (.exit 0 (fr 53 l') [rD O]) ∧ asc l' 6 = .hsl 0 0 L L 1 ∧ SuI a b O L cy a.length := by
  subst hz
  refine loop_nat a.length (fun k l H => loopR Tryd.prog tab kf none LB101_6 101 53 [1, 6, 7, 19, 20, 21] 1 k l H)
    (fun i l H => ∃ (O : List Nat), ∃ (cy : Nat), asc l 1 = sD b nl2 cap2 ∧ asc l 6 = .hsl 0 0 L L 1 ∧ asc l 7 = .c (.int .u64 (cy : Int)) ∧ asc l 19 = sD a nl cap ∧ asc l 20 = ii a.length ∧ asc l 21 = ii i ∧ (SuI a b O L cy i) ∧ H = ([rD O]))
    (fun z => ∃ l' O cy, z = some (.exit 0 (fr 53 l') [rD O]) ∧ asc l' 6 = .hsl 0 0 L L 1 ∧ SuI a b O L cy a.length) ?_ a.length 0 k l _ (by omega) hk ⟨O0, c0, a1, a6, a7, a19, a20, a21, h0, rfl⟩
  clear hk a1 a6 a7 a19 a20 a21
  rintro i k l H hi ⟨O, cy, a1, a6, a7, a19, a20, a21, hp, rfl⟩
  have ht : trim 1 (fr 53 (keep l [1, 6, 7, 19, 20, 21])) ([rD O]) = ([rD O]) := by
    exact trim_same rfl
  by_cases hc : i < a.length
  · have hc' : (i : Int) < ((a.length : Nat) : Int) := by omega
    have hc0 : (0 : Int) ≤ i := by omega
    have hw : IntKind.wrap .i64 ((i : Int) + 1) = ((i + 1 : Nat) : Int) := by rw [wrap64 (by omega) (by omega)]; omega
    have hx := encD_get (l := a) hc
    have hela := encD_length a
    have helb := encD_length b
    have helO := encD_length O
    have hOl := hp.len
    have hc1 := hp.c1
    have h1 := okD_get ha i
    have h2 := okD_get hb i
    have hiL : i < L := by omega
    have hiL' : (i : Int) < L := by omega
    have hst := hp.step ha hb hiL
    have hcv1 : IntKind.wrap .u64 ((a.getD i 0 : Nat) : Int) = ((a.getD i 0 : Nat) : Int) := wr64 (by omega)
    have hset := fun v : Nat => encD_set (l := O) (i := i) (d := v)
    by_cases hib : i < b.length
    · have hib' : (i : Int) < b.length := by omega
      have hy := encD_get (l := b) hib
      have hcv2 : IntKind.wrap .u64 ((b.getD i 0 : Nat) : Int) = ((b.getD i 0 : Nat) : Int) := wr64 (by omega)
      have hs2 : IntKind.wrap .u64 ((cy : Int) + ((b.getD i 0 : Nat) : Int)) = ((cy + b.getD i 0 : Nat) : Int) := by rw [show (cy : Int) + ((b.getD i 0 : Nat) : Int) = ((cy + b.getD i 0 : Nat) : Int) by omega, wr64 (by omega)]
      have hs3 := wrap_sub h1 (show cy + b.getD i 0 ≤ 4294967296 by omega)
      obtain ⟨g1, g2, g3⟩ := wsb_facts h1 (show cy + b.getD i 0 ≤ 4294967296 by omega)
      have ha1 := fun (X : Heap) (t : TypeId) => and64o (H := X) (t := t) (a := wsb (a.getD i 0) (cy + b.getD i 0) / 4294967296) (by omega)
      rw [← g2, ← g3] at hst
      simp only [loopR_succ, ht]
      simp only [a1, a6, a7, a19, a20, a21, hc', hc0, hw, hx, hy, hela, helb, helO, hOl, hib', hiL, hiL', hcv1, hcv2, hs2, hs3, wrap32m, shr64, ha1, hset, loopR_succ, loopOf, findLoop, firstRegion, Option.some_or, Option.none_or, Option.getD_some, Option.some.injEq, Tryd.f101, FT, Int.reduceEq, Int.reduceToNat, Int.reduceLE, Int.reduceLT, Int.reduceAdd, Int.reduceMul, Int.reduceSub, Int.reduceNeg, Nat.reduceAdd, Nat.reduceSub, Nat.reduceMul, Nat.reduceLT, Nat.reduceBEq, Nat.reduceEqDiff, Nat.reduceLeDiff]
      exact .inr ⟨_, _, hc, rfl, _, _, (by rfl), (by rfl), (by rfl), (by rfl), (by rfl), (by rfl), hst, rfl⟩
    · have hib' : ¬ (i : Int) < b.length := by omega
      have hs3 := wrap_sub h1 (show cy ≤ 4294967296 by omega)
      obtain ⟨g1, g2, g3⟩ := wsb_facts h1 (show cy ≤ 4294967296 by omega)
      have ha1 := fun (X : Heap) (t : TypeId) => and64o (H := X) (t := t) (a := wsb (a.getD i 0) cy / 4294967296) (by omega)
      rw [getD_out (l := b) (by omega), Nat.add_zero, ← g2, ← g3] at hst
      simp only [loopR_succ, ht]
      simp only [a1, a6, a7, a19, a20, a21, hc', hc0, hw, hx, hela, helb, helO, hOl, hib', hiL, hiL', hcv1, hs3, wrap32m, shr64, ha1, hset, loopR_succ, loopOf, findLoop, firstRegion, Option.some_or, Option.none_or, Option.getD_some, Option.some.injEq, Tryd.f101, FT, Int.reduceEq, Int.reduceToNat, Int.reduceLE, Int.reduceLT, Int.reduceAdd, Int.reduceMul, Int.reduceSub, Int.reduceNeg, Nat.reduceAdd, Nat.reduceSub, Nat.reduceMul, Nat.reduceLT, Nat.reduceBEq, Nat.reduceEqDiff, Nat.reduceLeDiff]
      exact .inr ⟨_, _, hc, rfl, _, _, (by rfl), (by rfl), (by rfl), (by rfl), (by rfl), (by rfl), hst, rfl⟩
  · refine .inl ?_
    obtain rfl : i = a.length := by omega
    have hc' : ¬ (((a.length : Nat) : Int) < ((a.length : Nat) : Int)) := by omega
    simp only [loopR_succ, ht]
    simp only [a1, a6, a7, a19, a20, a21, hc', loopR_succ, loopOf, findLoop, firstRegion, Option.some_or, Option.none_or, Option.getD_some, Option.some.injEq, Tryd.f101, FT, Int.reduceEq, Int.reduceToNat, Int.reduceLE, Int.reduceLT, Int.reduceAdd, Int.reduceMul, Int.reduceSub, Int.reduceNeg, Nat.reduceAdd, Nat.reduceSub, Nat.reduceMul, Nat.reduceLT, Nat.reduceBEq, Nat.reduceEqDiff, Nat.reduceLeDiff]
    exact ⟨_, O, cy, rfl, (by rfl), hp⟩
theorem sub_end {a b O : List Nat} {c : Nat} (h : SuI a b O a.length c a.length) (hab : b.length ≤ a.length) (hv : vd b ≤ vd a) : vd O = vd a - vd b := by
  have h1 := h.vl
  have h2 := h.c1
  rw [List.take_of_length_le (by rw [h.len]; exact Nat.le_refl _), List.take_of_length_le hab, List.take_of_length_le (Nat.le_refl _)] at h1
  have h3 := vd_lt h.ok
  rw [h.len] at h3
  have : c = 0 ∨ c = 1 := by omega
  rcases this with rfl | rfl
  · omega
  · omega
theorem sub_ev (k : Nat) (a b : List Nat) (nl nl2 : Bool) (cap cap2 : Option Nat) (ha : Can a) (hb : Can b) (hv : vd b ≤ vd a) (hla : a.length ≤ 100000) (hlb : b.length ≤ 100000) (hk : a.length + b.length + 10 < k) : run (k+3) 101 [sD a nl cap, sD b nl2 cap2] = some (.tup [sD (dig (vd a - vd b)) false (some (dig (vd a - vd b)).length), ii 0]) := by
  have hab : b.length ≤ a.length := by
    by_cases h : a.length < b.length
    · have := can_len ha.ok hb h; omega
    · omega
  have hcm := cmp_can k a b nl nl2 cap cap2 ha.ok hb.ok hla hlb (by omega)
  have hcv : ¬ cmpN (vd a) (vd b) < 0 := by unfold cmpN; rw [if_neg (by omega)]; split <;> decide
  have q1 : (0 : Int) ≤ (a.length : Int) := by omega
  have q2 : a.length * 4 ≤ roomBytes := Nat.le_trans (show a.length * 4 ≤ 4000000 by omega) (by decide)
  have q3 : a.length ≤ roomBytes := Nat.le_trans (show a.length ≤ 1000000 by omega) (by decide)
  simp only [run, ii] at hcm
  rw [run, ev101, ans_trim]
  simp only [Tryd.f101, hcm, hcv, q1, q2, q3, encD_rep0, ii, FT, Int.reduceEq, Int.reduceToNat, Int.reduceLE, Int.reduceLT, Int.reduceAdd, Int.reduceMul, Int.reduceSub, Int.reduceNeg, Nat.reduceAdd, Nat.reduceSub, Nat.reduceMul, Nat.reduceLT, Nat.reduceBEq, Nat.reduceEqDiff, Nat.reduceLeDiff]
  rw [evalCode_loopB LB101_6 lp101_6]; rotate_left; rfl; rfl; rfl
  generalize hz : loopR _ _ _ _ _ _ _ _ _ _ _ _ = z
  obtain ⟨l', P, cy, rfl, e6, hI⟩ := loop_sub (k + 2) a b nl nl2 cap cap2 ha.ok hb.ok a.length rfl hla (List.replicate a.length 0) 0 ⟨by simp, fun d hd => by rw [List.eq_of_mem_replicate hd]; omega, by omega, by simp [vd]⟩ _ _ z hz (by omega) (by rfl) (by rfl) (by rfl) (by rfl) (by rfl) (by rfl)
  clear hz
  have hPl := hI.len
  have hok := hI.ok
  have hPv : vd P = vd a - vd b := sub_end hI hab hv
  have hdo := dig_of hok
  rw [hPv] at hdo
  rw [← hPl] at e6
  obtain ⟨H2, hds, _, hold⟩ := trim_call (k := k + 1) (f := 101) (r := 15) (i := 1) (id := 0) (a := P) (H := [rD P]) (by rfl) (by omega) (by omega)
  have htr := trim_ev (k + 1) P false none (by omega) (by omega)
  have hel := encD_length P
  have htk : (encD P).take P.length = encD P := List.take_of_length_le (by rw [hel]; exact Nat.le_refl _)
  simp only [run] at htr
  rw [hdo] at hds htr
  simp only [hPl] at hds hel htk e6
  simp only [sD, hPl] at htr
  simp only [e6, hel, htk, htr, hds, strict_slice, strict_c, strict1_c, strict0_c, Nat.le_refl, FT, Int.reduceEq, Int.reduceToNat, Int.reduceLE, Int.reduceLT, Int.reduceAdd, Int.reduceMul, Int.reduceSub, Int.reduceNeg, Nat.reduceAdd, Nat.reduceSub, Nat.reduceMul, Nat.reduceLT, Nat.reduceBEq, Nat.reduceEqDiff, Nat.reduceLeDiff]
end
end Go.Proofs.Sw.W
namespace Go.Proofs.Sw.W
open Go.Ab
structure MuI (b O : List Nat) (V x p L c k : Nat) : Prop where
  len : O.length = L
  ok : okD O
  cb : c < 4294967296
  z : ∀ j, p + b.length ≤ j → O.getD j 0 = 0
  vl : vd O + 4294967296 ^ (p + k) * c = V + 4294967296 ^ p * (x * vd (b.take k))
theorem mul_le32 {x y : Nat} (hx : x < 4294967296) (hy : y < 4294967296) : x * y ≤ 18446744065119617025 := by
  have := Nat.mul_le_mul (show x ≤ 4294967295 by omega) (show y ≤ 4294967295 by omega)
  exact this
theorem MuI.step {b O : List Nat} {V x p L c k : Nat} (h : MuI b O V x p L c k) (hb : okD b) (hx : x < 4294967296) (hk : k < b.length) (hL : p + b.length < L) :
    c + (x * b.getD k 0 + O.getD (p + k) 0) < 18446744073709551616 ∧ MuI b (O.set (p + k) ((c + (x * b.getD k 0 + O.getD (p + k) 0)) % 4294967296)) V x p L ((c + (x * b.getD k 0 + O.getD (p + k) 0)) / 4294967296) (k + 1) := by
  have h1 := okD_get hb k
  have h2 := okD_get h.ok (p + k)
  have h3 := h.cb
  have h4 := mul_le32 hx h1
  obtain ⟨s, hs⟩ : ∃ s, s = c + (x * b.getD k 0 + O.getD (p + k) 0) := ⟨_, rfl⟩
  rw [← hs]
  refine ⟨by omega, by rw [List.length_set]; exact h.len, okD_set h.ok (by omega), by omega, fun j hj => ?_, ?_⟩
  · rw [getD_set_ne (by omega)]; exact h.z j hj
  · have hv := h.vl
    have hset := vd_set O (p + k) (s % 4294967296) (by rw [h.len]; omega)
    obtain ⟨B, hB⟩ : ∃ B, B = 4294967296 ^ (p + k) := ⟨_, rfl⟩
    have e1 : 4294967296 ^ (p + (k + 1)) * (s / 4294967296) = B * (4294967296 * (s / 4294967296)) := by rw [← Nat.add_assoc, Nat.pow_succ, Nat.mul_assoc, hB]
    have e2 : B * (s % 4294967296) + B * (4294967296 * (s / 4294967296)) = B * s := by rw [← Nat.mul_add]; congr 1; omega
    have e3 : B * s = B * c + (B * (x * b.getD k 0) + B * O.getD (p + k) 0) := by rw [hs, Nat.mul_add, Nat.mul_add]
    have e4 : 4294967296 ^ p * (x * (4294967296 ^ k * b.getD k 0)) = B * (x * b.getD k 0) := by
      rw [hB, Nat.pow_add, Nat.mul_left_comm x, Nat.mul_assoc]
    rw [vd_take, Nat.mul_add, Nat.mul_add, e4, e1]
    rw [← hB] at hset hv
    omega
structure MuO (a b O : List Nat) (L i : Nat) : Prop where
  len : O.length = L
  ok : okD O
  z : ∀ j, i + b.length ≤ j → O.getD j 0 = 0
  vl : vd O = vd (a.take i) * vd b
theorem MuO.next {a b O : List Nat} {L i c V : Nat} (h0 : V = vd (a.take i) * vd b) (h : MuI b O V (a.getD i 0) i L c b.length) (hL : i + b.length < L) : MuO a b (O.set (i + b.length) c) L (i + 1) := by
  refine ⟨by rw [List.length_set]; exact h.len, okD_set h.ok h.cb, fun j hj => ?_, ?_⟩
  · rw [getD_set_ne (by omega)]; exact h.z j (by omega)
  · have hv := h.vl
    have hset := vd_set O (i + b.length) c (by rw [h.len]; exact hL)
    rw [h.z _ (Nat.le_refl _)] at hset
    rw [List.take_of_length_le (Nat.le_refl _)] at hv
    rw [vd_take, Nat.add_mul, Nat.mul_assoc, ← h0]
    omega
section
variable [Globals]
theorem loop_mul7 (kf : Nat) (a b : List Nat) (nl nl2 : Bool) (cap cap2 : Option Nat) (hb : okD b) (V x p L : Nat) (hx : x < 4294967296) (hpL : p + b.length < L) (hL6 : L ≤ 1000000) (O0 : List Nat) (h0 : MuI b O0 V x p L 0 0) (k : Nat) (l : Ass) (z : Option Out) (hz : loopR Tryd.prog tab kf none LB102_7 102 67 [1, 5, 6, 7, 8, 17, 18, 19, 24, 25, 26] 1 k l ([rD O0]) = z) (hk : b.length < k) (a1 : asc l 1 = sD b nl2 cap2) (a5 : asc l 5 = .hsl 0 0 L L 1) (a6 : asc l 6 = ii p) (a7 : asc l 7 = .c (.int .u32 (x : Int))) (a8 : asc l 8 = .c (.int .u64 ((0) : Int))) (a17 : asc l 17 = sD a nl cap) (a18 : asc l 18 = ii a.length) (a19 : asc l 19 = ii p) (a24 : asc l 24 = sD b nl2 cap2) (a25 : asc l 25 = ii b.length) (a26 : asc l 26 = ii 0) :
    ∃ l' O cy, z = some (.exit 2 (fr 67 l') [rD O]) ∧ asc l' 1 = sD b nl2 cap2 ∧ asc l' 5 = .hsl 0 0 L L 1 ∧ asc l' 6 = ii p ∧ asc l' 8 = .c (.int .u64 ((cy : Nat) : Int)) ∧ asc l' 17 = sD a nl cap ∧ asc l' 18 = ii a.length ∧ asc l' 19 = ii p ∧ MuI b O V x p L cy b.length := by
  subst hz
  refine loop_nat b.length (fun k l H => loopR Tryd.prog tab kf none LB102_7 102 67 [1, 5, 6, 7, 8, 17, 18, 19, 24, 25, 26] 1 k l H)
    (fun i l H => ∃ (O : List Nat), ∃ (cy : Nat), asc l 1 = sD b nl2 cap2 ∧ asc l 5 = .hsl 0 0 L L 1 ∧ asc l 6 = ii p ∧ asc l 7 = .c (.int .u32 (x : Int)) ∧ asc l 8 = .c (.int .u64 (cy : Int)) ∧ asc l 17 = sD a nl cap ∧ asc l 18 = ii a.length ∧ asc l 19 = ii p ∧ asc l 24 = sD b nl2 cap2 ∧ asc l 25 = ii b.length ∧ asc l 26 = ii i ∧ (MuI b O V x p L cy i) ∧ H = ([rD O]))
    (fun z => ∃ l' O cy, z = some (.exit 2 (fr 67 l') [rD O]) ∧ asc l' 1 = sD b nl2 cap2 ∧ asc l' 5 = .hsl 0 0 L L 1 ∧ asc l' 6 = ii p ∧ asc l' 8 = .c (.int .u64 ((cy : Nat) : Int)) ∧ asc l' 17 = sD a nl cap ∧ asc l' 18 = ii a.length ∧ asc l' 19 = ii p ∧ MuI b O V x p L cy b.length) ?_ b.length 0 k l _ (by omega) hk ⟨O0, (0), a1, a5, a6, a7, a8, a17, a18, a19, a24, a25, a26, h0, rfl⟩
  clear hk a1 a5 a6 a7 a8 a17 a18 a19 a24 a25 a26
  rintro i k l H hi ⟨O, cy, a1, a5, a6, a7, a8, a17, a18, a19, a24, a25, a26, hp, rfl⟩
  have ht : trim 1 (fr 67 (keep l [1, 5, 6, 7, 8, 17, 18, 19, 24, 25, 26])) ([rD O]) = ([rD O]) := by
    exact trim_same rfl
  by_cases hc : i < b.length
  · have hc' : (i : Int) < ((b.length : Nat) : Int) := by omega
    have hc0 : (0 : Int) ≤ i := by omega
    have hw : IntKind.wrap .i64 ((i : Int) + 1) = ((i + 1 : Nat) : Int) := by rw [wrap64 (by omega) (by omega)]; omega
    have hy := encD_get (l := b) hc
    have helb := encD_length b
    have helO := encD_length O
    have hOl := hp.len
    have h1 := okD_get hb i
    have h2 := okD_get hp.ok (p + i)
    have h4 := mul_le32 hx h1
    obtain ⟨hsb, hst⟩ := hp.step hb hx hc hpL
    have hj := hp.cb
    have hpi0 : (0 : Int) ≤ ((p + i : Nat) : Int) := by omega
    have hpi1 : ((p + i : Nat) : Int) < (L : Int) := by omega
    have hpi2 : p + i < L := by omega
    have hwi : IntKind.wrap .i64 ((p : Int) + (i : Int)) = ((p + i : Nat) : Int) := by rw [wrap64 (by omega) (by omega)]; omega
    have hxo := encD_get (l := O) (i := p + i) (by omega)
    have hcv1 : IntKind.wrap .u64 ((b.getD i 0 : Nat) : Int) = ((b.getD i 0 : Nat) : Int) := wr64 (by omega)
    have hcv2 : IntKind.wrap .u64 (x : Int) = (x : Int) := wr64 (by omega)
    have hcv3 : IntKind.wrap .u64 ((O.getD (p + i) 0 : Nat) : Int) = ((O.getD (p + i) 0 : Nat) : Int) := wr64 (by omega)
    have hm1 : IntKind.wrap .u64 ((x : Int) * ((b.getD i 0 : Nat) : Int)) = ((x * b.getD i 0 : Nat) : Int) := by rw [← Int.natCast_mul, wr64 (by omega)]
    have hm2 : IntKind.wrap .u64 (((x * b.getD i 0 : Nat) : Int) + ((O.getD (p + i) 0 : Nat) : Int)) = ((x * b.getD i 0 + O.getD (p + i) 0 : Nat) : Int) := by rw [← Int.natCast_add, wr64 (by omega)]
    have hm3 : IntKind.wrap .u64 ((cy : Int) + ((x * b.getD i 0 + O.getD (p + i) 0 : Nat) : Int)) = ((cy + (x * b.getD i 0 + O.getD (p + i) 0) : Nat) : Int) := by rw [← Int.natCast_add, wr64 hsb]
    have hset := fun v : Nat => encD_set (l := O) (i := p + i) (d := v)
    simp only [loopR_succ, ht]
    simp only [a1, a5, a6, a7, a8, a17, a18, a19, a24, a25, a26, hc', hc0, hw, hy, helb, helO, hOl, hpi0, hpi1, hpi2, hwi, hxo, hcv1, hcv2, hcv3, hm1, hm2, hm3, wrap32m, shr64, hset, loopR_succ, loopOf, findLoop, firstRegion, Option.some_or, Option.none_or, Option.getD_some, Option.some.injEq, Tryd.f102, FT, Int.reduceEq, Int.reduceToNat, Int.reduceLE, Int.reduceLT, Int.reduceAdd, Int.reduceMul, Int.reduceSub, Int.reduceNeg, Nat.reduceAdd, Nat.reduceSub, Nat.reduceMul, Nat.reduceLT, Nat.reduceBEq, Nat.reduceEqDiff, Nat.reduceLeDiff]
    exact .inr ⟨_, _, hc, rfl, _, _, (by rfl), (by rfl), (by rfl), (by rfl), (by rfl), (by rfl), (by rfl), (by rfl), (by rfl), (by rfl), (by rfl), hst, rfl⟩
  · refine .inl ?_
    obtain rfl : i = b.length := by omega
    have hc' : ¬ (((b.length : Nat) : Int) < ((b.length : Nat) : Int)) := by omega
    simp only [loopR_succ, ht]
    simp only [a1, a5, a6, a7, a8, a17, a18, a19, a24, a25, a26, hc', loopR_succ, loopOf, findLoop, firstRegion, Option.some_or, Option.none_or, Option.getD_some, Option.some.injEq, Tryd.f102, FT, Int.reduceEq, Int.reduceToNat, Int.reduceLE, Int.reduceLT, Int.reduceAdd, Int.reduceMul, Int.reduceSub, Int.reduceNeg, Nat.reduceAdd, Nat.reduceSub, Nat.reduceMul, Nat.reduceLT, Nat.reduceBEq, Nat.reduceEqDiff, Nat.reduceLeDiff]
    exact ⟨_, O, cy, rfl, (by rfl), (by rfl), (by rfl), (by rfl), (by rfl), (by rfl), (by rfl), hp⟩
theorem loop_mul3 (kf : Nat) (a b : List Nat) (nl nl2 : Bool) (cap cap2 : Option Nat) (ha : okD a) (hb : okD b) (L : Nat) (hL : L = a.length + b.length) (hL6 : L ≤ 1000000) (hkf : b.length < kf) (O0 : List Nat) (h0 : MuO a b O0 L 0) (k : Nat) (l : Ass) (z : Option Out) (hz : loopR Tryd.prog tab kf none LB102_3 102 67 [1, 5, 17, 18, 19] 1 k l ([rD O0]) = z) (hk : a.length < k) (a1 : asc l 1 = sD b nl2 cap2) (a5 : asc l 5 = .hsl 0 0 L L 1) (a17 : asc l 17 = sD a nl cap) (a18 : asc l 18 = ii a.length) (a19 : asc l 19 = ii 0) :
    ∃ l' O, z = some (.exit 0 (fr 67 l') [rD O]) ∧ asc l' 5 = .hsl 0 0 L L 1 ∧ MuO a b O L a.length := by
  subst hz
  refine loop_nat a.length (fun k l H => loopR Tryd.prog tab kf none LB102_3 102 67 [1, 5, 17, 18, 19] 1 k l H)
    (fun i l H => ∃ (O : List Nat), asc l 1 = sD b nl2 cap2 ∧ asc l 5 = .hsl 0 0 L L 1 ∧ asc l 17 = sD a nl cap ∧ asc l 18 = ii a.length ∧ asc l 19 = ii i ∧ (MuO a b O L i) ∧ H = ([rD O]))
    (fun z => ∃ l' O, z = some (.exit 0 (fr 67 l') [rD O]) ∧ asc l' 5 = .hsl 0 0 L L 1 ∧ MuO a b O L a.length) ?_ a.length 0 k l _ (by omega) hk ⟨O0, a1, a5, a17, a18, a19, h0, rfl⟩
  clear hk a1 a5 a17 a18 a19
  rintro i k l H hi ⟨O, a1, a5, a17, a18, a19, hp, rfl⟩
  have ht : trim 1 (fr 67 (keep l [1, 5, 17, 18, 19])) ([rD O]) = ([rD O]) := by
    exact trim_same rfl
  by_cases hc : i < a.length
  · have hc' : (i : Int) < ((a.length : Nat) : Int) := by omega
    have hc0 : (0 : Int) ≤ i := by omega
    have hw : IntKind.wrap .i64 ((i : Int) + 1) = ((i + 1 : Nat) : Int) := by rw [wrap64 (by omega) (by omega)]; omega
    have hx := encD_get (l := a) hc
    have hela := encD_length a
    have h1 := okD_get ha i
    simp only [loopR_succ, ht]
    simp only [a1, a5, a17, a18, a19, hc', hc0, hw, hx, hela, loopR_succ, loopOf, findLoop, firstRegion, Option.some_or, Option.none_or, Option.getD_some, Option.some.injEq, Tryd.f102, FT, Int.reduceEq, Int.reduceToNat, Int.reduceLE, Int.reduceLT, Int.reduceAdd, Int.reduceMul, Int.reduceSub, Int.reduceNeg, Nat.reduceAdd, Nat.reduceSub, Nat.reduceMul, Nat.reduceLT, Nat.reduceBEq, Nat.reduceEqDiff, Nat.reduceLeDiff]
    rw [evalCode_loopB LB102_7 lp102_7]; rotate_left; rfl; rfl; rfl
    generalize hz : loopR _ _ _ _ _ _ _ _ _ _ _ _ = z
    obtain ⟨l2, P, cy, rfl, f1, f5, f6, f8, f17, f18, f19, hI⟩ := loop_mul7 kf a b nl nl2 cap cap2 hb (vd O) (a.getD i 0) i L h1 (by omega) hL6 O ⟨hp.len, hp.ok, by omega, hp.z, by simp [vd]⟩ _ _ z hz (by omega) (by rfl) (by rfl) (by rfl) (by rfl) (by rfl) (by rfl) (by rfl) (by rfl) (by rfl) (by rfl) (by rfl)
    clear hz
    have hst := MuO.next hp.vl hI (by omega)
    have helP := encD_length P
    have hPl := hI.len
    have hcy := hI.cb
    have hcv : cy % 4294967296 = cy := Nat.mod_eq_of_lt hcy
    have hwi : IntKind.wrap .i64 ((i : Int) + (b.length : Int)) = ((i + b.length : Nat) : Int) := by rw [wrap64 (by omega) (by omega)]; omega
    have hpi0 : (0 : Int) ≤ ((i + b.length : Nat) : Int) := by omega
    have hpi1 : ((i + b.length : Nat) : Int) < (L : Int) := by omega
    have hpi2 : i + b.length < L := by omega
    have hset := encD_set (l := P) (i := i + b.length) (d := cy)
    simp only [f1, f5, f6, f8, f17, f18, f19, helP, hPl, hcv, hwi, hpi0, hpi1, hpi2, hset, hw, wrap32m, FT, Int.reduceEq, Int.reduceToNat, Int.reduceLE, Int.reduceLT, Int.reduceAdd, Int.reduceMul, Int.reduceSub, Int.reduceNeg, Nat.reduceAdd, Nat.reduceSub, Nat.reduceMul, Nat.reduceLT, Nat.reduceBEq, Nat.reduceEqDiff, Nat.reduceLeDiff]
    exact .inr ⟨_, _, hc, rfl, _, (by exact f1), (by exact f5), (by exact f17), (by exact f18), (by rfl), hst, rfl⟩
  · refine .inl ?_
    obtain rfl : i = a.length := by omega
    have hc' : ¬ (((a.length : Nat) : Int) < ((a.length : Nat) : Int)) := by omega
    simp only [loopR_succ, ht]
    simp only [a1, a5, a17, a18, a19, hc', loopR_succ, loopOf, findLoop, firstRegion, Option.some_or, Option.none_or, Option.getD_some, Option.some.injEq, Tryd.f102, FT, Int.reduceEq, Int.reduceToNat, Int.reduceLE, Int.reduceLT, Int.reduceAdd, Int.reduceMul, Int.reduceSub, Int.reduceNeg, Nat.reduceAdd, Nat.reduceSub, Nat.reduceMul, Nat.reduceLT, Nat.reduceBEq, Nat.reduceEqDiff, Nat.reduceLeDiff]
    exact ⟨_, O, rfl, (by rfl), hp⟩
theorem mul_ev (k : Nat) (a b : List Nat) (nl nl2 : Bool) (cap cap2 : Option Nat) (ha : okD a) (hb : okD b) (hla : a.length ≤ 100000) (hlb : b.length ≤ 100000) (hk : a.length + b.length + 10 < k) : run (k+2) 102 [sD a nl cap, sD b nl2 cap2] = some (sD (dig (vd a * vd b)) false (some (dig (vd a * vd b)).length)) := by
  obtain ⟨L, hL⟩ : ∃ L, L = a.length + b.length := ⟨_, rfl⟩
  have hw1 : IntKind.wrap .i64 ((a.length : Int) + (b.length : Int)) = (L : Int) := by rw [wrap64 (by omega) (by omega), hL]; omega
  have q1 : (0 : Int) ≤ (L : Int) := by omega
  have q2 : L * 4 ≤ roomBytes := Nat.le_trans (show L * 4 ≤ 4000000 by omega) (by decide)
  have q3 : L ≤ roomBytes := Nat.le_trans (show L ≤ 1000000 by omega) (by decide)
  rw [run, ev102, ans_trim]
  simp only [Tryd.f102, hw1, q1, q2, q3, encD_rep0, FT, Int.reduceEq, Int.reduceToNat, Int.reduceLE, Int.reduceLT, Int.reduceAdd, Int.reduceMul, Int.reduceSub, Int.reduceNeg, Nat.reduceAdd, Nat.reduceSub, Nat.reduceMul, Nat.reduceLT, Nat.reduceBEq, Nat.reduceEqDiff, Nat.reduceLeDiff]
  rw [evalCode_loopB LB102_3 lp102_3]; rotate_left; rfl; rfl; rfl
  generalize hz : loopR _ _ _ _ _ _ _ _ _ _ _ _ = z
  have hrep : ∀ j, (List.replicate L 0).getD j 0 = 0 := fun j => by
    rw [List.getD_eq_getElem?_getD, List.getElem?_replicate]; split <;> rfl
  obtain ⟨l', P, rfl, e5, hI⟩ := loop_mul3 (k + 1) a b nl nl2 cap cap2 ha hb L hL (by omega) (by omega) (List.replicate L 0) ⟨by simp, fun d hd => by rw [List.eq_of_mem_replicate hd]; omega, fun j _ => hrep j, by rw [vd_rep]; simp [vd]⟩ _ _ z hz (by omega) (by rfl) (by rfl) (by rfl) (by rfl) (by rfl)
  clear hz
  have hPl := hI.len
  have hok := hI.ok
  have hPv : vd P = vd a * vd b := by rw [hI.vl, List.take_of_length_le (Nat.le_refl _)]
  have hdo := dig_of hok
  rw [hPv] at hdo
  rw [← hPl] at e5
  obtain ⟨H2, hds, _, hold⟩ := trim_call (k := k) (f := 102) (r := 15) (i := 1) (id := 0) (a := P) (H := [rD P]) (by rfl) (by omega) (by omega)
  have htr := trim_ev k P false none (by omega) (by omega)
  have hel := encD_length P
  have htk : (encD P).take P.length = encD P := List.take_of_length_le (by rw [hel]; exact Nat.le_refl _)
  simp only [run] at htr
  rw [hdo] at hds htr
  simp only [hPl] at hds hel htk e5
  simp only [sD, hPl] at htr
  simp only [e5, hel, htk, htr, hds, strict_slice, strict_c, strict1_c, strict0_c, Nat.le_refl, FT, Int.reduceEq, Int.reduceToNat, Int.reduceLE, Int.reduceLT, Int.reduceAdd, Int.reduceMul, Int.reduceSub, Int.reduceNeg, Nat.reduceAdd, Nat.reduceSub, Nat.reduceMul, Nat.reduceLT, Nat.reduceBEq, Nat.reduceEqDiff, Nat.reduceLeDiff]
end
end Go.Proofs.Sw.W
namespace Go.Proofs.Sw.W
open Go.Ab
abbrev nD (x : Int) : List Nat := dig x.natAbs
theorem eqBool (a b : Bool) : (a == b) = decide (a = b) := by cases a <;> cases b <;> rfl
section
variable [Globals]
abbrev aW (x : RI) : AV := .agg [bb (decide (x.v < 0)), sD (dig x.v.natAbs) x.nl x.cap]
theorem hand2 {k f r i id : Nat} {g : FuncId} {x v : AV} {a : List Nat} {H : Heap} (h : H[id]? = some (rD a)) (hx : frzV H x = some (x, H)) (hfr : inB tab.frames g = false) (hkp : keepB tab.keeps f r i = false) (hv : run k g [x, sD a false none] = some v) :
    ∃ H2, doCallS (cxG Tryd.prog (mkHints tab) k f none) r i g [x, .hsl id 0 a.length a.length 1] H = some (v, H2) ∧ H2.length = H.length ∧ ∀ j, j ≠ id → H2[j]? = H[j]? := by
  have hz : frzTup H [x, .hsl id 0 a.length a.length 1] = some ([x, sD a false none], H.set id (.row true 117 (encD a))) := by
    have hr : rowOf H id a.length = some (117, encD a) := rowOf_eq h (encD_length a)
    rw [frzTup, hx, Option.bind_some, frzTup, frzV_hsl, frz_hsl, hr]
    simp only [Option.bind_some, Nat.zero_add, Nat.mul_one, Nat.le_refl, if_true, List.drop_zero, Option.map_some, frzTup]
    rw [List.take_of_length_le (by rw [encD_length]; exact Nat.le_refl _)]
  rcases doCallS_or (P := Tryd.prog) (tab := tab) (kf := k) (f := f) (r := r) (i := i) (ar := none) (g := g) hfr hkp (by simp [AV.pure, AV.pure0]) hz hv with e | e
  · exact ⟨_, e, rfl, fun _ _ => rfl⟩
  · exact ⟨_, e, by simp, fun j hj => by rw [List.getElem?_set_ne (fun h => hj h.symm)]⟩
theorem hand1 {k f r i id : Nat} {g : FuncId} {v : AV} {a : List Nat} {H : Heap} (h : H[id]? = some (rD a)) (hfr : inB tab.frames g = false) (hkp : keepB tab.keeps f r i = false) (hv : run k g [sD a false none] = some v) :
    ∃ H2, doCallS (cxG Tryd.prog (mkHints tab) k f none) r i g [.hsl id 0 a.length a.length 1] H = some (v, H2) ∧ H2.length = H.length ∧ ∀ j, j ≠ id → H2[j]? = H[j]? := by
  have hz : frzTup H [.hsl id 0 a.length a.length 1] = some ([sD a false none], H.set id (.row true 117 (encD a))) := by
    have hr : rowOf H id a.length = some (117, encD a) := rowOf_eq h (encD_length a)
    rw [frzTup, frzV_hsl, frz_hsl, hr]
    simp only [Option.bind_some, Nat.zero_add, Nat.mul_one, Nat.le_refl, if_true, List.drop_zero, Option.map_some, frzTup]
    rw [List.take_of_length_le (by rw [encD_length]; exact Nat.le_refl _)]
  rcases doCallS_or (P := Tryd.prog) (tab := tab) (kf := k) (f := f) (r := r) (i := i) (ar := none) (g := g) hfr hkp (by simp [AV.pure, AV.pure0]) hz hv with e | e
  · exact ⟨_, e, rfl, fun _ _ => rfl⟩
  · exact ⟨_, e, by simp, fun j hj => by rw [List.getElem?_set_ne (fun h => hj h.symm)]⟩
theorem hand12 {k f r i id : Nat} {g : FuncId} {v : AV} {x : IV} {a : List Nat} {H : Heap} (h : H[id]? = some (rD a)) (hfr : inB tab.frames g = false) (hkp : keepB tab.keeps f r i = false) (hv : run k g [sD a false none, .c x] = some v) :
    ∃ H2, doCallS (cxG Tryd.prog (mkHints tab) k f none) r i g [.hsl id 0 a.length a.length 1, .c x] H = some (v, H2) ∧ H2.length = H.length ∧ ∀ j, j ≠ id → H2[j]? = H[j]? := by
  have hz : frzTup H [.hsl id 0 a.length a.length 1, .c x] = some ([sD a false none, .c x], H.set id (.row true 117 (encD a))) := by
    have hr : rowOf H id a.length = some (117, encD a) := rowOf_eq h (encD_length a)
    rw [frzTup, frzV_hsl, frz_hsl, hr]
    simp only [Option.bind_some, Nat.zero_add, Nat.mul_one, Nat.le_refl, if_true, List.drop_zero, Option.map_some, frzTup, frzV_c]
    rw [List.take_of_length_le (by rw [encD_length]; exact Nat.le_refl _)]
  rcases doCallS_or (P := Tryd.prog) (tab := tab) (kf := k) (f := f) (r := r) (i := i) (ar := none) (g := g) hfr hkp (by simp [AV.pure, AV.pure0]) hz hv with e | e
  · exact ⟨_, e, rfl, fun _ _ => rfl⟩
  · exact ⟨_, e, by simp, fun j hj => by rw [List.getElem?_set_ne (fun h => hj h.symm)]⟩
theorem sgn_neg (neg : Bool) (n : Nat) : decide (sgn neg n < 0) = (neg && decide (0 < (dig n).length)) := by
  by_cases h : n = 0
  · subst h
    rw [dig_zero]
    cases neg <;> simp [sgn]
  · have h1 : 0 < (dig n).length := List.length_pos_iff.2 (dig_pos (by omega))
    cases neg
    · simp [sgn]
    · simp [sgn, h1]; omega
theorem made_ev (k : Nat) (neg : Bool) (n : Nat) (nl : Bool) (cap : Option Nat) : run (k+1) 99 [bb neg, sD (dig n) nl cap] = some (aW ⟨sgn neg n, nl, cap⟩) := by
  have h1 : (sgn neg n).natAbs = n := sgn_abs neg n
  have h2 := sgn_neg neg n
  rw [run, ev99, ans_trim]
  cases neg
  · simp only [Tryd.f99, bb, FT, Int.reduceEq, Int.reduceToNat, Int.reduceLE, Int.reduceLT, Int.reduceAdd, Int.reduceMul, Int.reduceSub, Int.reduceNeg, Nat.reduceAdd, Nat.reduceSub, Nat.reduceMul, Nat.reduceLT, Nat.reduceBEq, Nat.reduceEqDiff, Nat.reduceLeDiff]
    simp only [aW, h1, h2, bb, Bool.false_and]
  · by_cases h0 : 0 < (dig n).length
    · have h0' : (0 : Int) < ((dig n).length : Nat) := by omega
      simp only [Tryd.f99, bb, h0', FT, Int.reduceEq, Int.reduceToNat, Int.reduceLE, Int.reduceLT, Int.reduceAdd, Int.reduceMul, Int.reduceSub, Int.reduceNeg, Nat.reduceAdd, Nat.reduceSub, Nat.reduceMul, Nat.reduceLT, Nat.reduceBEq, Nat.reduceEqDiff, Nat.reduceLeDiff]
      simp only [aW, h1, h2, h0, bb, decide_true, Bool.and_self]
    · have h0' : ¬ (0 : Int) < ((dig n).length : Nat) := by omega
      simp only [Tryd.f99, bb, h0', FT, Int.reduceEq, Int.reduceToNat, Int.reduceLE, Int.reduceLT, Int.reduceAdd, Int.reduceMul, Int.reduceSub, Int.reduceNeg, Nat.reduceAdd, Nat.reduceSub, Nat.reduceMul, Nat.reduceLT, Nat.reduceBEq, Nat.reduceEqDiff, Nat.reduceLeDiff]
      simp only [aW, h1, h2, h0, bb, decide_false, Bool.and_false]
theorem Neg_ev (k : Nat) (x : RI) : ∃ z : RI, z.v = -x.v ∧ run (k+2) 77 [aW x] = some (aW z) := by
  have hm := made_ev k (!decide (x.v < 0)) x.v.natAbs x.nl x.cap
  have hv : sgn (!decide (x.v < 0)) x.v.natAbs = -x.v := by unfold sgn; split <;> simp_all <;> omega
  rw [hv] at hm
  refine ⟨⟨-x.v, x.nl, x.cap⟩, rfl, ?_⟩
  simp only [run, bb, aW] at hm
  rw [run, ev77, ans_trim]
  simp only [Tryd.f77, aW, bb, hm, FT, Int.reduceEq, Int.reduceToNat, Int.reduceLE, Int.reduceLT, Int.reduceAdd, Int.reduceMul, Int.reduceSub, Int.reduceNeg, Nat.reduceAdd, Nat.reduceSub, Nat.reduceMul, Nat.reduceLT, Nat.reduceBEq, Nat.reduceEqDiff, Nat.reduceLeDiff]
theorem Abs_ev (k : Nat) (x : RI) : ∃ z : RI, z.v = x.v.natAbs ∧ run (k+2) 104 [aW x] = some (aW z) := by
  have hm := made_ev k false x.v.natAbs x.nl x.cap
  refine ⟨⟨sgn false x.v.natAbs, x.nl, x.cap⟩, by simp [sgn], ?_⟩
  simp only [run, bb, aW] at hm
  rw [run, ev104, ans_trim]
  simp only [Tryd.f104, aW, bb, hm, FT, Int.reduceEq, Int.reduceToNat, Int.reduceLE, Int.reduceLT, Int.reduceAdd, Int.reduceMul, Int.reduceSub, Int.reduceNeg, Nat.reduceAdd, Nat.reduceSub, Nat.reduceMul, Nat.reduceLT, Nat.reduceBEq, Nat.reduceEqDiff, Nat.reduceLeDiff]
theorem Sign_ev (k : Nat) (x : RI) : run (k+1) 83 [aW x] = some (ii (if x.v < 0 then -1 else if 0 < x.v then 1 else 0)) := by
  rw [run, ev83, ans_trim]
  by_cases h0 : x.v = 0
  · have hl : (dig x.v.natAbs).length = 0 := by rw [h0]; rfl
    simp only [Tryd.f83, aW, bb, ii, hl, FT, Int.reduceEq, Int.reduceToNat, Int.reduceLE, Int.reduceLT, Int.reduceAdd, Int.reduceMul, Int.reduceSub, Int.reduceNeg, Nat.reduceAdd, Nat.reduceSub, Nat.reduceMul, Nat.reduceLT, Nat.reduceBEq, Nat.reduceEqDiff, Nat.reduceLeDiff]
    simp [h0]
  · have hl : 0 < (dig x.v.natAbs).length := List.length_pos_iff.2 (dig_pos (by omega))
    have hl' : ¬ ((dig x.v.natAbs).length : Int) = 0 := by omega
    by_cases hn : x.v < 0
    · simp only [Tryd.f83, aW, bb, ii, hl', hn, FT, Int.reduceEq, Int.reduceToNat, Int.reduceLE, Int.reduceLT, Int.reduceAdd, Int.reduceMul, Int.reduceSub, Int.reduceNeg, Nat.reduceAdd, Nat.reduceSub, Nat.reduceMul, Nat.reduceLT, Nat.reduceBEq, Nat.reduceEqDiff, Nat.reduceLeDiff]
    · have hp : 0 < x.v := by omega
      simp only [Tryd.f83, aW, bb, ii, hl', hn, hp, FT, Int.reduceEq, Int.reduceToNat, Int.reduceLE, Int.reduceLT, Int.reduceAdd, Int.reduceMul, Int.reduceSub, Int.reduceNeg, Nat.reduceAdd, Nat.reduceSub, Nat.reduceMul, Nat.reduceLT, Nat.reduceBEq, Nat.reduceEqDiff, Nat.reduceLeDiff]
theorem Cmp_ev (k : Nat) (x y : RI) (hx : (nD x.v).length ≤ 100000) (hy : (nD y.v).length ≤ 100000) (hk : (nD x.v).length < k ∧ (nD y.v).length < k) : ∃ c : Int, run (k+3) 58 [aW x, aW y] = some (ii c) ∧ (c = 0 ↔ x.v = y.v) := by
  have h1 := cmp_can k (nD x.v) (nD y.v) x.nl y.nl x.cap y.cap (can_dig _).ok (can_dig _).ok hx hy hk
  have h2 := cmp_can k (nD y.v) (nD x.v) y.nl x.nl y.cap x.cap (can_dig _).ok (can_dig _).ok hy hx ⟨hk.2, hk.1⟩
  rw [vd_dig, vd_dig] at h1 h2
  have cm : ∀ m n : Nat, cmpN m n = 0 ↔ m = n := fun m n => by unfold cmpN; split <;> (try split) <;> omega
  simp only [run, ii] at h1 h2
  by_cases nx : x.v < 0 <;> by_cases ny : y.v < 0
  · refine ⟨cmpN y.v.natAbs x.v.natAbs, ?_, by rw [cm]; omega⟩
    rw [run, ev58, ans_trim]
    simp only [Tryd.f58, aW, bb, ii, nx, ny, h2, FT, Int.reduceEq, Int.reduceToNat, Int.reduceLE, Int.reduceLT, Int.reduceAdd, Int.reduceMul, Int.reduceSub, Int.reduceNeg, Nat.reduceAdd, Nat.reduceSub, Nat.reduceMul, Nat.reduceLT, Nat.reduceBEq, Nat.reduceEqDiff, Nat.reduceLeDiff]
  · refine ⟨-1, ?_, by omega⟩
    rw [run, ev58, ans_trim]
    simp only [Tryd.f58, aW, bb, ii, nx, ny, FT, Int.reduceEq, Int.reduceToNat, Int.reduceLE, Int.reduceLT, Int.reduceAdd, Int.reduceMul, Int.reduceSub, Int.reduceNeg, Nat.reduceAdd, Nat.reduceSub, Nat.reduceMul, Nat.reduceLT, Nat.reduceBEq, Nat.reduceEqDiff, Nat.reduceLeDiff]
  · refine ⟨1, ?_, by omega⟩
    rw [run, ev58, ans_trim]
    simp only [Tryd.f58, aW, bb, ii, nx, ny, FT, Int.reduceEq, Int.reduceToNat, Int.reduceLE, Int.reduceLT, Int.reduceAdd, Int.reduceMul, Int.reduceSub, Int.reduceNeg, Nat.reduceAdd, Nat.reduceSub, Nat.reduceMul, Nat.reduceLT, Nat.reduceBEq, Nat.reduceEqDiff, Nat.reduceLeDiff]
  · refine ⟨cmpN x.v.natAbs y.v.natAbs, ?_, by rw [cm]; omega⟩
    rw [run, ev58, ans_trim]
    simp only [Tryd.f58, aW, bb, ii, nx, ny, h1, FT, Int.reduceEq, Int.reduceToNat, Int.reduceLE, Int.reduceLT, Int.reduceAdd, Int.reduceMul, Int.reduceSub, Int.reduceNeg, Nat.reduceAdd, Nat.reduceSub, Nat.reduceMul, Nat.reduceLT, Nat.reduceBEq, Nat.reduceEqDiff, Nat.reduceLeDiff]
theorem Add_ev (k : Nat) (x y : RI) (hx : (nD x.v).length ≤ 50000) (hy : (nD y.v).length ≤ 50000) (hk : (nD x.v).length + (nD y.v).length + 20 ≤ k) : ∃ z : RI, z.v = x.v + y.v ∧ run (k+4) 78 [aW x, aW y] = some (aW z) := by
  have hcx := can_dig x.v.natAbs
  have hcy := can_dig y.v.natAbs
  by_cases hs : (decide (x.v < 0)) = decide (y.v < 0)
  · have ha := add_ev (k + 1) (nD x.v) (nD y.v) x.nl y.nl x.cap y.cap hcx.ok hcy.ok (by omega) (by omega) (by omega)
    rw [vd_dig, vd_dig] at ha
    have hm := made_ev (k + 2) (decide (x.v < 0)) (x.v.natAbs + y.v.natAbs) false (some (dig (x.v.natAbs + y.v.natAbs)).length)
    have hv : sgn (decide (x.v < 0)) (x.v.natAbs + y.v.natAbs) = x.v + y.v := by
      rw [decide_eq_decide] at hs
      unfold sgn; simp only [decide_eq_true_eq]; split <;> omega
    rw [hv] at hm
    refine ⟨⟨x.v + y.v, false, some (dig (x.v.natAbs + y.v.natAbs)).length⟩, rfl, ?_⟩
    simp only [run, bb, aW] at hm ha
    rw [run, ev78, ans_trim]
    simp only [Tryd.f78, aW, bb, eqBool, hs, FT, Int.reduceEq, Int.reduceToNat, Int.reduceLE, Int.reduceLT, Int.reduceAdd, Int.reduceMul, Int.reduceSub, Int.reduceNeg, Nat.reduceAdd, Nat.reduceSub, Nat.reduceMul, Nat.reduceLT, Nat.reduceBEq, Nat.reduceEqDiff, Nat.reduceLeDiff]
    rw [evalCode_drawn Tryd.f78 2 dr78_2]; rotate_left; rfl
    rw [hs] at hm
    simp only [ha, hm, EVd, List.getElem?_nil, Nat.reducePow, Nat.reduceDiv, Nat.reduceMod, FT, Int.reduceEq, Int.reduceToNat, Int.reduceLE, Int.reduceLT, Int.reduceAdd, Int.reduceMul, Int.reduceSub, Int.reduceNeg, Nat.reduceAdd, Nat.reduceSub, Nat.reduceMul, Nat.reduceLT, Nat.reduceBEq, Nat.reduceEqDiff, Nat.reduceLeDiff]
  · have hcm := cmp_can (k + 1) (nD x.v) (nD y.v) x.nl y.nl x.cap y.cap hcx.ok hcy.ok (by omega) (by omega) (by omega)
    rw [vd_dig, vd_dig] at hcm
    simp only [run, ii] at hcm
    by_cases hlt : x.v.natAbs < y.v.natAbs
    · have hc0 : cmpN x.v.natAbs y.v.natAbs < 0 := by unfold cmpN; rw [if_pos hlt]; decide
      have hsb := sub_ev k (nD y.v) (nD x.v) y.nl x.nl y.cap x.cap hcy hcx (by rw [vd_dig, vd_dig]; omega) (by omega) (by omega) (by omega)
      rw [vd_dig, vd_dig] at hsb
      have hm := made_ev (k + 2) (decide (y.v < 0)) (y.v.natAbs - x.v.natAbs) false (some (dig (y.v.natAbs - x.v.natAbs)).length)
      have hv : sgn (decide (y.v < 0)) (y.v.natAbs - x.v.natAbs) = x.v + y.v := by
        rw [decide_eq_decide] at hs
        unfold sgn; simp only [decide_eq_true_eq]; split <;> omega
      rw [hv] at hm
      refine ⟨⟨x.v + y.v, false, some (dig (y.v.natAbs - x.v.natAbs)).length⟩, rfl, ?_⟩
      simp only [run, bb, ii, aW] at hm hsb
      rw [run, ev78, ans_trim]
      simp only [Tryd.f78, aW, bb, eqBool, hs, hcm, hc0, hsb, hm, FT, Int.reduceEq, Int.reduceToNat, Int.reduceLE, Int.reduceLT, Int.reduceAdd, Int.reduceMul, Int.reduceSub, Int.reduceNeg, Nat.reduceAdd, Nat.reduceSub, Nat.reduceMul, Nat.reduceLT, Nat.reduceBEq, Nat.reduceEqDiff, Nat.reduceLeDiff]
    · have hc0 : ¬ cmpN x.v.natAbs y.v.natAbs < 0 := by unfold cmpN; rw [if_neg hlt]; split <;> decide
      have hsb := sub_ev k (nD x.v) (nD y.v) x.nl y.nl x.cap y.cap hcx hcy (by rw [vd_dig, vd_dig]; omega) (by omega) (by omega) (by omega)
      rw [vd_dig, vd_dig] at hsb
      have hm := made_ev (k + 2) (decide (x.v < 0)) (x.v.natAbs - y.v.natAbs) false (some (dig (x.v.natAbs - y.v.natAbs)).length)
      have hv : sgn (decide (x.v < 0)) (x.v.natAbs - y.v.natAbs) = x.v + y.v := by
        rw [decide_eq_decide] at hs
        unfold sgn; simp only [decide_eq_true_eq]; split <;> omega
      rw [hv] at hm
      refine ⟨⟨x.v + y.v, false, some (dig (x.v.natAbs - y.v.natAbs)).length⟩, rfl, ?_⟩
      simp only [run, bb, ii, aW] at hm hsb
      rw [run, ev78, ans_trim]
      simp only [Tryd.f78, aW, bb, eqBool, hs, hcm, hc0, hsb, hm, FT, Int.reduceEq, Int.reduceToNat, Int.reduceLE, Int.reduceLT, Int.reduceAdd, Int.reduceMul, Int.reduceSub, Int.reduceNeg, Nat.reduceAdd, Nat.reduceSub, Nat.reduceMul, Nat.reduceLT, Nat.reduceBEq, Nat.reduceEqDiff, Nat.reduceLeDiff]
theorem Sub_ev (k : Nat) (x y : RI) (hx : (nD x.v).length ≤ 50000) (hy : (nD y.v).length ≤ 50000) (hk : (nD x.v).length + (nD y.v).length + 20 ≤ k) : ∃ z : RI, z.v = x.v - y.v ∧ run (k+5) 79 [aW x, aW y] = some (aW z) := by
  obtain ⟨w, hw, h1⟩ := Neg_ev (k + 2) y
  have hwl : (nD w.v).length = (nD y.v).length := by rw [hw]; simp [nD]
  obtain ⟨z, hz, h2⟩ := Add_ev k x w hx (by omega) (by omega)
  refine ⟨z, by rw [hz, hw]; omega, ?_⟩
  simp only [run, aW, bb] at h1 h2
  rw [run, ev79, ans_trim]
  simp only [Tryd.f79, aW, bb, FT, Int.reduceEq, Int.reduceToNat, Int.reduceLE, Int.reduceLT, Int.reduceAdd, Int.reduceMul, Int.reduceSub, Int.reduceNeg, Nat.reduceAdd, Nat.reduceSub, Nat.reduceMul, Nat.reduceLT, Nat.reduceBEq, Nat.reduceEqDiff, Nat.reduceLeDiff]
  rw [evalCode_drawn Tryd.f79 1 dr79_1]; rotate_left; rfl
  simp only [h1, h2, EVd, List.getElem?_nil, Nat.reducePow, Nat.reduceDiv, Nat.reduceMod, FT, Int.reduceEq, Int.reduceToNat, Int.reduceLE, Int.reduceLT, Int.reduceAdd, Int.reduceMul, Int.reduceSub, Int.reduceNeg, Nat.reduceAdd, Nat.reduceSub, Nat.reduceMul, Nat.reduceLT, Nat.reduceBEq, Nat.reduceEqDiff, Nat.reduceLeDiff]
theorem Mul_ev (k : Nat) (x y : RI) (hx : (nD x.v).length ≤ 50000) (hy : (nD y.v).length ≤ 50000) (hk : (nD x.v).length + (nD y.v).length + 20 ≤ k) : ∃ z : RI, z.v = x.v * y.v ∧ run (k+4) 80 [aW x, aW y] = some (aW z) := by
  have hmu := mul_ev (k + 1) (nD x.v) (nD y.v) x.nl y.nl x.cap y.cap (can_dig _).ok (can_dig _).ok (by omega) (by omega) (by omega)
  rw [vd_dig, vd_dig] at hmu
  have hm := made_ev (k + 2) (!(decide (x.v < 0) == decide (y.v < 0))) (x.v.natAbs * y.v.natAbs) false (some (dig (x.v.natAbs * y.v.natAbs)).length)
  have hv : sgn (!(decide (x.v < 0) == decide (y.v < 0))) (x.v.natAbs * y.v.natAbs) = x.v * y.v := by
    rw [← Int.natAbs_mul]
    unfold sgn
    by_cases h1 : x.v < 0 <;> by_cases h2 : y.v < 0
    · have := Int.mul_pos_of_neg_of_neg h1 h2
      simp only [h1, h2, decide_true]
      simp
      omega
    · have := Int.mul_nonpos_of_nonpos_of_nonneg (show x.v ≤ 0 by omega) (show 0 ≤ y.v by omega)
      simp only [h1, h2, decide_true, decide_false]
      simp
      omega
    · have := Int.mul_nonpos_of_nonneg_of_nonpos (show 0 ≤ x.v by omega) (show y.v ≤ 0 by omega)
      simp only [h1, h2, decide_true, decide_false]
      simp
      omega
    · have := Int.mul_nonneg (show 0 ≤ x.v by omega) (show 0 ≤ y.v by omega)
      simp only [h1, h2, decide_false]
      simp
      omega
  rw [hv] at hm
  refine ⟨⟨x.v * y.v, false, some (dig (x.v.natAbs * y.v.natAbs)).length⟩, rfl, ?_⟩
  simp only [run, bb, aW] at hm hmu
  rw [run, ev80, ans_trim]
  simp only [Tryd.f80, aW, bb, FT, Int.reduceEq, Int.reduceToNat, Int.reduceLE, Int.reduceLT, Int.reduceAdd, Int.reduceMul, Int.reduceSub, Int.reduceNeg, Nat.reduceAdd, Nat.reduceSub, Nat.reduceMul, Nat.reduceLT, Nat.reduceBEq, Nat.reduceEqDiff, Nat.reduceLeDiff]
  rw [evalCode_drawn Tryd.f80 1 dr80_1]; rotate_left; rfl
  simp only [hmu, hm, EVd, List.getElem?_nil, Nat.reducePow, Nat.reduceDiv, Nat.reduceMod, FT, Int.reduceEq, Int.reduceToNat, Int.reduceLE, Int.reduceLT, Int.reduceAdd, Int.reduceMul, Int.reduceSub, Int.reduceNeg, Nat.reduceAdd, Nat.reduceSub, Nat.reduceMul, Nat.reduceLT, Nat.reduceBEq, Nat.reduceEqDiff, Nat.reduceLeDiff]
end
end Go.Proofs.Sw.W
namespace Go.Proofs.Sw.W
open Go.Ab
section
variable [Globals]
theorem Make_ev (k : Nat) (neg : Bool) (a : List Nat) (nl : Bool) (cap : Option Nat) (ha : okD a) (hl : a.length ≤ 1000000) (hk : a.length < k) : ∃ nl3 cap3, run (k+3) 84 [bb neg, sD a nl cap] = some (aW ⟨sgn neg (vd a), nl3, cap3⟩) := by
  obtain ⟨nl3, cap3, h1⟩ := norm_ev k a nl cap hl hk
  rw [dig_of ha] at h1
  have hm := made_ev (k + 1) neg (vd a) nl3 cap3
  refine ⟨nl3, cap3, ?_⟩
  simp only [run, bb, aW] at h1 hm
  rw [run, ev84, ans_trim]
  simp only [Tryd.f84, aW, bb, h1, hm, FT, Int.reduceEq, Int.reduceToNat, Int.reduceLE, Int.reduceLT, Int.reduceAdd, Int.reduceMul, Int.reduceSub, Int.reduceNeg, Nat.reduceAdd, Nat.reduceSub, Nat.reduceMul, Nat.reduceLT, Nat.reduceBEq, Nat.reduceEqDiff, Nat.reduceLeDiff]
theorem Of_ev (k : Nat) (n : Int) (h0 : -9223372036854775808 ≤ n) (h1 : n ≤ 9223372036854775807) (hk : 20 < k) : ∃ x : RI, x.v = n ∧ run (k+4) 55 [ii n] = some (aW x) := by
  have hk : 2 < k := by omega
  obtain ⟨u, hu⟩ : ∃ u, u = n.natAbs := ⟨_, rfl⟩
  have hu64 : u < 18446744073709551616 := by omega
  have hok : okD [u % 4294967296, u / 4294967296 % 4294967296] := by
    intro d hd
    simp only [List.mem_cons, List.not_mem_nil, or_false] at hd
    rcases hd with rfl | rfl <;> omega
  have hvd : vd [u % 4294967296, u / 4294967296 % 4294967296] = u := by simp only [vd]; omega
  have e : ∀ m : Int, IntKind.wrap .u64 m = m % 18446744073709551616 := fun m => rfl
  by_cases hn : n < 0
  · have hw1 : IntKind.wrap .u64 n = ((18446744073709551616 - u : Nat) : Int) := by rw [e]; omega
    have hw2 : IntKind.wrap .u64 (0 - ((18446744073709551616 - u : Nat) : Int)) = (u : Int) := by rw [e]; omega
    obtain ⟨nl3, cap3, hmk⟩ := Make_ev k true [u % 4294967296, u / 4294967296 % 4294967296] false none hok (by simp) (by simpa using hk)
    rw [hvd] at hmk
    obtain ⟨H2, hds, hl2, hold⟩ := hand2 (k := k + 3) (f := 55) (r := 4) (i := 8) (id := 1) (g := 84) (x := bb true) (a := [u % 4294967296, u / 4294967296 % 4294967296]) (H := [.cells 104 [.c (.bool false), .c (.slice [] 0 true (some 0))], rD [u % 4294967296, u / 4294967296 % 4294967296]]) (by rfl) (by rfl) (by rfl) (by rfl) hmk
    have h20 := hold 0 (by omega)
    simp only [List.getElem?_cons_zero, List.getElem?_cons_succ] at h20
    have hset : ∀ X : AObj, (H2.set 0 X)[0]? = some X := fun X => List.getElem?_set_self (by rw [hl2]; simp)
    have hv : sgn true u = n := by unfold sgn; simp; omega
    rw [hv] at hmk hds
    refine ⟨⟨n, nl3, cap3⟩, rfl, ?_⟩
    have henc : encD [u % 4294967296, u / 4294967296 % 4294967296] = [.int .u32 ((u % 4294967296 : Nat) : Int), .int .u32 ((u / 4294967296 % 4294967296 : Nat) : Int)] := rfl
    simp only [run, bb, aW, sD, rD, henc, List.length_cons, List.length_nil, Nat.reduceAdd] at hmk hds h20
    rw [run, ev55, ans_trim]
    simp only [Tryd.f55, ii, bb, hn, hw1, hw2, wrap32m, shr64, hmk, hds, h20, hset, strict_slice, strict_c, strict_agg, strict0_c, strict_bool, Nat.le_refl, FT, Int.reduceEq, Int.reduceToNat, Int.reduceLE, Int.reduceLT, Int.reduceAdd, Int.reduceMul, Int.reduceSub, Int.reduceNeg, Nat.reduceAdd, Nat.reduceSub, Nat.reduceMul, Nat.reduceLT, Nat.reduceBEq, Nat.reduceEqDiff, Nat.reduceLeDiff]
    simp only [aW, hn, decide_true]
  · have hw1 : IntKind.wrap .u64 n = (u : Int) := by rw [e]; omega
    obtain ⟨nl3, cap3, hmk⟩ := Make_ev k false [u % 4294967296, u / 4294967296 % 4294967296] false none hok (by simp) (by simpa using hk)
    rw [hvd] at hmk
    obtain ⟨H2, hds, hl2, hold⟩ := hand2 (k := k + 3) (f := 55) (r := 4) (i := 8) (id := 1) (g := 84) (x := bb false) (a := [u % 4294967296, u / 4294967296 % 4294967296]) (H := [.cells 104 [.c (.bool false), .c (.slice [] 0 true (some 0))], rD [u % 4294967296, u / 4294967296 % 4294967296]]) (by rfl) (by rfl) (by rfl) (by rfl) hmk
    have h20 := hold 0 (by omega)
    simp only [List.getElem?_cons_zero, List.getElem?_cons_succ] at h20
    have hset : ∀ X : AObj, (H2.set 0 X)[0]? = some X := fun X => List.getElem?_set_self (by rw [hl2]; simp)
    have hv : sgn false u = n := by unfold sgn; simp; omega
    rw [hv] at hmk hds
    refine ⟨⟨n, nl3, cap3⟩, rfl, ?_⟩
    have henc : encD [u % 4294967296, u / 4294967296 % 4294967296] = [.int .u32 ((u % 4294967296 : Nat) : Int), .int .u32 ((u / 4294967296 % 4294967296 : Nat) : Int)] := rfl
    simp only [run, bb, aW, sD, rD, henc, List.length_cons, List.length_nil, Nat.reduceAdd] at hmk hds h20
    rw [run, ev55, ans_trim]
    simp only [Tryd.f55, ii, bb, hn, hw1, wrap32m, shr64, hmk, hds, h20, hset, strict_slice, strict_c, strict_agg, strict0_c, strict_bool, Nat.le_refl, FT, Int.reduceEq, Int.reduceToNat, Int.reduceLE, Int.reduceLT, Int.reduceAdd, Int.reduceMul, Int.reduceSub, Int.reduceNeg, Nat.reduceAdd, Nat.reduceSub, Nat.reduceMul, Nat.reduceLT, Nat.reduceBEq, Nat.reduceEqDiff, Nat.reduceLeDiff]
    simp only [aW, hn, decide_false]
end
end Go.Proofs.Sw.W
namespace Go.Proofs.Sw.W
open Go.Ab
structure DsI (a O : List Nat) (d r j : Nat) : Prop where
  len : O.length = a.length
  ok : okD O
  rd : r < d
  vl : vd (O.drop j) * d + r = vd (a.drop j)
theorem vd_drop (l : List Nat) {j : Nat} (h : j < l.length) : vd (l.drop j) = l.getD j 0 + 4294967296 * vd (l.drop (j + 1)) := by
  rw [List.drop_eq_getElem_cons h, vd, List.getD_eq_getElem?_getD, List.getElem?_eq_getElem h]; rfl
theorem drop_set (l : List Nat) (i v : Nat) : (l.set i v).drop (i + 1) = l.drop (i + 1) := by
  apply List.ext_getElem?
  intro j
  rw [List.getElem?_drop, List.getElem?_drop, List.getElem?_set, if_neg (by omega)]
theorem DsI.step {a O : List Nat} {d r j : Nat} (h : DsI a O d r (j + 1)) (ha : okD a) (hd : d < 4294967296) (hj : j < a.length) :
    r * 4294967296 + a.getD j 0 < 18446744073709551616 ∧ (r * 4294967296 + a.getD j 0) / d < 4294967296 ∧ DsI a (O.set j ((r * 4294967296 + a.getD j 0) / d)) d ((r * 4294967296 + a.getD j 0) % d) j := by
  have h1 := okD_get ha j
  have h2 := h.rd
  have hd0 : 0 < d := by omega
  obtain ⟨s, hs⟩ : ∃ s, s = r * 4294967296 + a.getD j 0 := ⟨_, rfl⟩
  have hsd : s < 4294967296 * d := by
    have : (r + 1) * 4294967296 ≤ d * 4294967296 := Nat.mul_le_mul_right _ h2
    omega
  have hq : s / d < 4294967296 := (Nat.div_lt_iff_lt_mul hd0).2 hsd
  rw [← hs]
  refine ⟨by omega, hq, by rw [List.length_set]; exact h.len, okD_set h.ok hq, Nat.mod_lt _ hd0, ?_⟩
  have hv := h.vl
  have e1 := Nat.div_add_mod s d
  rw [vd_drop _ (by rw [List.length_set, h.len]; exact hj), vd_drop a hj, drop_set, getD_set_self (by rw [h.len]; exact hj), Nat.add_mul, Nat.mul_assoc, Nat.mul_comm (s / d)]
  have e2 := congrArg (4294967296 * ·) hv
  simp only [Nat.mul_add] at e2
  omega
section
variable [Globals]
theorem loop_divs (kf : Nat) (a : List Nat) (d : Nat) (nl : Bool) (cap : Option Nat) (ha : okD a) (hd : d < 4294967296) (hd0 : 0 < d) (hla : a.length ≤ 100000) (O0 : List Nat) (h0 : DsI a O0 d 0 a.length) (k : Nat) (l : Ass) (z : Option Out) (hz : loopR Tryd.prog tab kf none LB114_6 114 46 [0, 1, 7, 8, 9] 1 k l ([rD O0]) = z) (hk : a.length < k) (a0 : asc l 0 = sD a nl cap) (a1 : asc l 1 = .c (.int .u32 (d : Int))) (a7 : asc l 7 = .hsl 0 0 a.length a.length 1) (a8 : asc l 8 = .c (.int .u64 ((0) : Int))) (a9 : asc l 9 = ii ((a.length : Int) - 1 - 0)) :
    ∃ l' O r, z = some (.exit 0 (fr 46 l') [rD O]) ∧ asc l' 7 = .hsl 0 0 a.length a.length 1 ∧ asc l' 8 = .c (.int .u64 ((r : Nat) : Int)) ∧ DsI a O d r 0 := by
  subst hz
  refine loop_nat a.length (fun k l H => loopR Tryd.prog tab kf none LB114_6 114 46 [0, 1, 7, 8, 9] 1 k l H)
    (fun i l H => ∃ (O : List Nat), ∃ (r : Nat), asc l 0 = sD a nl cap ∧ asc l 1 = .c (.int .u32 (d : Int)) ∧ asc l 7 = .hsl 0 0 a.length a.length 1 ∧ asc l 8 = .c (.int .u64 (r : Int)) ∧ asc l 9 = ii ((a.length : Int) - 1 - i) ∧ (DsI a O d r (a.length - i)) ∧ H = ([rD O]))
    (fun z => ∃ l' O r, z = some (.exit 0 (fr 46 l') [rD O]) ∧ asc l' 7 = .hsl 0 0 a.length a.length 1 ∧ asc l' 8 = .c (.int .u64 ((r : Nat) : Int)) ∧ DsI a O d r 0) ?_ a.length 0 k l _ (by omega) hk ⟨O0, (0), a0, a1, a7, a8, a9, h0, rfl⟩
  clear hk a0 a1 a7 a8 a9
  rintro i k l H hi ⟨O, r, a0, a1, a7, a8, a9, hp, rfl⟩
  have ht : trim 1 (fr 46 (keep l [0, 1, 7, 8, 9])) ([rD O]) = ([rD O]) := by
    exact trim_same rfl
  by_cases hc : i < a.length
  · have hc' : (i : Int) < ((a.length : Nat) : Int) := by omega
    have hc0 : (0 : Int) ≤ i := by omega
    have hw : IntKind.wrap .i64 ((i : Int) + 1) = ((i + 1 : Nat) : Int) := by rw [wrap64 (by omega) (by omega)]; omega
    obtain ⟨j, hj⟩ : ∃ j, a.length = j + 1 + i := ⟨a.length - 1 - i, by omega⟩
    have e1 : a.length - i = j + 1 := by omega
    have e2 : a.length - (i + 1) = j := by omega
    have e3 : (a.length : Int) - 1 - (i : Int) = (j : Int) := by omega
    have e4 : (a.length : Int) - 1 - ((i + 1 : Nat) : Int) = (j : Int) - 1 := by omega
    rw [e3] at a9
    rw [e1] at hp
    rw [e2, e4]
    have hj0 : (0 : Int) ≤ j := by omega
    have hj1 : (j : Int) < a.length := by omega
    have hj2 : j < a.length := by omega
    have hx := encD_get (l := a) (i := j) hj2
    have hw2 : IntKind.wrap .i64 ((j : Int) - 1) = (j : Int) - 1 := by rw [wrap64 (by omega) (by omega)]
    have hela := encD_length a
    have helO := encD_length O
    have hOl := hp.len
    have h1 := okD_get ha j
    have h2 := hp.rd
    obtain ⟨s1, s2, hst⟩ := hp.step ha hd hj2
    have hcv1 : IntKind.wrap .u64 ((a.getD j 0 : Nat) : Int) = ((a.getD j 0 : Nat) : Int) := wr64 (by omega)
    have hcv2 : IntKind.wrap .u64 (d : Int) = (d : Int) := wr64 (by omega)
    have hsh := fun (X : Heap) (t : TypeId) => shl64 (H := X) (t := t) (a := r) (by omega)
    have hor := fun (X : Heap) (t : TypeId) => or64 (H := X) (t := t) (a := r) (b := a.getD j 0) (by omega) h1
    obtain ⟨s, hs⟩ : ∃ s, s = r * 4294967296 + a.getD j 0 := ⟨_, rfl⟩
    rw [← hs] at s1 s2 hst
    have hdz : ¬ (d : Int) = 0 := by omega
    have hq : ((s : Int)).tdiv (d : Int) = ((s / d : Nat) : Int) := rfl
    have hm : ((s : Int)).tmod (d : Int) = ((s % d : Nat) : Int) := rfl
    have hqw : IntKind.wrap .u64 ((s / d : Nat) : Int) = ((s / d : Nat) : Int) := wr64 (by omega)
    have hqm : s / d % 4294967296 = s / d := Nat.mod_eq_of_lt s2
    have hset := fun v : Nat => encD_set (l := O) (i := j) (d := v)
    simp only [loopR_succ, ht]
    simp only [a0, a1, a7, a8, a9, hc', hc0, hw, hx, hj0, hj1, hj2, hw2, hela, helO, hOl, hcv1, hcv2, hsh, hor, ← hs, hdz, hq, hm, hqw, hqm, wrap32m, hset, loopR_succ, loopOf, findLoop, firstRegion, Option.some_or, Option.none_or, Option.getD_some, Option.some.injEq, Tryd.f114, FT, Int.reduceEq, Int.reduceToNat, Int.reduceLE, Int.reduceLT, Int.reduceAdd, Int.reduceMul, Int.reduceSub, Int.reduceNeg, Nat.reduceAdd, Nat.reduceSub, Nat.reduceMul, Nat.reduceLT, Nat.reduceBEq, Nat.reduceEqDiff, Nat.reduceLeDiff]
    exact .inr ⟨_, _, hc, rfl, _, _, (by rfl), (by rfl), (by rfl), (by rfl), (by rfl), hst, rfl⟩
  · refine .inl ?_
    obtain rfl : i = a.length := by omega
    have hc' : ¬ (((a.length : Nat) : Int) < ((a.length : Nat) : Int)) := by omega
    have hlt : ¬ ((0 : Int) ≤ (a.length : Int) - 1 - a.length) := by omega
    rw [Nat.sub_self] at hp
    simp only [loopR_succ, ht]
    simp only [a0, a1, a7, a8, a9, hlt, loopR_succ, loopOf, findLoop, firstRegion, Option.some_or, Option.none_or, Option.getD_some, Option.some.injEq, Tryd.f114, FT, Int.reduceEq, Int.reduceToNat, Int.reduceLE, Int.reduceLT, Int.reduceAdd, Int.reduceMul, Int.reduceSub, Int.reduceNeg, Nat.reduceAdd, Nat.reduceSub, Nat.reduceMul, Nat.reduceLT, Nat.reduceBEq, Nat.reduceEqDiff, Nat.reduceLeDiff]
    exact ⟨_, O, r, rfl, (by rfl), (by rfl), hp⟩
theorem divs_ev (k : Nat) (a : List Nat) (d : Nat) (nl : Bool) (cap : Option Nat) (ha : okD a) (hd0 : 0 < d) (hd : d < 4294967296) (hla : a.length ≤ 100000) (hk : a.length + 10 < k) :
    run (k+2) 114 [sD a nl cap, .c (.int .u32 (d : Int))] = some (.tup [sD (dig (vd a / d)) false (some (dig (vd a / d)).length), .c (.int .u32 ((vd a % d : Nat) : Int)), ii 0]) := by
  have hdz : ¬ (d : Int) = 0 := by omega
  have q1 : (0 : Int) ≤ (a.length : Int) := by omega
  have q2 : a.length * 4 ≤ roomBytes := Nat.le_trans (show a.length * 4 ≤ 4000000 by omega) (by decide)
  have q3 : a.length ≤ roomBytes := Nat.le_trans (show a.length ≤ 1000000 by omega) (by decide)
  have hw1 : IntKind.wrap .i64 ((a.length : Int) - 1) = (a.length : Int) - 1 := by rw [wrap64 (by omega) (by omega)]
  rw [run, ev114, ans_trim]
  simp only [Tryd.f114, hdz, q1, q2, q3, hw1, encD_rep0, ii, FT, Int.reduceEq, Int.reduceToNat, Int.reduceLE, Int.reduceLT, Int.reduceAdd, Int.reduceMul, Int.reduceSub, Int.reduceNeg, Nat.reduceAdd, Nat.reduceSub, Nat.reduceMul, Nat.reduceLT, Nat.reduceBEq, Nat.reduceEqDiff, Nat.reduceLeDiff]
  rw [evalCode_loopB LB114_6 lp114_6]; rotate_left; rfl; rfl; rfl
  generalize hz : loopR _ _ _ _ _ _ _ _ _ _ _ _ = z
  obtain ⟨l', P, r, rfl, e7, e8, hI⟩ := loop_divs (k + 1) a d nl cap ha hd hd0 hla (List.replicate a.length 0) ⟨by simp, fun d hd => by rw [List.eq_of_mem_replicate hd]; omega, hd0, by rw [List.drop_of_length_le (by simp), List.drop_of_length_le (Nat.le_refl _)]; simp [vd]⟩ _ _ z hz (by omega) (by rfl) (by rfl) (by rfl) (by rfl) (by rw [show (a.length : Int) - 1 - 0 = (a.length : Int) - 1 by omega]; rfl)
  clear hz
  have hv := hI.vl
  rw [List.drop_zero, List.drop_zero] at hv
  have hrd := hI.rd
  have hqv : vd P = vd a / d := by
    have := Nat.div_eq_of_lt_le (k := vd P) (m := vd a) (n := d) (by omega) (by rw [Nat.succ_mul]; omega)
    omega
  have hrv : r = vd a % d := by
    have h1 := Nat.div_add_mod (vd a) d
    rw [← hqv, Nat.mul_comm] at h1
    omega
  have hPl := hI.len
  have hok := hI.ok
  have hdo := dig_of hok
  rw [hqv] at hdo
  rw [← hPl] at e7
  have hrm : r % 4294967296 = r := Nat.mod_eq_of_lt (by omega)
  obtain ⟨H2, hds, _, hold⟩ := trim_call (k := k) (f := 114) (r := 11) (i := 1) (id := 0) (a := P) (H := [rD P]) (by rfl) (by omega) (by omega)
  have htr := trim_ev k P false none (by omega) (by omega)
  have hel := encD_length P
  have htk : (encD P).take P.length = encD P := List.take_of_length_le (by rw [hel]; exact Nat.le_refl _)
  simp only [run] at htr
  rw [hdo] at hds htr
  simp only [hPl] at hds hel htk e7
  simp only [sD, hPl] at htr
  simp only [e7, e8, hel, htk, htr, hds, wrap32m, hrm, ← hrv, strict_slice, strict_c, strict1_c, strict0_c, Nat.le_refl, FT, Int.reduceEq, Int.reduceToNat, Int.reduceLE, Int.reduceLT, Int.reduceAdd, Int.reduceMul, Int.reduceSub, Int.reduceNeg, Nat.reduceAdd, Nat.reduceSub, Nat.reduceMul, Nat.reduceLT, Nat.reduceBEq, Nat.reduceEqDiff, Nat.reduceLeDiff]
end
end Go.Proofs.Sw.W
namespace Go.Proofs.Sw.W
open Go.Ab
def tb8 (y : Nat) : Nat := if y = 0 then 0 else Nat.log2 y + 1
theorem tb8_facts {y : Nat} (h : 0 < y) : 1 ≤ tb8 y ∧ 2 ^ (tb8 y - 1) ≤ y ∧ y < 2 ^ tb8 y := by
  unfold tb8
  rw [if_neg (by omega)]
  exact ⟨by omega, by rw [Nat.add_sub_cancel]; exact Nat.log2_self_le (by omega), Nat.lt_log2_self⟩
section
variable [Globals]
theorem idx_of {S : ByteArray} {y : Nat} (h : (S[y]?).map UInt8.toNat = some (tb8 y)) : indexA Tryd.prog 9 (.c (.str S)) (.c (.int .u8 (y : Int))) = some (.c (.int .u8 ((tb8 y : Nat) : Int))) := by
  have e : indexA Tryd.prog 9 (.c (.str S)) (.c (.int .u8 (y : Int))) = if (0 : Int) ≤ (y : Int) then (S[((y : Nat) : Int).toNat]?).map (fun b => AV.c (.int .u8 b.toNat)) else none := by kernel_rfl
  rw [e, if_pos (by omega), Int.toNat_natCast]
  cases hs : S[y]? with
  | none => rw [hs] at h; cases h
  | some b =>
    rw [hs] at h
    have h2 : b.toNat = tb8 y := by simpa using h
    rw [Option.map_some, h2]
theorem shr32a {H : Heap} {t : TypeId} {a : Nat} : binA Tryd.prog H .shr t (.c (.int .u32 (a : Int))) (.c (.int .u64 16)) = some (.c (.int .u32 ((a / 65536 : Nat) : Int))) := by
  have e : binA Tryd.prog H .shr t (.c (.int .u32 (a : Int))) (.c (.int .u64 16)) = some (.c (.int .u32 ((a : Int).fdiv 65536))) := rfl
  rw [e, Int.fdiv_eq_ediv_of_nonneg _ (by omega)]
  rfl
theorem shr32b {H : Heap} {t : TypeId} {a : Nat} : binA Tryd.prog H .shr t (.c (.int .u32 (a : Int))) (.c (.int .u64 8)) = some (.c (.int .u32 ((a / 256 : Nat) : Int))) := by
  have e : binA Tryd.prog H .shr t (.c (.int .u32 (a : Int))) (.c (.int .u64 8)) = some (.c (.int .u32 ((a : Int).fdiv 256))) := rfl
  rw [e, Int.fdiv_eq_ediv_of_nonneg _ (by omega)]
  rfl
theorem wrap8 {n : Nat} (h : n < 256) : IntKind.wrap .u8 (n : Int) = (n : Int) := by
  have e : IntKind.wrap .u8 (n : Int) = (n : Int) % 256 := rfl
  rw [e]; omega
theorem len_up {x y n s : Nat} (hy : y = x / 2 ^ n) (h0 : 0 < y) (hs : s = n + tb8 y) : 1 ≤ s ∧ 2 ^ (s - 1) ≤ x ∧ x < 2 ^ s := by
  obtain ⟨h1, h2, h3⟩ := tb8_facts h0
  subst hs
  refine ⟨by omega, ?_, ?_⟩
  · rw [show n + tb8 y - 1 = tb8 y - 1 + n by omega, Nat.pow_add]
    rw [hy] at h2
    have := Nat.mul_le_mul_right (2 ^ n) h2
    exact Nat.le_trans (by rw [hy]; exact this) (Nat.div_mul_le_self _ _)
  · rw [Nat.add_comm, Nat.pow_add, ← Nat.div_lt_iff_lt_mul (Nat.pow_pos (by omega)), ← hy]
    exact h3
theorem len32_ev (k : Nat) (x : Nat) (hx0 : 0 < x) (hx : x < 4294967296) : ∃ s : Nat, run (k+1) 122 [.c (.int .u32 (x : Int))] = some (ii s) ∧ s ≤ 32 ∧ 1 ≤ s ∧ 2 ^ (s - 1) ≤ x ∧ x < 2 ^ s := by
  by_cases h1 : 65536 ≤ x
  · have h1' : (65536 : Int) ≤ (x : Int) := by omega
    by_cases h2 : 256 ≤ x / 65536
    · have h2' : (256 : Int) ≤ ((x / 65536 : Nat) : Int) := by omega
      have hy : x / 65536 / 256 < 256 := by omega
      have hw := wrap8 hy
      obtain ⟨q1, q2, q3⟩ := tb8_facts (y := x / 65536 / 256) (by omega)
      have hu := len_up (x := x) (y := x / 65536 / 256) (n := 24) (s := 24 + tb8 (x / 65536 / 256)) (by omega) (by omega) rfl
      have ht : tb8 (x / 65536 / 256) ≤ 8 := by
        by_cases h : tb8 (x / 65536 / 256) ≤ 8
        · exact h
        · have := Nat.pow_le_pow_right (show 2 > 0 by omega) (show 8 ≤ tb8 (x / 65536 / 256) - 1 by omega); omega
      refine ⟨24 + tb8 (x / 65536 / 256), ?_, by omega, hu⟩
      have hw2 : IntKind.wrap .i64 ((tb8 (x / 65536 / 256) : Nat) : Int) = ((tb8 (x / 65536 / 256) : Nat) : Int) := wrap64 (by omega) (by omega)
      have hw3 : IntKind.wrap .i64 (24 + ((tb8 (x / 65536 / 256) : Nat) : Int)) = ((24 + tb8 (x / 65536 / 256) : Nat) : Int) := by rw [wrap64 (by omega) (by omega)]; omega
      rw [run, ev122, ans_trim]
      simp only [Tryd.f122, h1', h2', shr32a, shr32b, hw, ii, FT, Int.reduceEq, Int.reduceToNat, Int.reduceLE, Int.reduceLT, Int.reduceAdd, Int.reduceMul, Int.reduceSub, Int.reduceNeg, Nat.reduceAdd, Nat.reduceSub, Nat.reduceMul, Nat.reduceLT, Nat.reduceBEq, Nat.reduceEqDiff, Nat.reduceLeDiff]
      rw [idx_of (y := x / 65536 / 256)]
      rotate_left
      · revert hy
        generalize x / 65536 / 256 = y
        revert y
        decide +kernel
      simp only [hw2, hw3, FT, Int.reduceEq, Int.reduceToNat, Int.reduceLE, Int.reduceLT, Int.reduceAdd, Int.reduceMul, Int.reduceSub, Int.reduceNeg, Nat.reduceAdd, Nat.reduceSub, Nat.reduceMul, Nat.reduceLT, Nat.reduceBEq, Nat.reduceEqDiff, Nat.reduceLeDiff]
    · have h2' : ¬ (256 : Int) ≤ ((x / 65536 : Nat) : Int) := by omega
      have hy : x / 65536 < 256 := by omega
      have hw := wrap8 hy
      obtain ⟨q1, q2, q3⟩ := tb8_facts (y := x / 65536) (by omega)
      have hu := len_up (x := x) (y := x / 65536) (n := 16) (s := 16 + tb8 (x / 65536)) (by omega) (by omega) rfl
      have ht : tb8 (x / 65536) ≤ 8 := by
        by_cases h : tb8 (x / 65536) ≤ 8
        · exact h
        · have := Nat.pow_le_pow_right (show 2 > 0 by omega) (show 8 ≤ tb8 (x / 65536) - 1 by omega); omega
      refine ⟨16 + tb8 (x / 65536), ?_, by omega, hu⟩
      have hw2 : IntKind.wrap .i64 ((tb8 (x / 65536) : Nat) : Int) = ((tb8 (x / 65536) : Nat) : Int) := wrap64 (by omega) (by omega)
      have hw3 : IntKind.wrap .i64 (16 + ((tb8 (x / 65536) : Nat) : Int)) = ((16 + tb8 (x / 65536) : Nat) : Int) := by rw [wrap64 (by omega) (by omega)]; omega
      rw [run, ev122, ans_trim]
      simp only [Tryd.f122, h1', h2', shr32a, hw, ii, FT, Int.reduceEq, Int.reduceToNat, Int.reduceLE, Int.reduceLT, Int.reduceAdd, Int.reduceMul, Int.reduceSub, Int.reduceNeg, Nat.reduceAdd, Nat.reduceSub, Nat.reduceMul, Nat.reduceLT, Nat.reduceBEq, Nat.reduceEqDiff, Nat.reduceLeDiff]
      rw [idx_of (y := x / 65536)]
      rotate_left
      · revert hy
        generalize x / 65536 = y
        revert y
        decide +kernel
      simp only [hw2, hw3, FT, Int.reduceEq, Int.reduceToNat, Int.reduceLE, Int.reduceLT, Int.reduceAdd, Int.reduceMul, Int.reduceSub, Int.reduceNeg, Nat.reduceAdd, Nat.reduceSub, Nat.reduceMul, Nat.reduceLT, Nat.reduceBEq, Nat.reduceEqDiff, Nat.reduceLeDiff]
  · have h1' : ¬ (65536 : Int) ≤ (x : Int) := by omega
    by_cases h2 : 256 ≤ x
    · have h2' : (256 : Int) ≤ ((x : Nat) : Int) := by omega
      have hy : x / 256 < 256 := by omega
      have hw := wrap8 hy
      obtain ⟨q1, q2, q3⟩ := tb8_facts (y := x / 256) (by omega)
      have hu := len_up (x := x) (y := x / 256) (n := 8) (s := 8 + tb8 (x / 256)) (by omega) (by omega) rfl
      have ht : tb8 (x / 256) ≤ 8 := by
        by_cases h : tb8 (x / 256) ≤ 8
        · exact h
        · have := Nat.pow_le_pow_right (show 2 > 0 by omega) (show 8 ≤ tb8 (x / 256) - 1 by omega); omega
      refine ⟨8 + tb8 (x / 256), ?_, by omega, hu⟩
      have hw2 : IntKind.wrap .i64 ((tb8 (x / 256) : Nat) : Int) = ((tb8 (x / 256) : Nat) : Int) := wrap64 (by omega) (by omega)
      have hw3 : IntKind.wrap .i64 (8 + ((tb8 (x / 256) : Nat) : Int)) = ((8 + tb8 (x / 256) : Nat) : Int) := by rw [wrap64 (by omega) (by omega)]; omega
      rw [run, ev122, ans_trim]
      simp only [Tryd.f122, h1', h2', shr32b, hw, ii, FT, Int.reduceEq, Int.reduceToNat, Int.reduceLE, Int.reduceLT, Int.reduceAdd, Int.reduceMul, Int.reduceSub, Int.reduceNeg, Nat.reduceAdd, Nat.reduceSub, Nat.reduceMul, Nat.reduceLT, Nat.reduceBEq, Nat.reduceEqDiff, Nat.reduceLeDiff]
      rw [idx_of (y := x / 256)]
      rotate_left
      · revert hy
        generalize x / 256 = y
        revert y
        decide +kernel
      simp only [hw2, hw3, FT, Int.reduceEq, Int.reduceToNat, Int.reduceLE, Int.reduceLT, Int.reduceAdd, Int.reduceMul, Int.reduceSub, Int.reduceNeg, Nat.reduceAdd, Nat.reduceSub, Nat.reduceMul, Nat.reduceLT, Nat.reduceBEq, Nat.reduceEqDiff, Nat.reduceLeDiff]
    · have h2' : ¬ (256 : Int) ≤ ((x : Nat) : Int) := by omega
      have hy : x < 256 := by omega
      have hw := wrap8 hy
      obtain ⟨q1, q2, q3⟩ := tb8_facts (y := x) (by omega)
      have hu := len_up (x := x) (y := x) (n := 0) (s := 0 + tb8 x) (by simp) (by omega) rfl
      have ht : tb8 x ≤ 8 := by
        by_cases h : tb8 x ≤ 8
        · exact h
        · have := Nat.pow_le_pow_right (show 2 > 0 by omega) (show 8 ≤ tb8 x - 1 by omega); omega
      rw [Nat.zero_add] at hu
      refine ⟨tb8 x, ?_, by omega, hu⟩
      have hw2 : IntKind.wrap .i64 ((tb8 x : Nat) : Int) = ((tb8 x : Nat) : Int) := wrap64 (by omega) (by omega)
      have hw3 : IntKind.wrap .i64 (0 + ((tb8 x : Nat) : Int)) = ((tb8 x : Nat) : Int) := by rw [wrap64 (by omega) (by omega)]; omega
      rw [run, ev122, ans_trim]
      simp only [Tryd.f122, h1', h2', hw, ii, FT, Int.reduceEq, Int.reduceToNat, Int.reduceLE, Int.reduceLT, Int.reduceAdd, Int.reduceMul, Int.reduceSub, Int.reduceNeg, Nat.reduceAdd, Nat.reduceSub, Nat.reduceMul, Nat.reduceLT, Nat.reduceBEq, Nat.reduceEqDiff, Nat.reduceLeDiff]
      rw [idx_of (y := x)]
      rotate_left
      · revert hy
        generalize x = y
        revert y
        decide +kernel
      simp only [hw2, hw3, FT, Int.reduceEq, Int.reduceToNat, Int.reduceLE, Int.reduceLT, Int.reduceAdd, Int.reduceMul, Int.reduceSub, Int.reduceNeg, Nat.reduceAdd, Nat.reduceSub, Nat.reduceMul, Nat.reduceLT, Nat.reduceBEq, Nat.reduceEqDiff, Nat.reduceLeDiff]
theorem lz32_ev (k : Nat) (x : Nat) (hx0 : 0 < x) (hx : x < 4294967296) : ∃ s : Nat, run (k+2) 115 [.c (.int .u32 (x : Int))] = some (ii s) ∧ s < 32 ∧ 2147483648 ≤ x * 2 ^ s ∧ x * 2 ^ s < 4294967296 := by
  obtain ⟨s, h1, h2, h3, h4, h5⟩ := len32_ev k x hx0 hx
  have hw : IntKind.wrap .i64 (32 - (s : Int)) = ((32 - s : Nat) : Int) := by rw [wrap64 (by omega) (by omega)]; omega
  refine ⟨32 - s, ?_, by omega, ?_, ?_⟩
  · simp only [run, ii] at h1
    rw [run, ev115, ans_trim]
    simp only [Tryd.f115, h1, hw, ii, FT, Int.reduceEq, Int.reduceToNat, Int.reduceLE, Int.reduceLT, Int.reduceAdd, Int.reduceMul, Int.reduceSub, Int.reduceNeg, Nat.reduceAdd, Nat.reduceSub, Nat.reduceMul, Nat.reduceLT, Nat.reduceBEq, Nat.reduceEqDiff, Nat.reduceLeDiff]
  · have := Nat.mul_le_mul_right (2 ^ (32 - s)) h4
    rw [← Nat.pow_add, show s - 1 + (32 - s) = 31 by omega] at this
    exact this
  · have := Nat.mul_lt_mul_of_pos_right h5 (show 0 < 2 ^ (32 - s) from Nat.pow_pos (by omega))
    rw [← Nat.pow_add, show s + (32 - s) = 32 by omega] at this
    exact this
end
end Go.Proofs.Sw.W
