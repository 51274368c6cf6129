/- A part of the proof: what functions of the program answer, of whatever arguments, reckoned with letters by the interpreter's equations. Its conditions stand in each theorem. -/
import Derived.Test.YtefdgfdahmaciaaS15G
namespace Go.Proofs.Sw
set_option linter.unusedVariables false
set_option linter.unusedSimpArgs false
set_option linter.unusedSectionVars false
open Go.Ab
variable [Globals]
/-- The numbers of the idle ones. -/
def idleL : Nat → List Ins → List Bool → List Int
  | n, i :: c, f :: fl => if (f && !nothing i) = true then idleL (n + 1) c fl else (n : Int) :: idleL (n + 1) c fl
  | _, _, _ => []
theorem idleL_take : ∀ (c : List Ins) (fl : List Bool) (n i : Nat) (h : i < c.length) (h2 : i < fl.length), idleL n (c.take (i + 1)) (fl.take (i + 1)) = idleL n (c.take i) (fl.take i) ++ (if (fl[i] && !nothing c[i]) = true then [] else [((n + i : Nat) : Int)])
  | x :: c, f :: fl, n, 0, _, _ => by simp only [List.take_succ_cons, List.take_zero, idleL, List.getElem_cons_zero]; split <;> simp
  | x :: c, f :: fl, n, i + 1, h, h2 => by
    have := idleL_take c fl (n + 1) i (by simpa using h) (by simpa using h2)
    simp only [List.take_succ_cons, idleL, List.getElem_cons_succ] at this ⊢
    rw [show n + (i + 1) = n + 1 + i by omega]
    split
    · exact this
    · rw [this, List.cons_append]
theorem idleL_len : ∀ (c : List Ins) (fl : List Bool) (n : Nat), fl.length = c.length → (idleL n c fl).length + (keepL c fl).length = c.length
  | [], [], n, _ => by simp [idleL, keepL]
  | x :: c, f :: fl, n, h => by
    have := idleL_len c fl (n + 1) (by simpa using h)
    simp only [idleL, keepL]
    split <;> simp <;> omega
noncomputable abbrev hI (x0 x1 x2 x3 : IV) (l0 : Ass) (acc : List Int) : Heap :=
  [lo 3 acc.length (encInts acc), .cells 25 [.c x0, .c x1, .c x2, .c x3], .cells 23 [lv 0 1 acc.length], .cells 25 [.c x0, .c x1, .c x2, .c x3], rfObj #[11] RA33_6 RB33_6 33 .ready none (fr 17 l0)]
theorem loop_idle_3 (kf : Nat) (x0 x1 x3 : IV) (l0 : Ass) (c0 : (l0.all fun e => AV.under 5 e.2) = true) (g3 : asc l0 3 = .ptr 2 0) (code : List Ins) (nl : Bool) (cap : Option Nat) (fl : List Bool) (nl2 : Bool) (cap2 : Option Nat) (hfl : fl.length = code.length) (hlen : code.length ≤ 1000000)
    (k : Nat) (l : Ass) (z : Option Out) (hz : loopR Try.prog tab (kf + 5) none LB80_3 80 39 [0, 1, 15, 16, 17] 5 k l (hI x0 x1 (.slice (encCode code) code.length nl cap) x3 l0 []) = z) (hk : code.length < k)
    (a0 : asc l 0 = .yld 4) (a1 : asc l 1 = .ptr 3 0) (a15 : asc l 15 = sB fl nl2 cap2) (a16 : asc l 16 = ii fl.length) (a17 : asc l 17 = ii (0 : Nat)) :
    ∃ l', z = some (.exit 0 (fr 39 l') (hI x0 x1 (.slice (encCode code) code.length nl cap) x3 l0 (idleL 0 code fl))) := by
  subst hz
  refine loop_nat code.length (fun k l H => loopR Try.prog tab (kf + 5) none LB80_3 80 39 [0, 1, 15, 16, 17] 5 k l H)
    (fun i l H => asc l 0 = .yld 4 ∧ asc l 1 = .ptr 3 0 ∧ asc l 15 = sB fl nl2 cap2 ∧ asc l 16 = ii fl.length ∧ asc l 17 = ii i ∧
      H.take 5 = hI x0 x1 (.slice (encCode code) code.length nl cap) x3 l0 (idleL 0 (code.take i) (fl.take i)))
    (fun z => ∃ l', z = some (.exit 0 (fr 39 l') (hI x0 x1 (.slice (encCode code) code.length nl cap) x3 l0 (idleL 0 code fl)))) ?_ code.length 0 k l _ (by omega) hk ⟨a0, a1, a15, a16, a17, rfl⟩
  clear a0 a1 a15 a16 a17 hk
  rintro i k l H hi ⟨a0, a1, a15, a16, a17, hH⟩
  have ht : trim 5 (fr 39 (keep l [0, 1, 15, 16, 17])) H = hI x0 x1 (.slice (encCode code) code.length nl cap) x3 l0 (idleL 0 (code.take i) (fl.take i)) := by
    rw [trim_fr (by simp only [a0, a1, a15, a16, a17, EVb, EVc, Int.reduceEq, Int.reduceToNat, Int.reduceLE, Int.reduceLT, Int.reduceAdd, Int.reduceMul, Int.reduceSub, Int.reduceNeg, Nat.reduceAdd, Nat.reduceSub, Nat.reduceMul, Nat.reduceLT, Nat.reduceBEq, Nat.reduceEqDiff, Nat.reduceLeDiff]) (by rw [hH]; simp only [c0, Bool.or_true, EVb, EVc, Int.reduceEq, Int.reduceToNat, Int.reduceLE, Int.reduceLT, Int.reduceAdd, Int.reduceMul, Int.reduceSub, Int.reduceNeg, Nat.reduceAdd, Nat.reduceSub, Nat.reduceMul, Nat.reduceLT, Nat.reduceBEq, Nat.reduceEqDiff, Nat.reduceLeDiff]), hH]
  by_cases hc : i < code.length
  · refine .inr ?_
    have hc2 : i < fl.length := by omega
    have hi0 : (0 : Int) ≤ i := by omega
    have hi1 : (i : Int) < fl.length := by omega
    have hi2 : (i : Int) < code.length := by omega
    have hx := encCode_get hc
    have hb := encB_getN hc2
    have hw := wrap_succ hc2 (by omega)
    have hkt := idleL_take code fl 0 i hc hc2
    have hil := idleL_len (code.take i) (fl.take i) 0 (by simp; omega)
    obtain ⟨x, hX⟩ : ∃ x, x = code[i] := ⟨_, rfl⟩
    rw [← hX] at hx hkt
    rw [Nat.zero_add] at hkt
    have hn := nothing_ev (kf + 4) x.op x.to x.a x.b x.c
    simp only [run, aI, ii, bb] at hn
    obtain ⟨acc, hA⟩ : ∃ acc, acc = idleL 0 (code.take i) (fl.take i) := ⟨_, rfl⟩
    rw [← hA] at hkt hil ht
    have hac : acc.length ≤ i := by simp at hil; omega
    have hap : ∀ X : Heap, apO 3 1 8 (some 0) (lv 0 1 acc.length) (lo 3 acc.length (encInts acc) :: X) (some ([.int .i64 i], 1)) = some (lv 0 1 (acc.length + 1), lo 3 (acc.length + 1) (encInts acc ++ [.int .i64 i]) :: X) :=
      fun X => lo_length (Nat.le_trans (Nat.mul_le_mul_right 8 (show acc.length + 1 ≤ 1000001 by omega)) (by decide)) (by omega) (by rw [encInts_length]; omega)
    have hen : encInts acc ++ [.int .i64 i] = encInts (acc ++ [(i : Int)]) := by rw [encInts_append]; rfl
    by_cases hkeep : (fl[i] && !nothing x) = true
    · rw [if_pos hkeep, List.append_nil] at hkt
      simp only [Bool.and_eq_true, Bool.not_eq_true'] at hkeep
      rw [hkeep.1] at hb
      rw [show nothing ⟨x.op, x.to, x.a, x.b, x.c⟩ = false from hkeep.2] at hn
      simp only [loopR_succ, ht]
      simp only [a0, a1, a15, a16, a17, hi0, hi1, hi2, hx, hb, hw, hn, rfAs, rfBd, rfOf, findRF, firstRegion, Option.some_or, Option.none_or, Option.getD_some, Option.some.injEq, findLoop, loopOf, loopR_succ, loopOf, findLoop, firstRegion, Option.some_or, Option.none_or, Option.getD_some, Option.some.injEq, Try.f80, EVb, EVc, Int.reduceEq, Int.reduceToNat, Int.reduceLE, Int.reduceLT, Int.reduceAdd, Int.reduceMul, Int.reduceSub, Int.reduceNeg, Nat.reduceAdd, Nat.reduceSub, Nat.reduceMul, Nat.reduceLT, Nat.reduceBEq, Nat.reduceEqDiff, Nat.reduceLeDiff, FACTS, TYPES]
      refine ⟨_, _, hc, rfl, (by rfl), (by rfl), (by rfl), (by rfl), (by rfl), ?_⟩
      rw [hkt]
      rfl
    · rw [if_neg hkeep] at hkt
      cases hf : fl[i] with
      | false =>
        rw [hf] at hb
        simp only [loopR_succ, ht]
        simp only [a0, a1, a15, a16, a17, hi0, hi1, hi2, hx, hb, hw, hn, g3, hap, evalT_round, roundA_rf, rfAs, rfBd, rfOf, findRF, firstRegion, Option.some_or, Option.none_or, Option.getD_some, Option.some.injEq, findLoop, loopOf, loopR_succ, loopOf, findLoop, firstRegion, Option.some_or, Option.none_or, Option.getD_some, Option.some.injEq, Try.f80, Try.f33, EVb, EVc, Int.reduceEq, Int.reduceToNat, Int.reduceLE, Int.reduceLT, Int.reduceAdd, Int.reduceMul, Int.reduceSub, Int.reduceNeg, Nat.reduceAdd, Nat.reduceSub, Nat.reduceMul, Nat.reduceLT, Nat.reduceBEq, Nat.reduceEqDiff, Nat.reduceLeDiff, FACTS, TYPES]
        refine ⟨_, _, hc, rfl, (by rfl), (by rfl), (by rfl), (by rfl), (by rfl), ?_⟩
        rw [hkt, hen]
        simp
      | true =>
        rw [hf] at hb
        have hno : nothing x = true := by rw [hf] at hkeep; simpa using hkeep
        rw [show nothing ⟨x.op, x.to, x.a, x.b, x.c⟩ = true from hno] at hn
        simp only [loopR_succ, ht]
        simp only [a0, a1, a15, a16, a17, hi0, hi1, hi2, hx, hb, hw, hn, g3, hap, evalT_round, roundA_rf, rfAs, rfBd, rfOf, findRF, firstRegion, Option.some_or, Option.none_or, Option.getD_some, Option.some.injEq, findLoop, loopOf, loopR_succ, loopOf, findLoop, firstRegion, Option.some_or, Option.none_or, Option.getD_some, Option.some.injEq, Try.f80, Try.f33, EVb, EVc, Int.reduceEq, Int.reduceToNat, Int.reduceLE, Int.reduceLT, Int.reduceAdd, Int.reduceMul, Int.reduceSub, Int.reduceNeg, Nat.reduceAdd, Nat.reduceSub, Nat.reduceMul, Nat.reduceLT, Nat.reduceBEq, Nat.reduceEqDiff, Nat.reduceLeDiff, FACTS, TYPES]
        refine ⟨_, _, hc, rfl, (by rfl), (by rfl), (by rfl), (by rfl), (by rfl), ?_⟩
        rw [hkt, hen]
        simp
  · refine .inl ?_
    obtain rfl : i = code.length := by omega
    have he : code.take code.length = code := List.take_length
    have he2 : fl.take code.length = fl := by rw [← hfl]; exact List.take_length
    rw [he, he2] at ht
    have hc' : ¬ ((code.length : Int) < fl.length) := by omega
    simp only [loopR_succ, ht]
    simp only [a0, a1, a15, a16, a17, hc', loopR_succ, loopOf, findLoop, firstRegion, Option.some_or, Option.none_or, Option.getD_some, Option.some.injEq, Try.f80, EVb, EVc, Int.reduceEq, Int.reduceToNat, Int.reduceLE, Int.reduceLT, Int.reduceAdd, Int.reduceMul, Int.reduceSub, Int.reduceNeg, Nat.reduceAdd, Nat.reduceSub, Nat.reduceMul, Nat.reduceLT, Nat.reduceBEq, Nat.reduceEqDiff, Nat.reduceLeDiff, FACTS, TYPES]
    exact ⟨_, rfl⟩
end Go.Proofs.Sw
