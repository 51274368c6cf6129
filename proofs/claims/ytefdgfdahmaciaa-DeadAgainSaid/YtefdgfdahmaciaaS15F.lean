/- A part of the proof: what functions of the program answer, of whatever arguments, reckoned with letters by the interpreter's equations. Its conditions stand in each theorem. -/
import Derived.Test.YtefdgfdahmaciaaS15E
namespace Go.Proofs.Sw
set_option linter.unusedVariables false
set_option linter.unusedSimpArgs false
set_option linter.unusedSectionVars false
open Go.Ab
variable [Globals]
theorem srcOf_one {H : Heap} {id : Nat} {fz : Bool} {t : TypeId} {x : Ins} (h : H[id]? = some (.row fz t (enc1 x))) : srcOf H 5 (.hsl id 0 1 5 5) = some (enc1 x, 1) := by
  have := srcOf_row (sz := 5) (len := 1) (cells := enc1 x) h rfl
  exact this
theorem loop_deadPass_6 (kf : Nat) (hkf : 1 ≤ kf) (x0 x1 x3 : IV) (c2 : AObj) (hc2 : AObj.under 3 c2 = true) (code : List Ins) (nl : Bool) (cap : Option Nat) (fl : List Bool) (nl2 : Bool) (cap2 : Option Nat) (hfl : fl.length = code.length) (hlen : code.length ≤ 1000000)
    (k : Nat) (l : Ass) (z : Option Out) (hz : loopR Try.prog tab kf none LB30_6 30 54 [1, 2, 6, 19, 20, 21] 3 k l [.slot, .cells 25 [.c x0, .c x1, sC code nl cap, .c x3], c2] = z) (hk : code.length < k)
    (a1 : asc l 1 = .ptr 1 0) (a2 : asc l 2 = .ptr 2 0) (a6 : asc l 6 = .c (.slice [] 0 true (some 0))) (a19 : asc l 19 = sB fl nl2 cap2) (a20 : asc l 20 = ii fl.length) (a21 : asc l 21 = ii (0 : Nat)) :
    z = some (.exit 0 (fr 54 [(22, bb false), (1, .ptr 1 0), (2, .ptr 2 0), (6, lv 0 5 (keepL code fl).length), (19, sB fl nl2 cap2), (20, ii fl.length), (21, ii fl.length)])
      [lo 34 (keepL code fl).length (encCode (keepL code fl)), .cells 25 [.c x0, .c x1, sC code nl cap, .c x3], c2]) := by
  subst hz
  obtain ⟨kf, rfl⟩ : ∃ j, kf = j + 1 := ⟨kf - 1, by omega⟩
  refine loop_nat code.length (fun k l H => loopR Try.prog tab (kf + 1) none LB30_6 30 54 [1, 2, 6, 19, 20, 21] 3 k l H)
    (fun i l H => asc l 1 = .ptr 1 0 ∧ asc l 2 = .ptr 2 0 ∧ asc l 6 = lv 0 5 (keepL (code.take i) (fl.take i)).length ∧ asc l 19 = sB fl nl2 cap2 ∧ asc l 20 = ii fl.length ∧ asc l 21 = ii i ∧
      H.take 3 = [lo 34 (keepL (code.take i) (fl.take i)).length (encCode (keepL (code.take i) (fl.take i))), .cells 25 [.c x0, .c x1, sC code nl cap, .c x3], c2])
    (fun z => z = some (.exit 0 (fr 54 [(22, bb false), (1, .ptr 1 0), (2, .ptr 2 0), (6, lv 0 5 (keepL code fl).length), (19, sB fl nl2 cap2), (20, ii fl.length), (21, ii fl.length)])
      [lo 34 (keepL code fl).length (encCode (keepL code fl)), .cells 25 [.c x0, .c x1, sC code nl cap, .c x3], c2])) ?_ code.length 0 k l _ (by omega) hk ⟨a1, a2, a6, a19, a20, a21, rfl⟩
  clear a1 a2 a6 a19 a20 a21 hk
  rintro i k l H hi ⟨a1, a2, a6, a19, a20, a21, hH⟩
  have ht : trim 3 (fr 54 (keep l [1, 2, 6, 19, 20, 21])) H = [lo 34 (keepL (code.take i) (fl.take i)).length (encCode (keepL (code.take i) (fl.take i))), .cells 25 [.c x0, .c x1, sC code nl cap, .c x3], c2] := by
    rw [trim_fr (by simp only [a1, a2, a6, a19, a20, a21, Bool.or_true, EVb, EVc, Int.reduceEq, Int.reduceToNat, Int.reduceLE, Int.reduceLT, Int.reduceAdd, Int.reduceMul, Int.reduceSub, Int.reduceNeg, Nat.reduceAdd, Nat.reduceSub, Nat.reduceMul, Nat.reduceLT, Nat.reduceBEq, Nat.reduceEqDiff, Nat.reduceLeDiff]) (by rw [hH]; simp only [hc2, EVb, EVc, Int.reduceEq, Int.reduceToNat, Int.reduceLE, Int.reduceLT, Int.reduceAdd, Int.reduceMul, Int.reduceSub, Int.reduceNeg, Nat.reduceAdd, Nat.reduceSub, Nat.reduceMul, Nat.reduceLT, Nat.reduceBEq, Nat.reduceEqDiff, Nat.reduceLeDiff]), hH]
  by_cases hc : i < code.length
  · refine .inr ?_
    have hc2 : i < fl.length := by omega
    have hi0 : (0 : Int) ≤ i := by omega
    have hi1 : (i : Int) < fl.length := by omega
    have hi2 : (i : Int) < code.length := by omega
    have hx := encCode_get hc
    have hb := encB_getN hc2
    have hw := wrap_succ hc2 (by omega)
    have hkt := keepL_take code fl i hc hc2
    obtain ⟨x, hX⟩ : ∃ x, x = code[i] := ⟨_, rfl⟩
    rw [← hX] at hx hkt
    have hn := nothing_ev kf x.op x.to x.a x.b x.c
    simp only [run, aI, ii, bb] at hn
    have hac : (keepL (code.take i) (fl.take i)).length ≤ i := Nat.le_trans (keepL_len _ _) (by simp; omega)
    obtain ⟨acc, hA⟩ : ∃ acc, acc = keepL (code.take i) (fl.take i) := ⟨_, rfl⟩
    rw [← hA] at hkt hac ht a6
    have hap : ∀ X : Heap, apO 34 5 40 (some 0) (lv 0 5 acc.length) (lo 34 acc.length (encCode acc) :: X) (some (enc1 x, 1)) = some (lv 0 5 (acc.length + 1), lo 34 (acc.length + 1) (encCode acc ++ enc1 x) :: X) :=
      fun X => lo_length (Nat.le_trans (Nat.mul_le_mul_right 40 (show acc.length + 1 ≤ 1000000 by omega)) (by decide)) (by omega) (encCode_length acc)
    have hen : encCode acc ++ enc1 x = encCode (acc ++ [x]) := by rw [encCode_append]; simp [encCode]
    cases hf : fl[i] with
    | false =>
      rw [hf] at hb hkt
      simp only [loopR_succ, ht]
      simp only [a1, a2, a6, a19, a20, a21, hi0, hi1, hi2, hx, hb, hw, loopR_succ, loopOf, findLoop, firstRegion, Option.some_or, Option.none_or, Option.getD_some, Option.some.injEq, Try.f30, EVb, EVc, Int.reduceEq, Int.reduceToNat, Int.reduceLE, Int.reduceLT, Int.reduceAdd, Int.reduceMul, Int.reduceSub, Int.reduceNeg, Nat.reduceAdd, Nat.reduceSub, Nat.reduceMul, Nat.reduceLT, Nat.reduceBEq, Nat.reduceEqDiff, Nat.reduceLeDiff, FACTS, TYPES]
      refine ⟨_, _, hc, rfl, (by rfl), (by rfl), ?_, (by rfl), (by rfl), (by rfl), ?_⟩
      · rw [hkt]; simp; rfl
      · rw [hkt]; simp
    | true =>
      rw [hf] at hb hkt
      cases hno : nothing x with
      | true =>
        rw [show nothing ⟨x.op, x.to, x.a, x.b, x.c⟩ = true from hno] at hn
        rw [hno] at hkt
        simp only [loopR_succ, ht]
        simp only [a1, a2, a6, a19, a20, a21, hi0, hi1, hi2, hx, hb, hw, hn, loopR_succ, loopOf, findLoop, firstRegion, Option.some_or, Option.none_or, Option.getD_some, Option.some.injEq, Try.f30, EVb, EVc, Int.reduceEq, Int.reduceToNat, Int.reduceLE, Int.reduceLT, Int.reduceAdd, Int.reduceMul, Int.reduceSub, Int.reduceNeg, Nat.reduceAdd, Nat.reduceSub, Nat.reduceMul, Nat.reduceLT, Nat.reduceBEq, Nat.reduceEqDiff, Nat.reduceLeDiff, FACTS, TYPES]
        refine ⟨_, _, hc, rfl, (by rfl), (by rfl), ?_, (by rfl), (by rfl), (by rfl), ?_⟩
        · rw [hkt]; simp; rfl
        · rw [hkt]; simp
      | false =>
        rw [show nothing ⟨x.op, x.to, x.a, x.b, x.c⟩ = false from hno] at hn
        rw [hno] at hkt
        simp only [loopR_succ, ht]
        simp only [a1, a2, a6, a19, a20, a21, hi0, hi1, hi2, hx, hb, hw, hn, hap, loopR_succ, loopOf, findLoop, firstRegion, Option.some_or, Option.none_or, Option.getD_some, Option.some.injEq, Try.f30, EVb, EVc, Int.reduceEq, Int.reduceToNat, Int.reduceLE, Int.reduceLT, Int.reduceAdd, Int.reduceMul, Int.reduceSub, Int.reduceNeg, Nat.reduceAdd, Nat.reduceSub, Nat.reduceMul, Nat.reduceLT, Nat.reduceBEq, Nat.reduceEqDiff, Nat.reduceLeDiff, FACTS, TYPES]
        refine ⟨_, _, hc, rfl, (by rfl), (by rfl), ?_, (by rfl), (by rfl), (by rfl), ?_⟩
        · rw [hkt]; simp; rfl
        · rw [hkt, hen]; simp
  · refine .inl ?_
    obtain rfl : i = code.length := by omega
    have he : code.take code.length = code := List.take_length
    have he2 : fl.take code.length = fl := by rw [← hfl]; exact List.take_length
    rw [he, he2] at ht a6
    have hc' : ¬ ((code.length : Int) < fl.length) := by omega
    simp only [loopR_succ, ht]
    simp only [a1, a2, a6, a19, a20, a21, hc', loopR_succ, loopOf, findLoop, firstRegion, Option.some_or, Option.none_or, Option.getD_some, Option.some.injEq, Try.f30, EVb, EVc, Int.reduceEq, Int.reduceToNat, Int.reduceLE, Int.reduceLT, Int.reduceAdd, Int.reduceMul, Int.reduceSub, Int.reduceNeg, Nat.reduceAdd, Nat.reduceSub, Nat.reduceMul, Nat.reduceLT, Nat.reduceBEq, Nat.reduceEqDiff, Nat.reduceLeDiff, FACTS, TYPES]
    rw [hfl]
end Go.Proofs.Sw
