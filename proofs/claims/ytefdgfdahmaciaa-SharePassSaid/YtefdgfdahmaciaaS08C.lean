/- A part of the proof: what functions of the program answer, of whatever arguments, reckoned with letters by the interpreter's equations. Its conditions stand in each theorem. -/
import Derived.Test.YtefdgfdahmaciaaS08B
namespace Go.Proofs.Sw
set_option linter.unusedVariables false
set_option linter.unusedSimpArgs false
set_option linter.unusedSectionVars false
open Go.Ab
variable [Globals]
theorem all_of {α : Type} {l : List α} {p : α → Bool} (h : ∀ j, (h : j < l.length) → p l[j] = true) : l.all p = true := by
  rw [List.all_eq_true]
  intro x hx
  obtain ⟨j, hj, rfl⟩ := List.getElem_of_mem hx
  exact h j hj
theorem all_not {α : Type} {l : List α} {p : α → Bool} {i : Nat} (h : i < l.length) (hp : p l[i] = false) : l.all p = false := by
  rw [List.all_eq_false]; exact ⟨l[i], List.getElem_mem h, by simp [hp]⟩
theorem loop_Check_10 (kf : Nat) (hkf : 4 ≤ kf) (ins regs : Int) (ov : IV) (code : List Ins) (nl : Bool) (cap : Option Nat) (hlen : code.length ≤ 4611686018427387904) (k : Nat) (l : Ass) (H : Heap) (z : Option Out)
    (hz : loopR Try.prog tab kf none LB62_10 62 72 [1, 58, 59, 60] 1 k l H = z) (hk : code.length < k)
    (h1 : asc l 1 = .ptr 0 0) (h58 : asc l 58 = sC code nl cap) (h59 : asc l 59 = ii code.length) (h60 : asc l 60 = ii (0 : Nat)) (hH : H = [cP ins regs (sC code nl cap) (.c ov)]) :
    ∃ l' H', (z = some (.exit 2 (fr 72 l') H') ∧ code.all (fun i => mayM i regs) = true) ∨
      (z = some (.ret (fr 72 l') H') ∧ (∃ n, asc l' 2 = ii n) ∧ asc l' 3 = ii 80 ∧ code.all (fun i => mayM i regs) = false) := by
  subst hz
  obtain ⟨kf, rfl⟩ : ∃ j, kf = j + 4 := ⟨kf - 4, by omega⟩
  refine loop_nat code.length (fun k l H => loopR Try.prog tab (kf + 4) none LB62_10 62 72 [1, 58, 59, 60] 1 k l H)
    (fun i l H => asc l 1 = .ptr 0 0 ∧ asc l 58 = sC code nl cap ∧ asc l 59 = ii code.length ∧ asc l 60 = ii i ∧ (∀ j, (h : j < i) → ∀ h2 : j < code.length, mayM code[j] regs = true) ∧ H.take 1 = [cP ins regs (sC code nl cap) (.c ov)])
    (fun z => ∃ l' H', (z = some (.exit 2 (fr 72 l') H') ∧ code.all (fun i => mayM i regs) = true) ∨
      (z = some (.ret (fr 72 l') H') ∧ (∃ n, asc l' 2 = ii n) ∧ asc l' 3 = ii 80 ∧ code.all (fun i => mayM i regs) = false)) ?_ code.length 0 k l H (by omega) hk ⟨h1, h58, h59, h60, fun j h => absurd h (by omega), by rw [hH]; rfl⟩
  clear h1 h58 h59 h60 hk hH
  rintro i k l H hi ⟨h1, h58, h59, h60, hp, hH⟩
  have ht : trim 1 (fr 72 (keep l [1, 58, 59, 60])) H = [cP ins regs (sC code nl cap) (.c ov)] := by
    rw [trim_fr (by simp only [h1, h58, h59, h60, EVb, EVc, Int.reduceEq, Int.reduceToNat, Int.reduceLE, Int.reduceLT, Int.reduceAdd, Int.reduceMul, Int.reduceSub, Int.reduceNeg, Nat.reduceAdd, Nat.reduceSub, Nat.reduceMul, Nat.reduceLT, Nat.reduceBEq, Nat.reduceEqDiff, Nat.reduceLeDiff]) (by rw [hH]; simp only [EVb, EVc, Int.reduceEq, Int.reduceToNat, Int.reduceLE, Int.reduceLT, Int.reduceAdd, Int.reduceMul, Int.reduceSub, Int.reduceNeg, Nat.reduceAdd, Nat.reduceSub, Nat.reduceMul, Nat.reduceLT, Nat.reduceBEq, Nat.reduceEqDiff, Nat.reduceLeDiff]), hH]
  by_cases hc : i < code.length
  · have hc' : ((i : Int) < code.length) := by omega
    have hc0 : (0 : Int) ≤ i := by omega
    have hx := encCode_get hc
    have hw := wrap_succ hc hlen
    obtain ⟨x, hX⟩ : ∃ x, x = code[i] := ⟨_, rfl⟩
    rw [← hX] at hx
    have hm := may_ev kf x.op x.to x.a x.b x.c regs
    simp only [run, aI, ii, bb] at hm
    cases hd : mayM x regs with
    | false =>
      rw [show mayM ⟨x.op, x.to, x.a, x.b, x.c⟩ regs = false from hd] at hm
      refine .inl ?_
      simp only [loopR_succ, ht]
      simp only [h1, h58, h59, h60, hc', hc0, hx, hm, loopR_succ, loopOf, findLoop, firstRegion, Option.some_or, Option.none_or, Option.getD_some, Option.some.injEq, Try.f62, EVb, EVc, Int.reduceEq, Int.reduceToNat, Int.reduceLE, Int.reduceLT, Int.reduceAdd, Int.reduceMul, Int.reduceSub, Int.reduceNeg, Nat.reduceAdd, Nat.reduceSub, Nat.reduceMul, Nat.reduceLT, Nat.reduceBEq, Nat.reduceEqDiff, Nat.reduceLeDiff, FACTS, TYPES]
      exact ⟨_, _, .inr ⟨rfl, ⟨_, rfl⟩, (by rfl), all_not hc (by rw [← hX]; exact hd)⟩⟩
    | true =>
      rw [show mayM ⟨x.op, x.to, x.a, x.b, x.c⟩ regs = true from hd] at hm
      refine .inr ?_
      simp only [loopR_succ, ht]
      simp only [h1, h58, h59, h60, hc', hc0, hx, hm, hw, loopR_succ, loopOf, findLoop, firstRegion, Option.some_or, Option.none_or, Option.getD_some, Option.some.injEq, Try.f62, EVb, EVc, Int.reduceEq, Int.reduceToNat, Int.reduceLE, Int.reduceLT, Int.reduceAdd, Int.reduceMul, Int.reduceSub, Int.reduceNeg, Nat.reduceAdd, Nat.reduceSub, Nat.reduceMul, Nat.reduceLT, Nat.reduceBEq, Nat.reduceEqDiff, Nat.reduceLeDiff, FACTS, TYPES]
      refine ⟨_, _, hc, rfl, (by rfl), (by rfl), (by rfl), (by rfl), fun j hj h2 => ?_, (by rfl)⟩
      by_cases e : j = i
      · subst e; rw [← hX]; exact hd
      · exact hp j (by omega) h2
  · have hc' : ¬ ((i : Int) < code.length) := by omega
    refine .inl ?_
    simp only [loopR_succ, ht]
    simp only [h1, h58, h59, h60, hc', loopR_succ, loopOf, findLoop, firstRegion, Option.some_or, Option.none_or, Option.getD_some, Option.some.injEq, Try.f62, EVb, EVc, Int.reduceEq, Int.reduceToNat, Int.reduceLE, Int.reduceLT, Int.reduceAdd, Int.reduceMul, Int.reduceSub, Int.reduceNeg, Nat.reduceAdd, Nat.reduceSub, Nat.reduceMul, Nat.reduceLT, Nat.reduceBEq, Nat.reduceEqDiff, Nat.reduceLeDiff, FACTS, TYPES]
    exact ⟨_, _, .inl ⟨rfl, all_of fun j hj => hp j (by omega) hj⟩⟩
theorem check_ev (k : Nat) (p : Pg) (nl : Bool) (cap : Option Nat) (nl2 : Bool) (cap2 : Option Nat) (hk : p.outs.length + p.code.length + 10 ≤ k) :
    ∃ n, run (k+1) 62 [aP p nl cap nl2 cap2] = some (.tup [ii n, ii (checkE p)]) := by
  obtain ⟨ins, regs, code, outs⟩ := p
  simp only at hk
  rw [run, ev62, ans_trim]
  simp only [Try.f62, aP, ii, bb, EVb, condO_ite, Int.reduceEq, Int.reduceToNat, Int.reduceLE, Int.reduceLT, Int.reduceAdd, Int.reduceMul, Int.reduceSub, Int.reduceNeg, Nat.reduceAdd, Nat.reduceSub, Nat.reduceMul, Nat.reduceLT, Nat.reduceBEq, Nat.reduceEqDiff, Nat.reduceLeDiff, FACTS, TYPES]
  by_cases hm : headM ⟨ins, regs, code, outs⟩ = true
  · have hm' := hm
    simp only [headM, decide_eq_true_eq] at hm'
    have q1 : ¬ ins < 1 := by omega
    have q2 : ¬ regs < ins := by omega
    have q3 : ¬ 128 < regs := by omega
    have q4 : ¬ (16384 : Int) < code.length := by omega
    have q5 : ¬ (outs.length : Int) < 1 := by omega
    have q6 : ¬ (128 : Int) < outs.length := by omega
    simp only [q1, q2, q3, q4, q5, q6, EVb, EVc, Int.reduceEq, Int.reduceToNat, Int.reduceLE, Int.reduceLT, Int.reduceAdd, Int.reduceMul, Int.reduceSub, Int.reduceNeg, Nat.reduceAdd, Nat.reduceSub, Nat.reduceMul, Nat.reduceLT, Nat.reduceBEq, Nat.reduceEqDiff, Nat.reduceLeDiff, FACTS, TYPES]
    rw [evalCode_loopB LB62_4 lp62_4]; rotate_left; rfl; rfl; rfl
    generalize hz : loopR _ _ _ _ _ _ _ _ _ _ _ _ = z
    obtain ⟨l1, ⟨rfl, g1, ho⟩ | ⟨rfl, g1, g2, ho⟩⟩ := loop_Check_4 k ins regs (sC code nl cap) (sI outs nl2 cap2) outs nl2 cap2 (by omega) _ _ _ z hz (by omega) (by rfl) (by rfl) (by rfl) (by rfl) (by rfl)
    · simp only [g1, EVb, EVc, Int.reduceEq, Int.reduceToNat, Int.reduceLE, Int.reduceLT, Int.reduceAdd, Int.reduceMul, Int.reduceSub, Int.reduceNeg, Nat.reduceAdd, Nat.reduceSub, Nat.reduceMul, Nat.reduceLT, Nat.reduceBEq, Nat.reduceEqDiff, Nat.reduceLeDiff, FACTS, TYPES]
      clear hz
      rw [evalCode_loopB LB62_10 lp62_10]; rotate_left; rfl; rfl; rfl
      generalize hz : loopR _ _ _ _ _ _ _ _ _ _ _ _ = z
      obtain ⟨l2, H2, ⟨rfl, hc⟩ | ⟨rfl, ⟨n, g2⟩, g3, hc⟩⟩ := loop_Check_10 k (by omega) ins regs (.slice (encInts outs) outs.length nl2 cap2) code nl cap (by omega) _ _ _ z hz (by omega) (by exact g1) (by rfl) (by rfl) (by rfl) (by rfl)
      · refine ⟨0, ?_⟩
        simp only [EVb, EVc, Int.reduceEq, Int.reduceToNat, Int.reduceLE, Int.reduceLT, Int.reduceAdd, Int.reduceMul, Int.reduceSub, Int.reduceNeg, Nat.reduceAdd, Nat.reduceSub, Nat.reduceMul, Nat.reduceLT, Nat.reduceBEq, Nat.reduceEqDiff, Nat.reduceLeDiff, FACTS, TYPES]
        simp [checkE, rightM, hm, show outsM ⟨ins, regs, code, outs⟩ = _ from ho, show codeM ⟨ins, regs, code, outs⟩ = _ from hc]
      · refine ⟨n, ?_⟩
        simp only [g2, g3, EVb, EVc, Int.reduceEq, Int.reduceToNat, Int.reduceLE, Int.reduceLT, Int.reduceAdd, Int.reduceMul, Int.reduceSub, Int.reduceNeg, Nat.reduceAdd, Nat.reduceSub, Nat.reduceMul, Nat.reduceLT, Nat.reduceBEq, Nat.reduceEqDiff, Nat.reduceLeDiff, FACTS, TYPES]
        simp [checkE, rightM, hm, show outsM ⟨ins, regs, code, outs⟩ = _ from ho, show codeM ⟨ins, regs, code, outs⟩ = _ from hc]
    · refine ⟨-1, ?_⟩
      simp only [g1, g2, EVb, EVc, Int.reduceEq, Int.reduceToNat, Int.reduceLE, Int.reduceLT, Int.reduceAdd, Int.reduceMul, Int.reduceSub, Int.reduceNeg, Nat.reduceAdd, Nat.reduceSub, Nat.reduceMul, Nat.reduceLT, Nat.reduceBEq, Nat.reduceEqDiff, Nat.reduceLeDiff, FACTS, TYPES]
      simp [checkE, rightM, hm, show outsM ⟨ins, regs, code, outs⟩ = _ from ho]
  · refine ⟨-1, ?_⟩
    have hr : checkE ⟨ins, regs, code, outs⟩ = 80 := by simp [checkE, rightM, hm]
    rw [hr]
    simp only [headM, decide_eq_true_eq] at hm
    repeat' (first
    | (rw [condO_dec]; split <;> simp only [*, EVb, EVc, Int.reduceEq, Int.reduceToNat, Int.reduceLE, Int.reduceLT, Int.reduceAdd, Int.reduceMul, Int.reduceSub, Int.reduceNeg, Nat.reduceAdd, Nat.reduceSub, Nat.reduceMul, Nat.reduceLT, Nat.reduceBEq, Nat.reduceEqDiff, Nat.reduceLeDiff, FACTS, TYPES])
    | (rw [condO_ite]; split <;> simp only [*, EVb, EVc, Int.reduceEq, Int.reduceToNat, Int.reduceLE, Int.reduceLT, Int.reduceAdd, Int.reduceMul, Int.reduceSub, Int.reduceNeg, Nat.reduceAdd, Nat.reduceSub, Nat.reduceMul, Nat.reduceLT, Nat.reduceBEq, Nat.reduceEqDiff, Nat.reduceLeDiff, FACTS, TYPES])
    | (split <;> simp only [*, EVb, EVc, Int.reduceEq, Int.reduceToNat, Int.reduceLE, Int.reduceLT, Int.reduceAdd, Int.reduceMul, Int.reduceSub, Int.reduceNeg, Nat.reduceAdd, Nat.reduceSub, Nat.reduceMul, Nat.reduceLT, Nat.reduceBEq, Nat.reduceEqDiff, Nat.reduceLeDiff, FACTS, TYPES]))
    all_goals first
      | rfl
      | (exfalso; omega)
theorem right_ev (k : Nat) (p : Pg) (nl : Bool) (cap : Option Nat) (nl2 : Bool) (cap2 : Option Nat) (hk : p.outs.length + p.code.length + 11 ≤ k) :
    run (k+1) 85 [aP p nl cap nl2 cap2] = some (bb (rightM p)) := by
  obtain ⟨k, rfl⟩ : ∃ j, k = j + 1 := ⟨k - 1, by omega⟩
  obtain ⟨n, hc⟩ := check_ev k p nl cap nl2 cap2 (by omega)
  simp only [run, aP, ii, bb] at hc
  rw [run, ev85, ans_trim]
  simp only [Try.f85, aP, ii, bb, hc, EVb, EVc, Int.reduceEq, Int.reduceToNat, Int.reduceLE, Int.reduceLT, Int.reduceAdd, Int.reduceMul, Int.reduceSub, Int.reduceNeg, Nat.reduceAdd, Nat.reduceSub, Nat.reduceMul, Nat.reduceLT, Nat.reduceBEq, Nat.reduceEqDiff, Nat.reduceLeDiff, FACTS, TYPES]
  cases hr : rightM p <;> simp [checkE, hr]
end Go.Proofs.Sw
