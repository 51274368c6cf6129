/- A part of the proof: what functions of the program answer, of whatever arguments, reckoned with letters by the interpreter's equations. Its conditions stand in each theorem. -/
import Derived.Test.YtefdgfdahmaciaaS15N
namespace Go.Proofs.Sw
set_option linter.unusedVariables false
set_option linter.unusedSimpArgs false
set_option linter.unusedSectionVars false
open Go.Ab
variable [Globals]
theorem l15works_ev (k : Nat) : run (k+60) 29 [] = some (bb true) := by kernel_rfl
theorem right_nat {p : Pg} (hr : rightM p = true) : ∃ n : Nat, p.regs = n := by
  simp only [rightM, headM, Bool.and_eq_true, decide_eq_true_eq] at hr
  exact ⟨p.regs.toNat, by omega⟩
set_option maxHeartbeats 4000000 in
theorem DeadAgain_ev (k : Nat) (p : Pg) (nl : Bool) (cap : Option Nat) (nl2 : Bool) (cap2 : Option Nat) (hk : p.outs.length + p.code.length + 400 ≤ k) (hn : nl = true → p.code = []) (hn2 : nl2 = true → p.outs = []) (_ : p.code.length * 40 ≤ roomBytes) (_ : p.outs.length * 8 ≤ roomBytes) :
    run (k+1) 9 [aP p nl cap nl2 cap2] = some (bb true) := by
  obtain ⟨k, rfl⟩ : ∃ j, k = j + 60 := ⟨k - 60, by omega⟩
  have hwk := l15works_ev k
  have hlg := long_ev (k + 59) p nl cap nl2 cap2
  simp only [run, aP, ii, sC, sI, bb] at hwk hlg
  rw [run, ev9, ans_trim]
  by_cases hl : 300 < p.code.length ∧ p.code.length ≤ 16384
  · simp only [hl] at hlg
    simp only [Try.f9, aP, ii, bb, hwk, hlg, EVb, EVc, Int.reduceEq, Int.reduceToNat, Int.reduceLE, Int.reduceLT, Int.reduceAdd, Int.reduceMul, Int.reduceSub, Int.reduceNeg, Nat.reduceAdd, Nat.reduceSub, Nat.reduceMul, Nat.reduceLT, Nat.reduceBEq, Nat.reduceEqDiff, Nat.reduceLeDiff, FACTS, TYPES]
  · simp only [hl] at hlg
    cases hr : rightM p with
    | false =>
      have hps := deadPass_bad (k + 59) p nl cap nl2 cap2 (by omega) hr
      simp only [run, aP, ii, sC, sI, bb] at hps
      simp only [Try.f9, aP, ii, bb, hwk, hlg, hps, EVb, EVc, Int.reduceEq, Int.reduceToNat, Int.reduceLE, Int.reduceLT, Int.reduceAdd, Int.reduceMul, Int.reduceSub, Int.reduceNeg, Nat.reduceAdd, Nat.reduceSub, Nat.reduceMul, Nat.reduceLT, Nat.reduceBEq, Nat.reduceEqDiff, Nat.reduceLeDiff, FACTS, TYPES]
    | true =>
      clear hn
      obtain ⟨n, hn⟩ := right_nat hr
      obtain ⟨ins, regs, code, outs⟩ := p
      simp only at hn hk hn2
      subst hn
      have hr' := hr
      simp only [rightM, headM, Bool.and_eq_true, decide_eq_true_eq] at hr'
      obtain ⟨⟨hh, ho⟩, hc⟩ := hr'
      have hnl2 : nl2 = false := by
        cases nl2 with
        | false => rfl
        | true => have := hn2 rfl; subst this; simp at hh
      subst hnl2
      have hrq := deadP_right hr
      have hid := deadP_idem ⟨ins, n, code, outs⟩
      have hps := deadPass_ev (k + 59) n ins code outs nl cap cap2 (by omega) hr
      have has := Asked_ev (k + 59) n ins code outs nl cap cap2 (by omega) hr
      have hids := idle_ev (k + 59) n ins code outs nl cap false cap2 (by omega) hr
      have hnk := needed_keep ⟨ins, n, code, outs⟩
      have hil := idleL_len code (neededM ⟨ins, n, code, outs⟩) 0 (needL_length _ _).2
      obtain ⟨cq, hcq⟩ : ∃ cq, cq = keepL code (neededM ⟨ins, n, code, outs⟩) := ⟨_, rfl⟩
      have hdp : deadP ⟨ins, n, code, outs⟩ = ⟨ins, n, cq, outs⟩ := by rw [hcq]; rfl
      rw [hdp] at hrq hid hps has hnk
      rw [← hcq] at hil
      have hcl : cq.length ≤ code.length := by rw [hcq]; exact keepL_len _ _
      obtain ⟨nq, hnq⟩ : ∃ nq, nq = nlE cq := ⟨_, rfl⟩
      obtain ⟨pq, hpq⟩ : ∃ pq, pq = cpE cq := ⟨_, rfl⟩
      have hps2 := deadPass_ev (k + 59) n ins cq outs nq pq none (by omega) hrq
      have has2 := Asked_ev (k + 59) n ins cq outs nq pq none (by omega) hrq
      have hids2 := idle_ev (k + 59) n ins cq outs nq pq false none (by omega) hrq
      have hnd := Needed_ev (k + 59) n ins cq outs nq pq false none (by omega) hrq
      rw [hid] at hps2 has2
      have hsm := same_ev (k + 59) ⟨ins, n, cq, outs⟩ nq false nq false pq none pq none (by show cq.length ≤ _; omega) (by show outs.length ≤ _; omega) (by show cq.length + outs.length + 10 ≤ _; omega)
      have hal : (askedM ⟨ins, n, cq, outs⟩).length = n := by show (askL _ _).length = n; rw [askL_length]; simp [asked0, mark_length]
      have heq := eqBools_ev (k + 59) (askedM ⟨ins, n, cq, outs⟩) false false none none (by omega) (by omega)
      have hhas := has_ev (k + 59) cq.length false none (by omega) (by omega)
      have hil2 := idleL_len cq (neededM ⟨ins, n, cq, outs⟩) 0 (needL_length _ _).2
      have hk2 : keepL cq (neededM ⟨ins, n, cq, outs⟩) = cq := by
        have : deadP ⟨ins, n, cq, outs⟩ = ⟨ins, n, cq, outs⟩ := hid
        have := congrArg Pg.code this
        exact this
      rw [hk2] at hil2
      have hz : (idleL 0 cq (neededM ⟨ins, n, cq, outs⟩)).length = 0 := by omega
      rw [hnk] at hnd
      simp only [← hnq, ← hpq] at hps hps2
      have hsum : IntKind.wrap .i64 ((cq.length : Int) + (idleL 0 code (neededM ⟨ins, n, code, outs⟩)).length) = code.length := by rw [wrap64 (by omega) (by omega)]; omega
      simp only [run, aP, ii, sC, sI, sB, bb] at hps has hids hps2 has2 hids2 hnd hsm heq hhas
      simp only [Try.f9, aP, ii, bb, hwk, hlg, hps, has, hps2, has2, hnd, EVb, EVc, Int.reduceEq, Int.reduceToNat, Int.reduceLE, Int.reduceLT, Int.reduceAdd, Int.reduceMul, Int.reduceSub, Int.reduceNeg, Nat.reduceAdd, Nat.reduceSub, Nat.reduceMul, Nat.reduceLT, Nat.reduceBEq, Nat.reduceEqDiff, Nat.reduceLeDiff, FACTS, TYPES]
      rw [evalCode_drawn Try.f9 12 dr9_12]; rotate_left; rfl
      simp (config := { maxSteps := 10000000 }) only [hids, hids2, hsm, heq, hhas, hsum, hz, EVd, Nat.reducePow, Nat.reduceDiv, Nat.reduceMod, EVb, EVc, Int.reduceEq, Int.reduceToNat, Int.reduceLE, Int.reduceLT, Int.reduceAdd, Int.reduceMul, Int.reduceSub, Int.reduceNeg, Nat.reduceAdd, Nat.reduceSub, Nat.reduceMul, Nat.reduceLT, Nat.reduceBEq, Nat.reduceEqDiff, Nat.reduceLeDiff, FACTS, TYPES]
end Go.Proofs.Sw
