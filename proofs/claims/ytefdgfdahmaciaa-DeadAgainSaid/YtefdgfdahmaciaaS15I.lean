/- A part of the proof: what functions of the program answer, of whatever arguments, reckoned with letters by the interpreter's equations. Its conditions stand in each theorem. -/
import Derived.Test.YtefdgfdahmaciaaS15H
namespace Go.Proofs.Sw
set_option linter.unusedVariables false
set_option linter.unusedSimpArgs false
set_option linter.unusedSectionVars false
open Go.Ab
variable [Globals]
theorem Idle_raw (k : Nat) (x y z w : AV) (hx : [x, y, z, w].all AV.isCell = true) (H : Heap) : evalT Try.prog (mkHints tab) (k+1) (.fn 35) [.agg [x, y, z, w]] H = some (.clo 80 [] [.ptr H.length 0], H ++ [.cells 25 [x, y, z, w]]) := by
  simp only [List.all_cons, List.all_nil, Bool.and_true, Bool.and_eq_true] at hx
  rw [ev35]
  simp only [Try.f35, hx, EVb, EVc, Int.reduceEq, Int.reduceToNat, Int.reduceLE, Int.reduceLT, Int.reduceAdd, Int.reduceMul, Int.reduceSub, Int.reduceNeg, Nat.reduceAdd, Nat.reduceSub, Nat.reduceMul, Nat.reduceLT, Nat.reduceBEq, Nat.reduceEqDiff, Nat.reduceLeDiff, FACTS, TYPES]
  rfl
theorem Idle_ans (k : Nat) (x y z w : AV) (hx : [x, y, z, w].all AV.isCell = true) : ans (evalT Try.prog (mkHints tab) (k+1) (.fn 35) [.agg [x, y, z, w]] []) = none := by
  rw [Idle_raw k x y z w hx]; rfl
theorem idle_bad (k : Nat) (p : Pg) (nl : Bool) (cap : Option Nat) (nl2 : Bool) (cap2 : Option Nat) (hk : p.outs.length + p.code.length + 100 ≤ k) (hr : rightM p = false) :
    run (k+1) 33 [aP p nl cap nl2 cap2] = some (sE []) := by
  obtain ⟨k, rfl⟩ : ∃ j, k = j + 60 := ⟨k - 60, by omega⟩
  have hbk := Idle_raw (k + 59) (ii p.ins) (ii p.regs) (sC p.code nl cap) (sI p.outs nl2 cap2) rfl
  have hba := Idle_ans (k + 59) (ii p.ins) (ii p.regs) (sC p.code nl cap) (sI p.outs nl2 cap2) rfl
  obtain ⟨cn, hck⟩ := check_ev (k + 58) p nl cap nl2 cap2 (by omega)
  simp only [run, aP, ii, sC, sI, bb, checkE, hr] at hbk hba hck
  rw [run, ev33, ans_trim]
  simp only [Try.f33, aP, ii, bb, hbk, hba, EVb, EVc, Int.reduceEq, Int.reduceToNat, Int.reduceLE, Int.reduceLT, Int.reduceAdd, Int.reduceMul, Int.reduceSub, Int.reduceNeg, Nat.reduceAdd, Nat.reduceSub, Nat.reduceMul, Nat.reduceLT, Nat.reduceBEq, Nat.reduceEqDiff, Nat.reduceLeDiff, FACTS, TYPES]
  rw [evalCode_rf RA33_6 RB33_6]; rotate_left; rfl; rfl
  simp only [ev80, Try.f80, hck, EVb, EVc, Int.reduceEq, Int.reduceToNat, Int.reduceLE, Int.reduceLT, Int.reduceAdd, Int.reduceMul, Int.reduceSub, Int.reduceNeg, Nat.reduceAdd, Nat.reduceSub, Nat.reduceMul, Nat.reduceLT, Nat.reduceBEq, Nat.reduceEqDiff, Nat.reduceLeDiff, FACTS, TYPES]
  rfl
theorem idle_ev (k n : Nat) (ins : Int) (code : List Ins) (outs : List Int) (nl : Bool) (cap : Option Nat) (nl2 : Bool) (cap2 : Option Nat) (hk : outs.length + code.length + 200 ≤ k) (hr : rightM ⟨ins, n, code, outs⟩ = true) :
    run (k+1) 33 [aP ⟨ins, n, code, outs⟩ nl cap nl2 cap2] = some (sE (idleL 0 code (neededM ⟨ins, n, code, outs⟩))) := by
  have hr' := hr
  simp only [rightM, headM, Bool.and_eq_true, decide_eq_true_eq] at hr'
  obtain ⟨⟨hh, ho⟩, hc⟩ := hr'
  obtain ⟨k, rfl⟩ : ∃ j, k = j + 60 := ⟨k - 60, by omega⟩
  have hbk := Idle_raw (k + 59) (ii ins) (ii n) (sC code nl cap) (sI outs nl2 cap2) rfl
  have hba := Idle_ans (k + 59) (ii ins) (ii n) (sC code nl cap) (sI outs nl2 cap2) rfl
  obtain ⟨cn, hck⟩ := check_ev (k + 58) ⟨ins, n, code, outs⟩ nl cap nl2 cap2 (by simp only; omega)
  have hne := needed_ev (k + 58) n ins code outs nl cap nl2 cap2 (by omega) hr
  have hnl : (neededM ⟨ins, n, code, outs⟩).length = code.length := (needL_length _ _).2
  simp only [run, aP, ii, sC, sI, sB, bb, checkE, hr] at hbk hba hck hne
  rw [run, ev33, ans_trim]
  simp only [Try.f33, aP, ii, bb, hbk, hba, EVb, EVc, Int.reduceEq, Int.reduceToNat, Int.reduceLE, Int.reduceLT, Int.reduceAdd, Int.reduceMul, Int.reduceSub, Int.reduceNeg, Nat.reduceAdd, Nat.reduceSub, Nat.reduceMul, Nat.reduceLT, Nat.reduceBEq, Nat.reduceEqDiff, Nat.reduceLeDiff, FACTS, TYPES]
  rw [evalCode_rf RA33_6 RB33_6]; rotate_left; rfl; rfl
  simp only [ev80, Try.f80, hck, hne, EVb, EVc, Int.reduceEq, Int.reduceToNat, Int.reduceLE, Int.reduceLT, Int.reduceAdd, Int.reduceMul, Int.reduceSub, Int.reduceNeg, Nat.reduceAdd, Nat.reduceSub, Nat.reduceMul, Nat.reduceLT, Nat.reduceBEq, Nat.reduceEqDiff, Nat.reduceLeDiff, FACTS, TYPES]
  rw [evalCode_loopB LB80_3 lp80_3]; rotate_left; rfl; rfl; rfl
  generalize hz : loopR _ _ _ _ _ _ _ _ _ _ _ _ = z
  obtain ⟨l', rfl⟩ := loop_idle_3 (k + 54) (.int .i64 ins) (.int .i64 n) (.slice (encInts outs) outs.length nl2 cap2) _ (by rfl) (by rfl) code nl cap (neededM ⟨ins, n, code, outs⟩) false none hnl (by omega) _ _ z hz (by omega) (by rfl) (by rfl) (by rfl) (by rfl) (by rfl)
  have hql : (encInts (idleL 0 code (neededM ⟨ins, n, code, outs⟩))).length = (idleL 0 code (neededM ⟨ins, n, code, outs⟩)).length := encInts_length _
  simp only [hql, Bool.or_true, EVb, EVc, Int.reduceEq, Int.reduceToNat, Int.reduceLE, Int.reduceLT, Int.reduceAdd, Int.reduceMul, Int.reduceSub, Int.reduceNeg, Nat.reduceAdd, Nat.reduceSub, Nat.reduceMul, Nat.reduceLT, Nat.reduceBEq, Nat.reduceEqDiff, Nat.reduceLeDiff, FACTS, TYPES]
end Go.Proofs.Sw
