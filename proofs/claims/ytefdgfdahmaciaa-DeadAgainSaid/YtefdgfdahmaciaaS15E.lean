/- A part of the proof: what functions of the program answer, of whatever arguments, reckoned with letters by the interpreter's equations. Its conditions stand in each theorem. -/
import Derived.Test.YtefdgfdahmaciaaS15D
namespace Go.Proofs.Sw
set_option linter.unusedVariables false
set_option linter.unusedSimpArgs false
set_option linter.unusedSectionVars false
open Go.Ab
variable [Globals]
def nothing (i : Ins) : Bool := decide (i.op = 1 ∧ i.to = i.a)
theorem nothing_ev (k : Nat) (o t a b c : Int) : run (k+1) 76 [aI o t a b c] = some (bb (nothing ⟨o, t, a, b, c⟩)) := by
  rw [run, ev76, ans_trim]
  simp only [Try.f76, aI, ii, bb, EVb, EVc, Int.reduceEq, Int.reduceToNat, Int.reduceLE, Int.reduceLT, Int.reduceAdd, Int.reduceMul, Int.reduceSub, Int.reduceNeg, Nat.reduceAdd, Nat.reduceSub, Nat.reduceMul, Nat.reduceLT, Nat.reduceBEq, Nat.reduceEqDiff, Nat.reduceLeDiff, FACTS, TYPES]
  repeat' (first
    | (rw [condO_dec]; split <;> simp only [*, EVb, EVc, Int.reduceEq, Int.reduceToNat, Int.reduceLE, Int.reduceLT, Int.reduceAdd, Int.reduceMul, Int.reduceSub, Int.reduceNeg, Nat.reduceAdd, Nat.reduceSub, Nat.reduceMul, Nat.reduceLT, Nat.reduceBEq, Nat.reduceEqDiff, Nat.reduceLeDiff, FACTS, TYPES])
    | (rw [condO_ite]; split <;> simp only [*, EVb, EVc, Int.reduceEq, Int.reduceToNat, Int.reduceLE, Int.reduceLT, Int.reduceAdd, Int.reduceMul, Int.reduceSub, Int.reduceNeg, Nat.reduceAdd, Nat.reduceSub, Nat.reduceMul, Nat.reduceLT, Nat.reduceBEq, Nat.reduceEqDiff, Nat.reduceLeDiff, FACTS, TYPES])
    | (split <;> simp only [*, EVb, EVc, Int.reduceEq, Int.reduceToNat, Int.reduceLE, Int.reduceLT, Int.reduceAdd, Int.reduceMul, Int.reduceSub, Int.reduceNeg, Nat.reduceAdd, Nat.reduceSub, Nat.reduceMul, Nat.reduceLT, Nat.reduceBEq, Nat.reduceEqDiff, Nat.reduceLeDiff, FACTS, TYPES]))
  all_goals simp [nothing, *]
theorem clone_ev (k : Nat) (outs : List Int) (nl : Bool) (cap : Option Nat) (hl : 0 < outs.length) (ho : outs.length ≤ 1000000) : run (k+1) 77 [sI outs nl cap] = some (if nl = true then .c (.slice [] 0 true (some 0)) else sI outs false none) := by
  have hl2 := encInts_length outs
  have hap : ∀ o : AObj, apO 3 1 8 none (.hsl 0 0 0 0 1) [.row false 3 []] (some (encInts outs, outs.length)) = some (.hsl 0 0 outs.length outs.length 1, [.row false 3 (encInts outs)]) := by
    intro _
    have := apO_row (sl := none) (e := 3) (sz := 1) (by_ := 8) (m := outs.length) (len := 0) (id := 0) (H := [.row false 3 []]) (cells := []) (cs := encInts outs) hl (Nat.le_trans (Nat.mul_le_mul_right 8 (show 0 + outs.length ≤ 1000000 by omega)) (by decide)) (by omega) rfl rfl
    simpa using this
  have htk : (encInts outs).take outs.length = encInts outs := by rw [← hl2, List.take_length]
  have hle : outs.length ≤ outs.length := by omega
  rw [run, ev77, ans_trim]
  simp only [Try.f77, sI, EVb, EVc, Int.reduceEq, Int.reduceToNat, Int.reduceLE, Int.reduceLT, Int.reduceAdd, Int.reduceMul, Int.reduceSub, Int.reduceNeg, Nat.reduceAdd, Nat.reduceSub, Nat.reduceMul, Nat.reduceLT, Nat.reduceBEq, Nat.reduceEqDiff, Nat.reduceLeDiff, FACTS, TYPES]
  cases nl
  · simp only [hap (.dead), hl2, htk, hle, EVb, EVc, Int.reduceEq, Int.reduceToNat, Int.reduceLE, Int.reduceLT, Int.reduceAdd, Int.reduceMul, Int.reduceSub, Int.reduceNeg, Nat.reduceAdd, Nat.reduceSub, Nat.reduceMul, Nat.reduceLT, Nat.reduceBEq, Nat.reduceEqDiff, Nat.reduceLeDiff, FACTS, TYPES]
  · simp only [EVb, EVc, Int.reduceEq, Int.reduceToNat, Int.reduceLE, Int.reduceLT, Int.reduceAdd, Int.reduceMul, Int.reduceSub, Int.reduceNeg, Nat.reduceAdd, Nat.reduceSub, Nat.reduceMul, Nat.reduceLT, Nat.reduceBEq, Nat.reduceEqDiff, Nat.reduceLeDiff, FACTS, TYPES]
/-- The instructions that stay. -/
def keepL : List Ins → List Bool → List Ins
  | i :: c, f :: fl => if (f && !nothing i) = true then i :: keepL c fl else keepL c fl
  | _, _ => []
theorem keepL_take : ∀ (c : List Ins) (fl : List Bool) (i : Nat) (h : i < c.length) (h2 : i < fl.length), keepL (c.take (i + 1)) (fl.take (i + 1)) = keepL (c.take i) (fl.take i) ++ (if (fl[i] && !nothing c[i]) = true then [c[i]] else [])
  | x :: c, f :: fl, 0, _, _ => by simp only [List.take_succ_cons, List.take_zero, keepL, List.getElem_cons_zero]; split <;> simp
  | x :: c, f :: fl, i + 1, h, h2 => by
    have := keepL_take c fl i (by simpa using h) (by simpa using h2)
    simp only [List.take_succ_cons, keepL, List.getElem_cons_succ] at this ⊢
    split
    · rw [this, List.cons_append]
    · exact this
theorem keepL_len : ∀ (c : List Ins) (fl : List Bool), (keepL c fl).length ≤ c.length
  | [], _ => by simp [keepL]
  | x :: c, [] => by simp [keepL]
  | x :: c, f :: fl => by
    have := keepL_len c fl
    simp only [keepL]
    split <;> simp <;> omega
theorem encB_getN {l : List Bool} {i : Nat} (h : i < l.length) : (encB l)[i]? = some (.bool l[i]) := by
  simp [encB, h]
end Go.Proofs.Sw
