/- A part of the proof: what functions of the program answer, of whatever arguments, reckoned with letters by the interpreter's equations. Its conditions stand in each theorem. -/
import Derived.Test.YtefdgfdahmaciaaS08A
namespace Go.Proofs.Sw
set_option linter.unusedVariables false
set_option linter.unusedSimpArgs false
set_option linter.unusedSectionVars false
open Go.Ab
variable [Globals]
abbrev enc1 (i : Ins) : List IV := [.int .i64 i.op, .int .i64 i.to, .int .i64 i.a, .int .i64 i.b, .int .i64 i.c]
def encCode : List Ins → List IV
  | [] => []
  | i :: l => enc1 i ++ encCode l
theorem encInts_length (l : List Int) : (encInts l).length = l.length := by simp [encInts]
theorem encInts_append (l m : List Int) : encInts (l ++ m) = encInts l ++ encInts m := by simp [encInts]
theorem encCode_length : ∀ (l : List Ins), (encCode l).length = l.length * 5
  | [] => rfl
  | i :: l => by rw [encCode, List.length_append, encCode_length l]; simp; omega
theorem encCode_append : ∀ (l m : List Ins), encCode (l ++ m) = encCode l ++ encCode m
  | [], m => rfl
  | i :: l, m => by rw [List.cons_append, encCode, encCode, encCode_append l m, List.append_assoc]
theorem encInts_get {l : List Int} {i : Nat} (h : i < l.length) : (encInts l)[i]? = some (.int .i64 l[i]) := by
  simp [encInts, h]
theorem encCode_drop : ∀ (l : List Ins) (i : Nat), (encCode l).drop (i * 5) = encCode (l.drop i)
  | [], i => by simp [encCode]
  | x :: l, 0 => by simp
  | x :: l, i + 1 => by
    rw [encCode, List.drop_succ_cons, ← encCode_drop l i, show (i + 1) * 5 = (enc1 x).length + i * 5 by simp; omega, List.drop_append]
    simp
theorem encCode_get {l : List Ins} {i : Nat} (h : i < l.length) : (if i * 5 + 5 ≤ (encCode l).length then some (((encCode l).drop (i * 5)).take 5) else none) = some (enc1 l[i]) := by
  rw [encCode_length, if_pos (by omega), encCode_drop]
  have : l.drop i = l[i] :: l.drop (i + 1) := (List.drop_eq_getElem_cons h)
  rw [this, encCode]
  simp
/-- The next number of a loop. -/
theorem wrap_succ {i n : Nat} (h : i < n) (hn : n ≤ 4611686018427387904) : IntKind.wrap .i64 ((i : Int) + 1) = ((i + 1 : Nat) : Int) := by
  rw [wrap64 (by omega) (by omega)]; simp
structure Pg where
  ins : Int
  regs : Int
  code : List Ins
  outs : List Int
  deriving DecidableEq
abbrev sC (code : List Ins) (nl : Bool) (cap : Option Nat) : AV := .c (.slice (encCode code) code.length nl cap)
/-- A program's cells. -/
abbrev aP (p : Pg) (nl : Bool) (cap : Option Nat) (nl2 : Bool) (cap2 : Option Nat) : AV := .agg [ii p.ins, ii p.regs, sC p.code nl cap, sI p.outs nl2 cap2]
abbrev cP (ins regs : Int) (v ov : AV) : AObj := .cells 25 [ii ins, ii regs, v, ov]
def headM (p : Pg) : Bool := decide (1 ≤ p.ins ∧ p.ins ≤ p.regs ∧ p.regs ≤ 128 ∧ p.code.length ≤ 16384 ∧ 1 ≤ p.outs.length ∧ p.outs.length ≤ 128)
def outsM (p : Pg) : Bool := p.outs.all (fun r => decide (0 ≤ r ∧ r < p.regs))
def codeM (p : Pg) : Bool := p.code.all (fun i => mayM i p.regs)
def rightM (p : Pg) : Bool := headM p && outsM p && codeM p
def checkE (p : Pg) : Int := if rightM p then 0 else 80
section
variable (kf : Nat) (ins regs : Int) (cv ov : AV)
theorem loop_Check_4 (outs : List Int) (nl : Bool) (cap : Option Nat) (hlen : outs.length ≤ 4611686018427387904) (k : Nat) (l : Ass) (H : Heap) (z : Option Out)
    (hz : loopR Try.prog tab kf none LB62_4 62 72 [1, 42, 43, 44] 1 k l H = z) (hk : outs.length < k)
    (h1 : asc l 1 = .ptr 0 0) (h42 : asc l 42 = sI outs nl cap) (h43 : asc l 43 = ii outs.length) (h44 : asc l 44 = ii (0 : Nat)) (hH : H = [cP ins regs cv ov]) :
    ∃ l', (z = some (.exit 0 (fr 72 l') H) ∧ asc l' 1 = .ptr 0 0 ∧ outs.all (fun r => decide (0 ≤ r ∧ r < regs)) = true) ∨
      (z = some (.ret (fr 72 l') H) ∧ asc l' 2 = ii (-1) ∧ asc l' 3 = ii 80 ∧ outs.all (fun r => decide (0 ≤ r ∧ r < regs)) = false) := by
  subst hH
  subst hz
  refine loop_nat outs.length (fun k l H => loopR Try.prog tab kf none LB62_4 62 72 [1, 42, 43, 44] 1 k l H)
    (fun i l H => asc l 1 = .ptr 0 0 ∧ asc l 42 = sI outs nl cap ∧ asc l 43 = ii outs.length ∧ asc l 44 = ii i ∧ (∀ j, (h : j < i) → ∀ h2 : j < outs.length, 0 ≤ outs[j] ∧ outs[j] < regs) ∧ H = [cP ins regs cv ov])
    (fun z => ∃ l', (z = some (.exit 0 (fr 72 l') [cP ins regs cv ov]) ∧ asc l' 1 = .ptr 0 0 ∧ outs.all (fun r => decide (0 ≤ r ∧ r < regs)) = true) ∨
      (z = some (.ret (fr 72 l') [cP ins regs cv ov]) ∧ asc l' 2 = ii (-1) ∧ asc l' 3 = ii 80 ∧ outs.all (fun r => decide (0 ≤ r ∧ r < regs)) = false)) ?_ outs.length 0 k l _ (by omega) hk ⟨h1, h42, h43, h44, fun j h => absurd h (by omega), rfl⟩
  clear h1 h42 h43 h44 hk
  rintro i k l H hi ⟨h1, h42, h43, h44, hp, rfl⟩
  by_cases hc : i < outs.length
  · have hc' : ((i : Int) < outs.length) := by omega
    have hc0 : (0 : Int) ≤ i := by omega
    have hx := encInts_get hc
    have hw := wrap_succ hc hlen
    have hall : ¬ (0 ≤ outs[i] ∧ outs[i] < regs) → outs.all (fun r => decide (0 ≤ r ∧ r < regs)) = false := fun h => by
      rw [List.all_eq_false]; exact ⟨outs[i], List.getElem_mem hc, by simpa using h⟩
    by_cases hr : outs[i] < 0
    · refine .inl ?_
      simp only [h1, h42, h43, h44, hc', hc0, hx, hr, loopR_succ, loopOf, findLoop, firstRegion, Option.some_or, Option.none_or, Option.getD_some, Option.some.injEq, Try.f62, EVb, EVc, Int.reduceEq, Int.reduceToNat, Int.reduceLE, Int.reduceLT, Int.reduceAdd, Int.reduceMul, Int.reduceSub, Int.reduceNeg, Nat.reduceAdd, Nat.reduceSub, Nat.reduceMul, Nat.reduceLT, Nat.reduceBEq, Nat.reduceEqDiff, Nat.reduceLeDiff, FACTS]
      exact ⟨_, .inr ⟨rfl, (by rfl), (by rfl), hall (by omega)⟩⟩
    · by_cases hr2 : regs ≤ outs[i]
      · refine .inl ?_
        simp only [h1, h42, h43, h44, hc', hc0, hx, hr, hr2, loopR_succ, loopOf, findLoop, firstRegion, Option.some_or, Option.none_or, Option.getD_some, Option.some.injEq, Try.f62, EVb, EVc, Int.reduceEq, Int.reduceToNat, Int.reduceLE, Int.reduceLT, Int.reduceAdd, Int.reduceMul, Int.reduceSub, Int.reduceNeg, Nat.reduceAdd, Nat.reduceSub, Nat.reduceMul, Nat.reduceLT, Nat.reduceBEq, Nat.reduceEqDiff, Nat.reduceLeDiff, FACTS]
        exact ⟨_, .inr ⟨rfl, (by rfl), (by rfl), hall (by omega)⟩⟩
      · refine .inr ?_
        simp only [h1, h42, h43, h44, hc', hc0, hx, hr, hr2, hw, loopR_succ, loopOf, findLoop, firstRegion, Option.some_or, Option.none_or, Option.getD_some, Option.some.injEq, Try.f62, EVb, EVc, Int.reduceEq, Int.reduceToNat, Int.reduceLE, Int.reduceLT, Int.reduceAdd, Int.reduceMul, Int.reduceSub, Int.reduceNeg, Nat.reduceAdd, Nat.reduceSub, Nat.reduceMul, Nat.reduceLT, Nat.reduceBEq, Nat.reduceEqDiff, Nat.reduceLeDiff, FACTS]
        refine ⟨_, _, hc, rfl, (by rfl), (by rfl), (by rfl), (by rfl), fun j hj h2 => ?_, rfl⟩
        by_cases e : j = i
        · subst e; omega
        · exact hp j (by omega) h2
  · have hc' : ¬ ((i : Int) < outs.length) := by omega
    refine .inl ?_
    simp only [h1, h42, h43, h44, hc', loopR_succ, loopOf, findLoop, firstRegion, Option.some_or, Option.none_or, Option.getD_some, Option.some.injEq, Try.f62, EVb, EVc, Int.reduceEq, Int.reduceToNat, Int.reduceLE, Int.reduceLT, Int.reduceAdd, Int.reduceMul, Int.reduceSub, Int.reduceNeg, Nat.reduceAdd, Nat.reduceSub, Nat.reduceMul, Nat.reduceLT, Nat.reduceBEq, Nat.reduceEqDiff, Nat.reduceLeDiff, FACTS]
    refine ⟨_, .inl ⟨rfl, (by rfl), ?_⟩⟩
    rw [List.all_eq_true]
    intro x hx
    obtain ⟨j, hj, rfl⟩ := List.getElem_of_mem hx
    simpa using hp j (by omega) hj
end
end Go.Proofs.Sw
