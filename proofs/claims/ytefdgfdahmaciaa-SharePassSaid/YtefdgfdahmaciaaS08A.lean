/- A part of the proof: what functions of the program answer, of whatever arguments, reckoned with letters by the interpreter's equations. Its conditions stand in each theorem. -/
import Derived.Test.YtefdgfdahmaciaaSFacts
namespace Go.Proofs.Sw
set_option linter.unusedVariables false
set_option linter.unusedSimpArgs false
set_option linter.unusedSectionVars false
open Go.Ab
variable [Globals]
structure Ins where
  op : Int
  to : Int
  a : Int
  b : Int
  c : Int
  deriving DecidableEq
abbrev ii (n : Int) : AV := .c (.int .i64 n)
abbrev bb (n : Bool) : AV := .c (.bool n)
abbrev aI (o t a b c : Int) : AV := .agg [ii o, ii t, ii a, ii b, ii c]
abbrev encI (i : Ins) : AV := .agg [ii i.op, ii i.to, ii i.a, ii i.b, ii i.c]
noncomputable abbrev run (k f : Nat) (args : List AV) : Option AV := ans (evalT Try.prog (mkHints tab) k (.fn f) args [])
/-- Lists that never change: a list's slice is nil where it is empty. -/
abbrev nlE {α : Type} (l : List α) : Bool := decide (l.length = 0)
abbrev cpE {α : Type} (l : List α) : Option Nat := if l.length = 0 then some 0 else none
def two (op : Int) : Bool := decide (op = 3) || decide (op = 4)
theorem two_ev (k : Nat) (op : Int) : run (k+1) 123 [ii op] = some (bb (two op)) := by
  rw [run, ev123, ans_trim]
  simp only [Try.f123, EVb, condO_ite, Int.reduceEq, Int.reduceToNat, Int.reduceLE, Int.reduceLT, Int.reduceAdd, Int.reduceMul, Int.reduceSub, Int.reduceNeg, Nat.reduceAdd, Nat.reduceSub, Nat.reduceMul, Nat.reduceLT, Nat.reduceBEq, Nat.reduceEqDiff, Nat.reduceLeDiff, FACTS, TYPES]
  unfold two
  split <;> simp_all only [EVb, condO_ite, Int.reduceEq, Int.reduceToNat, Int.reduceLE, Int.reduceLT, Int.reduceAdd, Int.reduceMul, Int.reduceSub, Int.reduceNeg, Nat.reduceAdd, Nat.reduceSub, Nat.reduceMul, Nat.reduceLT, Nat.reduceBEq, Nat.reduceEqDiff, Nat.reduceLeDiff] <;> simp
def constant (i : Ins) : Bool :=
  if i.op = 5 ∨ i.op = 6 then decide (i.c ≠ 0 ∧ -512 ≤ i.c ∧ i.c ≤ 512)
  else if i.op = 7 ∨ i.op = 8 then decide (1 ≤ i.c ∧ i.c ≤ 64)
  else decide (i.c = 0)
theorem constant_ev (k : Nat) (o t a b c : Int) : run (k+1) 124 [aI o t a b c] = some (bb (constant ⟨o, t, a, b, c⟩)) := by
  rw [run, ev124, ans_trim]
  simp only [Try.f124, aI, ii, EVb, condO_ite, Int.reduceEq, Int.reduceToNat, Int.reduceLE, Int.reduceLT, Int.reduceAdd, Int.reduceMul, Int.reduceSub, Int.reduceNeg, Nat.reduceAdd, Nat.reduceSub, Nat.reduceMul, Nat.reduceLT, Nat.reduceBEq, Nat.reduceEqDiff, Nat.reduceLeDiff, FACTS, TYPES]
  repeat' (split <;> simp only [*, EVb, condO_ite, Int.reduceEq, Int.reduceToNat, Int.reduceLE, Int.reduceLT, Int.reduceAdd, Int.reduceMul, Int.reduceSub, Int.reduceNeg, Nat.reduceAdd, Nat.reduceSub, Nat.reduceMul, Nat.reduceLT, Nat.reduceBEq, Nat.reduceEqDiff, Nat.reduceLeDiff, FACTS])
  all_goals simp [constant, *]
/-- What an instruction asks. -/
def asks (i : Ins) : List Int := if i.op = 3 ∨ i.op = 4 then [i.a, i.b] else if 1 ≤ i.op ∧ i.op ≤ 8 then [i.a] else []
def encInts (l : List Int) : List IV := l.map (.int .i64)
/-- A slice of numbers. -/
abbrev sI (l : List Int) (nl : Bool) (cap : Option Nat) : AV := .c (.slice (encInts l) l.length nl cap)
abbrev sE (l : List Int) : AV := sI l (nlE l) (cpE l)
theorem asks_ev (k : Nat) (o t a b c : Int) : run (k+1) 79 [aI o t a b c] = some (sE (asks ⟨o, t, a, b, c⟩)) := by
  rw [run, ev79, ans_trim]
  simp only [Try.f79, aI, ii, EVb, condO_ite, Int.reduceEq, Int.reduceToNat, Int.reduceLE, Int.reduceLT, Int.reduceAdd, Int.reduceMul, Int.reduceSub, Int.reduceNeg, Nat.reduceAdd, Nat.reduceSub, Nat.reduceMul, Nat.reduceLT, Nat.reduceBEq, Nat.reduceEqDiff, Nat.reduceLeDiff, FACTS, TYPES]
  repeat' (split <;> simp only [*, EVb, condO_ite, Int.reduceEq, Int.reduceToNat, Int.reduceLE, Int.reduceLT, Int.reduceAdd, Int.reduceMul, Int.reduceSub, Int.reduceNeg, Nat.reduceAdd, Nat.reduceSub, Nat.reduceMul, Nat.reduceLT, Nat.reduceBEq, Nat.reduceEqDiff, Nat.reduceLeDiff, FACTS])
  all_goals simp [asks, encInts, *]
  all_goals (have hn : ¬ (1 ≤ o ∧ o ≤ 8) := by omega); (simp only [hn, if_false]; exact ⟨fun _ => by omega, rfl, fun _ => by omega⟩)
def mayM (i : Ins) (regs : Int) : Bool :=
  decide (1 ≤ i.op ∧ i.op ≤ 8 ∧ 0 ≤ i.to ∧ i.to < regs ∧ (i.op = 3 ∨ i.op = 4 ∨ i.b = 0)) && constant i && decide (0 ≤ i.a ∧ i.a < regs) && decide ((i.op = 3 ∨ i.op = 4) → 0 ≤ i.b ∧ i.b < regs)
theorem asks_two {i : Ins} (h : i.op = 3 ∨ i.op = 4) : asks i = [i.a, i.b] := if_pos h
theorem asks_one {i : Ins} (h : ¬ (i.op = 3 ∨ i.op = 4)) (h2 : 1 ≤ i.op ∧ i.op ≤ 8) : asks i = [i.a] := by unfold asks; rw [if_neg h, if_pos h2]
theorem may_ev (k : Nat) (o t a b c regs : Int) : run (k+4) 100 [aI o t a b c, ii regs] = some (bb (mayM ⟨o, t, a, b, c⟩ regs)) := by
  rw [run, ev100, ans_trim]
  simp only [Try.f100, aI, ii, bb, EVb, condO_ite, Int.reduceEq, Int.reduceToNat, Int.reduceLE, Int.reduceLT, Int.reduceAdd, Int.reduceMul, Int.reduceSub, Int.reduceNeg, Nat.reduceAdd, Nat.reduceSub, Nat.reduceMul, Nat.reduceLT, Nat.reduceBEq, Nat.reduceEqDiff, Nat.reduceLeDiff, FACTS, TYPES, two_ev, constant_ev, asks_ev]
  repeat' (split <;> simp only [*, EVb, condO_ite, Int.reduceEq, Int.reduceToNat, Int.reduceLE, Int.reduceLT, Int.reduceAdd, Int.reduceMul, Int.reduceSub, Int.reduceNeg, Nat.reduceAdd, Nat.reduceSub, Nat.reduceMul, Nat.reduceLT, Nat.reduceBEq, Nat.reduceEqDiff, Nat.reduceLeDiff, FACTS, two_ev, constant_ev, asks_ev])
  all_goals first
    | (simp [mayM, two, *] at *; omega)
    | (simp [mayM, two, *] at *; done)
    | skip
  · rw [asks_two (i := ⟨o, t, a, b, c⟩) (by simp [two] at *; simp [*])]
    simp only [sI, encInts, List.map_cons, List.map_nil, EVb, condO_ite, Int.reduceEq, Int.reduceToNat, Int.reduceLE, Int.reduceLT, Int.reduceAdd, Int.reduceMul, Int.reduceSub, Int.reduceNeg, Nat.reduceAdd, Nat.reduceSub, Nat.reduceMul, Nat.reduceLT, Nat.reduceBEq, Nat.reduceEqDiff, Nat.reduceLeDiff, FACTS]
    rw [evalCode_loopB LB100_4 lp100_4]; rotate_left; rfl; rfl; rfl
    simp only [sI, encInts, List.map_cons, List.map_nil, loopR_succ, loopOf, findLoop, firstRegion, Option.some_or, Option.none_or, Option.getD_some, Option.some.injEq, Try.f100, EVb, condO_ite, Int.reduceEq, Int.reduceToNat, Int.reduceLE, Int.reduceLT, Int.reduceAdd, Int.reduceMul, Int.reduceSub, Int.reduceNeg, Nat.reduceAdd, Nat.reduceSub, Nat.reduceMul, Nat.reduceLT, Nat.reduceBEq, Nat.reduceEqDiff, Nat.reduceLeDiff, FACTS]
    repeat' (split <;> simp only [*, sI, encInts, List.map_cons, List.map_nil, loopR_succ, loopOf, findLoop, firstRegion, Option.some_or, Option.none_or, Try.f100, EVb, condO_ite, Int.reduceEq, Int.reduceToNat, Int.reduceLE, Int.reduceLT, Int.reduceAdd, Int.reduceMul, Int.reduceSub, Int.reduceNeg, Nat.reduceAdd, Nat.reduceSub, Nat.reduceMul, Nat.reduceLT, Nat.reduceBEq, Nat.reduceEqDiff, Nat.reduceLeDiff, FACTS])
    all_goals (simp [mayM, two, *] at *; try omega)
  · rw [asks_one (i := ⟨o, t, a, 0, c⟩) (by simp [two] at *; simp [*]) (by simp; omega)]
    simp only [sI, encInts, List.map_cons, List.map_nil, EVb, condO_ite, Int.reduceEq, Int.reduceToNat, Int.reduceLE, Int.reduceLT, Int.reduceAdd, Int.reduceMul, Int.reduceSub, Int.reduceNeg, Nat.reduceAdd, Nat.reduceSub, Nat.reduceMul, Nat.reduceLT, Nat.reduceBEq, Nat.reduceEqDiff, Nat.reduceLeDiff, FACTS]
    rw [evalCode_loopB LB100_4 lp100_4]; rotate_left; rfl; rfl; rfl
    simp only [sI, encInts, List.map_cons, List.map_nil, loopR_succ, loopOf, findLoop, firstRegion, Option.some_or, Option.none_or, Option.getD_some, Option.some.injEq, Try.f100, EVb, condO_ite, Int.reduceEq, Int.reduceToNat, Int.reduceLE, Int.reduceLT, Int.reduceAdd, Int.reduceMul, Int.reduceSub, Int.reduceNeg, Nat.reduceAdd, Nat.reduceSub, Nat.reduceMul, Nat.reduceLT, Nat.reduceBEq, Nat.reduceEqDiff, Nat.reduceLeDiff, FACTS]
    repeat' (split <;> simp only [*, sI, encInts, List.map_cons, List.map_nil, loopR_succ, loopOf, findLoop, firstRegion, Option.some_or, Option.none_or, Try.f100, EVb, condO_ite, Int.reduceEq, Int.reduceToNat, Int.reduceLE, Int.reduceLT, Int.reduceAdd, Int.reduceMul, Int.reduceSub, Int.reduceNeg, Nat.reduceAdd, Nat.reduceSub, Nat.reduceMul, Nat.reduceLT, Nat.reduceBEq, Nat.reduceEqDiff, Nat.reduceLeDiff, FACTS])
    all_goals (simp [mayM, two, *] at *; try omega)
end Go.Proofs.Sw
