/- A part of the proof: what functions of the program answer, of whatever arguments, reckoned with letters by the interpreter's equations. Its conditions stand in each theorem. -/
import Derived.Test.YtefdgfdahmaciaaWFacts
namespace Go.Proofs.Sw
set_option linter.unusedVariables false
set_option linter.unusedSimpArgs false
set_option linter.unusedSectionVars false
open Go.Ab
variable [Globals]
structure Ins where
  op : Int
  to : Int
  a : Int
  b : Int
  c : Int
  deriving DecidableEq
abbrev ii (n : Int) : AV := .c (.int .i64 n)
abbrev bb (n : Bool) : AV := .c (.bool n)
abbrev aI (o t a b c : Int) : AV := .agg [ii o, ii t, ii a, ii b, ii c]
abbrev encI (i : Ins) : AV := .agg [ii i.op, ii i.to, ii i.a, ii i.b, ii i.c]
noncomputable abbrev run (k f : Nat) (args : List AV) : Option AV := ans (evalT Try.prog (mkHints tab) k (.fn f) args [])
/-- Lists that never change: a list's slice is nil where it is empty. -/
abbrev nlE {α : Type} (l : List α) : Bool := decide (l.length = 0)
abbrev cpE {α : Type} (l : List α) : Option Nat := if l.length = 0 then some 0 else none
def two (op : Int) : Bool := decide (op = 3) || decide (op = 4)
theorem two_ev (k : Nat) (op : Int) : run (k+1) 123 [ii op] = some (bb (two op)) := by
  rw [run, ev123, ans_trim]
  simp only [Try.f123, EVb, condO_ite, Int.reduceEq, Int.reduceToNat, Int.reduceLE, Int.reduceLT, Int.reduceAdd, Int.reduceMul, Int.reduceSub, Int.reduceNeg, Nat.reduceAdd, Nat.reduceSub, Nat.reduceMul, Nat.reduceLT, Nat.reduceBEq, Nat.reduceEqDiff, Nat.reduceLeDiff, FACTS, TYPES]
  unfold two
  split <;> simp_all only [EVb, condO_ite, Int.reduceEq, Int.reduceToNat, Int.reduceLE, Int.reduceLT, Int.reduceAdd, Int.reduceMul, Int.reduceSub, Int.reduceNeg, Nat.reduceAdd, Nat.reduceSub, Nat.reduceMul, Nat.reduceLT, Nat.reduceBEq, Nat.reduceEqDiff, Nat.reduceLeDiff] <;> simp
def constant (i : Ins) : Bool :=
  if i.op = 5 ∨ i.op = 6 then decide (i.c ≠ 0 ∧ -512 ≤ i.c ∧ i.c ≤ 512)
  else if i.op = 7 ∨ i.op = 8 then decide (1 ≤ i.c ∧ i.c ≤ 64)
  else decide (i.c = 0)
theorem constant_ev (k : Nat) (o t a b c : Int) : run (k+1) 124 [aI o t a b c] = some (bb (constant ⟨o, t, a, b, c⟩)) := by
  rw [run, ev124, ans_trim]
  simp only [Try.f124, aI, ii, EVb, condO_ite, Int.reduceEq, Int.reduceToNat, Int.reduceLE, Int.reduceLT, Int.reduceAdd, Int.reduceMul, Int.reduceSub, Int.reduceNeg, Nat.reduceAdd, Nat.reduceSub, Nat.reduceMul, Nat.reduceLT, Nat.reduceBEq, Nat.reduceEqDiff, Nat.reduceLeDiff, FACTS, TYPES]
  repeat' (split <;> simp only [*, EVb, condO_ite, Int.reduceEq, Int.reduceToNat, Int.reduceLE, Int.reduceLT, Int.reduceAdd, Int.reduceMul, Int.reduceSub, Int.reduceNeg, Nat.reduceAdd, Nat.reduceSub, Nat.reduceMul, Nat.reduceLT, Nat.reduceBEq, Nat.reduceEqDiff, Nat.reduceLeDiff, FACTS])
  all_goals simp [constant, *]
/-- What an instruction asks. -/
def asks (i : Ins) : List Int := if i.op = 3 ∨ i.op = 4 then [i.a, i.b] else if 1 ≤ i.op ∧ i.op ≤ 8 then [i.a] else []
def encInts (l : List Int) : List IV := l.map (.int .i64)
/-- A slice of numbers. -/
abbrev sI (l : List Int) (nl : Bool) (cap : Option Nat) : AV := .c (.slice (encInts l) l.length nl cap)
abbrev sE (l : List Int) : AV := sI l (nlE l) (cpE l)
theorem asks_ev (k : Nat) (o t a b c : Int) : run (k+1) 79 [aI o t a b c] = some (sE (asks ⟨o, t, a, b, c⟩)) := by
  rw [run, ev79, ans_trim]
  simp only [Try.f79, aI, ii, EVb, condO_ite, Int.reduceEq, Int.reduceToNat, Int.reduceLE, Int.reduceLT, Int.reduceAdd, Int.reduceMul, Int.reduceSub, Int.reduceNeg, Nat.reduceAdd, Nat.reduceSub, Nat.reduceMul, Nat.reduceLT, Nat.reduceBEq, Nat.reduceEqDiff, Nat.reduceLeDiff, FACTS, TYPES]
  repeat' (split <;> simp only [*, EVb, condO_ite, Int.reduceEq, Int.reduceToNat, Int.reduceLE, Int.reduceLT, Int.reduceAdd, Int.reduceMul, Int.reduceSub, Int.reduceNeg, Nat.reduceAdd, Nat.reduceSub, Nat.reduceMul, Nat.reduceLT, Nat.reduceBEq, Nat.reduceEqDiff, Nat.reduceLeDiff, FACTS])
  all_goals simp [asks, encInts, *]
  all_goals (have hn : ¬ (1 ≤ o ∧ o ≤ 8) := by omega); (simp only [hn, if_false]; exact ⟨fun _ => by omega, rfl, fun _ => by omega⟩)
def mayM (i : Ins) (regs : Int) : Bool :=
  decide (1 ≤ i.op ∧ i.op ≤ 8 ∧ 0 ≤ i.to ∧ i.to < regs ∧ (i.op = 3 ∨ i.op = 4 ∨ i.b = 0)) && constant i && decide (0 ≤ i.a ∧ i.a < regs) && decide ((i.op = 3 ∨ i.op = 4) → 0 ≤ i.b ∧ i.b < regs)
theorem asks_two {i : Ins} (h : i.op = 3 ∨ i.op = 4) : asks i = [i.a, i.b] := if_pos h
theorem asks_one {i : Ins} (h : ¬ (i.op = 3 ∨ i.op = 4)) (h2 : 1 ≤ i.op ∧ i.op ≤ 8) : asks i = [i.a] := by unfold asks; rw [if_neg h, if_pos h2]
theorem may_ev (k : Nat) (o t a b c regs : Int) : run (k+4) 100 [aI o t a b c, ii regs] = some (bb (mayM ⟨o, t, a, b, c⟩ regs)) := by
  rw [run, ev100, ans_trim]
  simp only [Try.f100, aI, ii, bb, EVb, condO_ite, Int.reduceEq, Int.reduceToNat, Int.reduceLE, Int.reduceLT, Int.reduceAdd, Int.reduceMul, Int.reduceSub, Int.reduceNeg, Nat.reduceAdd, Nat.reduceSub, Nat.reduceMul, Nat.reduceLT, Nat.reduceBEq, Nat.reduceEqDiff, Nat.reduceLeDiff, FACTS, TYPES, two_ev, constant_ev, asks_ev]
  repeat' (split <;> simp only [*, EVb, condO_ite, Int.reduceEq, Int.reduceToNat, Int.reduceLE, Int.reduceLT, Int.reduceAdd, Int.reduceMul, Int.reduceSub, Int.reduceNeg, Nat.reduceAdd, Nat.reduceSub, Nat.reduceMul, Nat.reduceLT, Nat.reduceBEq, Nat.reduceEqDiff, Nat.reduceLeDiff, FACTS, two_ev, constant_ev, asks_ev])
  all_goals first
    | (simp [mayM, two, *] at *; omega)
    | (simp [mayM, two, *] at *; done)
    | skip
  · rw [asks_two (i := ⟨o, t, a, b, c⟩) (by simp [two] at *; simp [*])]
    simp only [sI, encInts, List.map_cons, List.map_nil, EVb, condO_ite, Int.reduceEq, Int.reduceToNat, Int.reduceLE, Int.reduceLT, Int.reduceAdd, Int.reduceMul, Int.reduceSub, Int.reduceNeg, Nat.reduceAdd, Nat.reduceSub, Nat.reduceMul, Nat.reduceLT, Nat.reduceBEq, Nat.reduceEqDiff, Nat.reduceLeDiff, FACTS]
    rw [evalCode_loopB LB100_4 lp100_4]; rotate_left; rfl; rfl; rfl
    simp only [sI, encInts, List.map_cons, List.map_nil, loopR_succ, loopOf, findLoop, firstRegion, Option.some_or, Option.none_or, Option.getD_some, Option.some.injEq, Try.f100, EVb, condO_ite, Int.reduceEq, Int.reduceToNat, Int.reduceLE, Int.reduceLT, Int.reduceAdd, Int.reduceMul, Int.reduceSub, Int.reduceNeg, Nat.reduceAdd, Nat.reduceSub, Nat.reduceMul, Nat.reduceLT, Nat.reduceBEq, Nat.reduceEqDiff, Nat.reduceLeDiff, FACTS]
    repeat' (split <;> simp only [*, sI, encInts, List.map_cons, List.map_nil, loopR_succ, loopOf, findLoop, firstRegion, Option.some_or, Option.none_or, Try.f100, EVb, condO_ite, Int.reduceEq, Int.reduceToNat, Int.reduceLE, Int.reduceLT, Int.reduceAdd, Int.reduceMul, Int.reduceSub, Int.reduceNeg, Nat.reduceAdd, Nat.reduceSub, Nat.reduceMul, Nat.reduceLT, Nat.reduceBEq, Nat.reduceEqDiff, Nat.reduceLeDiff, FACTS])
    all_goals (simp [mayM, two, *] at *; try omega)
  · rw [asks_one (i := ⟨o, t, a, 0, c⟩) (by simp [two] at *; simp [*]) (by simp; omega)]
    simp only [sI, encInts, List.map_cons, List.map_nil, EVb, condO_ite, Int.reduceEq, Int.reduceToNat, Int.reduceLE, Int.reduceLT, Int.reduceAdd, Int.reduceMul, Int.reduceSub, Int.reduceNeg, Nat.reduceAdd, Nat.reduceSub, Nat.reduceMul, Nat.reduceLT, Nat.reduceBEq, Nat.reduceEqDiff, Nat.reduceLeDiff, FACTS]
    rw [evalCode_loopB LB100_4 lp100_4]; rotate_left; rfl; rfl; rfl
    simp only [sI, encInts, List.map_cons, List.map_nil, loopR_succ, loopOf, findLoop, firstRegion, Option.some_or, Option.none_or, Option.getD_some, Option.some.injEq, Try.f100, EVb, condO_ite, Int.reduceEq, Int.reduceToNat, Int.reduceLE, Int.reduceLT, Int.reduceAdd, Int.reduceMul, Int.reduceSub, Int.reduceNeg, Nat.reduceAdd, Nat.reduceSub, Nat.reduceMul, Nat.reduceLT, Nat.reduceBEq, Nat.reduceEqDiff, Nat.reduceLeDiff, FACTS]
    repeat' (split <;> simp only [*, sI, encInts, List.map_cons, List.map_nil, loopR_succ, loopOf, findLoop, firstRegion, Option.some_or, Option.none_or, Try.f100, EVb, condO_ite, Int.reduceEq, Int.reduceToNat, Int.reduceLE, Int.reduceLT, Int.reduceAdd, Int.reduceMul, Int.reduceSub, Int.reduceNeg, Nat.reduceAdd, Nat.reduceSub, Nat.reduceMul, Nat.reduceLT, Nat.reduceBEq, Nat.reduceEqDiff, Nat.reduceLeDiff, FACTS])
    all_goals (simp [mayM, two, *] at *; try omega)
end Go.Proofs.Sw
namespace Go.Proofs.Sw
set_option linter.unusedVariables false
set_option linter.unusedSimpArgs false
set_option linter.unusedSectionVars false
open Go.Ab
variable [Globals]
abbrev enc1 (i : Ins) : List IV := [.int .i64 i.op, .int .i64 i.to, .int .i64 i.a, .int .i64 i.b, .int .i64 i.c]
def encCode : List Ins → List IV
  | [] => []
  | i :: l => enc1 i ++ encCode l
theorem encInts_length (l : List Int) : (encInts l).length = l.length := by simp [encInts]
theorem encInts_append (l m : List Int) : encInts (l ++ m) = encInts l ++ encInts m := by simp [encInts]
theorem encCode_length : ∀ (l : List Ins), (encCode l).length = l.length * 5
  | [] => rfl
  | i :: l => by rw [encCode, List.length_append, encCode_length l]; simp; omega
theorem encCode_append : ∀ (l m : List Ins), encCode (l ++ m) = encCode l ++ encCode m
  | [], m => rfl
  | i :: l, m => by rw [List.cons_append, encCode, encCode, encCode_append l m, List.append_assoc]
theorem encInts_get {l : List Int} {i : Nat} (h : i < l.length) : (encInts l)[i]? = some (.int .i64 l[i]) := by
  simp [encInts, h]
theorem encCode_drop : ∀ (l : List Ins) (i : Nat), (encCode l).drop (i * 5) = encCode (l.drop i)
  | [], i => by simp [encCode]
  | x :: l, 0 => by simp
  | x :: l, i + 1 => by
    rw [encCode, List.drop_succ_cons, ← encCode_drop l i, show (i + 1) * 5 = (enc1 x).length + i * 5 by simp; omega, List.drop_append]
    simp
theorem encCode_get {l : List Ins} {i : Nat} (h : i < l.length) : (if i * 5 + 5 ≤ (encCode l).length then some (((encCode l).drop (i * 5)).take 5) else none) = some (enc1 l[i]) := by
  rw [encCode_length, if_pos (by omega), encCode_drop]
  have : l.drop i = l[i] :: l.drop (i + 1) := (List.drop_eq_getElem_cons h)
  rw [this, encCode]
  simp
/-- The next number of a loop. -/
theorem wrap_succ {i n : Nat} (h : i < n) (hn : n ≤ 4611686018427387904) : IntKind.wrap .i64 ((i : Int) + 1) = ((i + 1 : Nat) : Int) := by
  rw [wrap64 (by omega) (by omega)]; simp
structure Pg where
  ins : Int
  regs : Int
  code : List Ins
  outs : List Int
  deriving DecidableEq
abbrev sC (code : List Ins) (nl : Bool) (cap : Option Nat) : AV := .c (.slice (encCode code) code.length nl cap)
/-- A program's cells. -/
abbrev aP (p : Pg) (nl : Bool) (cap : Option Nat) (nl2 : Bool) (cap2 : Option Nat) : AV := .agg [ii p.ins, ii p.regs, sC p.code nl cap, sI p.outs nl2 cap2]
abbrev cP (ins regs : Int) (v ov : AV) : AObj := .cells 25 [ii ins, ii regs, v, ov]
def headM (p : Pg) : Bool := decide (1 ≤ p.ins ∧ p.ins ≤ p.regs ∧ p.regs ≤ 128 ∧ p.code.length ≤ 16384 ∧ 1 ≤ p.outs.length ∧ p.outs.length ≤ 128)
def outsM (p : Pg) : Bool := p.outs.all (fun r => decide (0 ≤ r ∧ r < p.regs))
def codeM (p : Pg) : Bool := p.code.all (fun i => mayM i p.regs)
def rightM (p : Pg) : Bool := headM p && outsM p && codeM p
def checkE (p : Pg) : Int := if rightM p then 0 else 80
section
variable (kf : Nat) (ins regs : Int) (cv ov : AV)
theorem loop_Check_4 (outs : List Int) (nl : Bool) (cap : Option Nat) (hlen : outs.length ≤ 4611686018427387904) (k : Nat) (l : Ass) (H : Heap) (z : Option Out)
    (hz : loopR Try.prog tab kf none LB62_4 62 72 [1, 42, 43, 44] 1 k l H = z) (hk : outs.length < k)
    (h1 : asc l 1 = .ptr 0 0) (h42 : asc l 42 = sI outs nl cap) (h43 : asc l 43 = ii outs.length) (h44 : asc l 44 = ii (0 : Nat)) (hH : H = [cP ins regs cv ov]) :
    ∃ l', (z = some (.exit 0 (fr 72 l') H) ∧ asc l' 1 = .ptr 0 0 ∧ outs.all (fun r => decide (0 ≤ r ∧ r < regs)) = true) ∨
      (z = some (.ret (fr 72 l') H) ∧ asc l' 2 = ii (-1) ∧ asc l' 3 = ii 80 ∧ outs.all (fun r => decide (0 ≤ r ∧ r < regs)) = false) := by
  subst hH
  subst hz
  refine loop_nat outs.length (fun k l H => loopR Try.prog tab kf none LB62_4 62 72 [1, 42, 43, 44] 1 k l H)
    (fun i l H => asc l 1 = .ptr 0 0 ∧ asc l 42 = sI outs nl cap ∧ asc l 43 = ii outs.length ∧ asc l 44 = ii i ∧ (∀ j, (h : j < i) → ∀ h2 : j < outs.length, 0 ≤ outs[j] ∧ outs[j] < regs) ∧ H = [cP ins regs cv ov])
    (fun z => ∃ l', (z = some (.exit 0 (fr 72 l') [cP ins regs cv ov]) ∧ asc l' 1 = .ptr 0 0 ∧ outs.all (fun r => decide (0 ≤ r ∧ r < regs)) = true) ∨
      (z = some (.ret (fr 72 l') [cP ins regs cv ov]) ∧ asc l' 2 = ii (-1) ∧ asc l' 3 = ii 80 ∧ outs.all (fun r => decide (0 ≤ r ∧ r < regs)) = false)) ?_ outs.length 0 k l _ (by omega) hk ⟨h1, h42, h43, h44, fun j h => absurd h (by omega), rfl⟩
  clear h1 h42 h43 h44 hk
  rintro i k l H hi ⟨h1, h42, h43, h44, hp, rfl⟩
  by_cases hc : i < outs.length
  · have hc' : ((i : Int) < outs.length) := by omega
    have hc0 : (0 : Int) ≤ i := by omega
    have hx := encInts_get hc
    have hw := wrap_succ hc hlen
    have hall : ¬ (0 ≤ outs[i] ∧ outs[i] < regs) → outs.all (fun r => decide (0 ≤ r ∧ r < regs)) = false := fun h => by
      rw [List.all_eq_false]; exact ⟨outs[i], List.getElem_mem hc, by simpa using h⟩
    by_cases hr : outs[i] < 0
    · refine .inl ?_
      simp only [h1, h42, h43, h44, hc', hc0, hx, hr, loopR_succ, loopOf, findLoop, firstRegion, Option.some_or, Option.none_or, Option.getD_some, Option.some.injEq, Try.f62, EVb, EVc, Int.reduceEq, Int.reduceToNat, Int.reduceLE, Int.reduceLT, Int.reduceAdd, Int.reduceMul, Int.reduceSub, Int.reduceNeg, Nat.reduceAdd, Nat.reduceSub, Nat.reduceMul, Nat.reduceLT, Nat.reduceBEq, Nat.reduceEqDiff, Nat.reduceLeDiff, FACTS]
      exact ⟨_, .inr ⟨rfl, (by rfl), (by rfl), hall (by omega)⟩⟩
    · by_cases hr2 : regs ≤ outs[i]
      · refine .inl ?_
        simp only [h1, h42, h43, h44, hc', hc0, hx, hr, hr2, loopR_succ, loopOf, findLoop, firstRegion, Option.some_or, Option.none_or, Option.getD_some, Option.some.injEq, Try.f62, EVb, EVc, Int.reduceEq, Int.reduceToNat, Int.reduceLE, Int.reduceLT, Int.reduceAdd, Int.reduceMul, Int.reduceSub, Int.reduceNeg, Nat.reduceAdd, Nat.reduceSub, Nat.reduceMul, Nat.reduceLT, Nat.reduceBEq, Nat.reduceEqDiff, Nat.reduceLeDiff, FACTS]
        exact ⟨_, .inr ⟨rfl, (by rfl), (by rfl), hall (by omega)⟩⟩
      · refine .inr ?_
        simp only [h1, h42, h43, h44, hc', hc0, hx, hr, hr2, hw, loopR_succ, loopOf, findLoop, firstRegion, Option.some_or, Option.none_or, Option.getD_some, Option.some.injEq, Try.f62, EVb, EVc, Int.reduceEq, Int.reduceToNat, Int.reduceLE, Int.reduceLT, Int.reduceAdd, Int.reduceMul, Int.reduceSub, Int.reduceNeg, Nat.reduceAdd, Nat.reduceSub, Nat.reduceMul, Nat.reduceLT, Nat.reduceBEq, Nat.reduceEqDiff, Nat.reduceLeDiff, FACTS]
        refine ⟨_, _, hc, rfl, (by rfl), (by rfl), (by rfl), (by rfl), fun j hj h2 => ?_, rfl⟩
        by_cases e : j = i
        · subst e; omega
        · exact hp j (by omega) h2
  · have hc' : ¬ ((i : Int) < outs.length) := by omega
    refine .inl ?_
    simp only [h1, h42, h43, h44, hc', loopR_succ, loopOf, findLoop, firstRegion, Option.some_or, Option.none_or, Option.getD_some, Option.some.injEq, Try.f62, EVb, EVc, Int.reduceEq, Int.reduceToNat, Int.reduceLE, Int.reduceLT, Int.reduceAdd, Int.reduceMul, Int.reduceSub, Int.reduceNeg, Nat.reduceAdd, Nat.reduceSub, Nat.reduceMul, Nat.reduceLT, Nat.reduceBEq, Nat.reduceEqDiff, Nat.reduceLeDiff, FACTS]
    refine ⟨_, .inl ⟨rfl, (by rfl), ?_⟩⟩
    rw [List.all_eq_true]
    intro x hx
    obtain ⟨j, hj, rfl⟩ := List.getElem_of_mem hx
    simpa using hp j (by omega) hj
end
end Go.Proofs.Sw
namespace Go.Proofs.Sw
set_option linter.unusedVariables false
set_option linter.unusedSimpArgs false
set_option linter.unusedSectionVars false
open Go.Ab
variable [Globals]
theorem all_of {α : Type} {l : List α} {p : α → Bool} (h : ∀ j, (h : j < l.length) → p l[j] = true) : l.all p = true := by
  rw [List.all_eq_true]
  intro x hx
  obtain ⟨j, hj, rfl⟩ := List.getElem_of_mem hx
  exact h j hj
theorem all_not {α : Type} {l : List α} {p : α → Bool} {i : Nat} (h : i < l.length) (hp : p l[i] = false) : l.all p = false := by
  rw [List.all_eq_false]; exact ⟨l[i], List.getElem_mem h, by simp [hp]⟩
theorem loop_Check_10 (kf : Nat) (hkf : 4 ≤ kf) (ins regs : Int) (ov : IV) (code : List Ins) (nl : Bool) (cap : Option Nat) (hlen : code.length ≤ 4611686018427387904) (k : Nat) (l : Ass) (H : Heap) (z : Option Out)
    (hz : loopR Try.prog tab kf none LB62_10 62 72 [1, 58, 59, 60] 1 k l H = z) (hk : code.length < k)
    (h1 : asc l 1 = .ptr 0 0) (h58 : asc l 58 = sC code nl cap) (h59 : asc l 59 = ii code.length) (h60 : asc l 60 = ii (0 : Nat)) (hH : H = [cP ins regs (sC code nl cap) (.c ov)]) :
    ∃ l' H', (z = some (.exit 2 (fr 72 l') H') ∧ code.all (fun i => mayM i regs) = true) ∨
      (z = some (.ret (fr 72 l') H') ∧ (∃ n, asc l' 2 = ii n) ∧ asc l' 3 = ii 80 ∧ code.all (fun i => mayM i regs) = false) := by
  subst hz
  obtain ⟨kf, rfl⟩ : ∃ j, kf = j + 4 := ⟨kf - 4, by omega⟩
  refine loop_nat code.length (fun k l H => loopR Try.prog tab (kf + 4) none LB62_10 62 72 [1, 58, 59, 60] 1 k l H)
    (fun i l H => asc l 1 = .ptr 0 0 ∧ asc l 58 = sC code nl cap ∧ asc l 59 = ii code.length ∧ asc l 60 = ii i ∧ (∀ j, (h : j < i) → ∀ h2 : j < code.length, mayM code[j] regs = true) ∧ H.take 1 = [cP ins regs (sC code nl cap) (.c ov)])
    (fun z => ∃ l' H', (z = some (.exit 2 (fr 72 l') H') ∧ code.all (fun i => mayM i regs) = true) ∨
      (z = some (.ret (fr 72 l') H') ∧ (∃ n, asc l' 2 = ii n) ∧ asc l' 3 = ii 80 ∧ code.all (fun i => mayM i regs) = false)) ?_ code.length 0 k l H (by omega) hk ⟨h1, h58, h59, h60, fun j h => absurd h (by omega), by rw [hH]; rfl⟩
  clear h1 h58 h59 h60 hk hH
  rintro i k l H hi ⟨h1, h58, h59, h60, hp, hH⟩
  have ht : trim 1 (fr 72 (keep l [1, 58, 59, 60])) H = [cP ins regs (sC code nl cap) (.c ov)] := by
    rw [trim_fr (by simp only [h1, h58, h59, h60, EVb, EVc, Int.reduceEq, Int.reduceToNat, Int.reduceLE, Int.reduceLT, Int.reduceAdd, Int.reduceMul, Int.reduceSub, Int.reduceNeg, Nat.reduceAdd, Nat.reduceSub, Nat.reduceMul, Nat.reduceLT, Nat.reduceBEq, Nat.reduceEqDiff, Nat.reduceLeDiff]) (by rw [hH]; simp only [EVb, EVc, Int.reduceEq, Int.reduceToNat, Int.reduceLE, Int.reduceLT, Int.reduceAdd, Int.reduceMul, Int.reduceSub, Int.reduceNeg, Nat.reduceAdd, Nat.reduceSub, Nat.reduceMul, Nat.reduceLT, Nat.reduceBEq, Nat.reduceEqDiff, Nat.reduceLeDiff]), hH]
  by_cases hc : i < code.length
  · have hc' : ((i : Int) < code.length) := by omega
    have hc0 : (0 : Int) ≤ i := by omega
    have hx := encCode_get hc
    have hw := wrap_succ hc hlen
    obtain ⟨x, hX⟩ : ∃ x, x = code[i] := ⟨_, rfl⟩
    rw [← hX] at hx
    have hm := may_ev kf x.op x.to x.a x.b x.c regs
    simp only [run, aI, ii, bb] at hm
    cases hd : mayM x regs with
    | false =>
      rw [show mayM ⟨x.op, x.to, x.a, x.b, x.c⟩ regs = false from hd] at hm
      refine .inl ?_
      simp only [loopR_succ, ht]
      simp only [h1, h58, h59, h60, hc', hc0, hx, hm, loopR_succ, loopOf, findLoop, firstRegion, Option.some_or, Option.none_or, Option.getD_some, Option.some.injEq, Try.f62, EVb, EVc, Int.reduceEq, Int.reduceToNat, Int.reduceLE, Int.reduceLT, Int.reduceAdd, Int.reduceMul, Int.reduceSub, Int.reduceNeg, Nat.reduceAdd, Nat.reduceSub, Nat.reduceMul, Nat.reduceLT, Nat.reduceBEq, Nat.reduceEqDiff, Nat.reduceLeDiff, FACTS, TYPES]
      exact ⟨_, _, .inr ⟨rfl, ⟨_, rfl⟩, (by rfl), all_not hc (by rw [← hX]; exact hd)⟩⟩
    | true =>
      rw [show mayM ⟨x.op, x.to, x.a, x.b, x.c⟩ regs = true from hd] at hm
      refine .inr ?_
      simp only [loopR_succ, ht]
      simp only [h1, h58, h59, h60, hc', hc0, hx, hm, hw, loopR_succ, loopOf, findLoop, firstRegion, Option.some_or, Option.none_or, Option.getD_some, Option.some.injEq, Try.f62, EVb, EVc, Int.reduceEq, Int.reduceToNat, Int.reduceLE, Int.reduceLT, Int.reduceAdd, Int.reduceMul, Int.reduceSub, Int.reduceNeg, Nat.reduceAdd, Nat.reduceSub, Nat.reduceMul, Nat.reduceLT, Nat.reduceBEq, Nat.reduceEqDiff, Nat.reduceLeDiff, FACTS, TYPES]
      refine ⟨_, _, hc, rfl, (by rfl), (by rfl), (by rfl), (by rfl), fun j hj h2 => ?_, (by rfl)⟩
      by_cases e : j = i
      · subst e; rw [← hX]; exact hd
      · exact hp j (by omega) h2
  · have hc' : ¬ ((i : Int) < code.length) := by omega
    refine .inl ?_
    simp only [loopR_succ, ht]
    simp only [h1, h58, h59, h60, hc', loopR_succ, loopOf, findLoop, firstRegion, Option.some_or, Option.none_or, Option.getD_some, Option.some.injEq, Try.f62, EVb, EVc, Int.reduceEq, Int.reduceToNat, Int.reduceLE, Int.reduceLT, Int.reduceAdd, Int.reduceMul, Int.reduceSub, Int.reduceNeg, Nat.reduceAdd, Nat.reduceSub, Nat.reduceMul, Nat.reduceLT, Nat.reduceBEq, Nat.reduceEqDiff, Nat.reduceLeDiff, FACTS, TYPES]
    exact ⟨_, _, .inl ⟨rfl, all_of fun j hj => hp j (by omega) hj⟩⟩
theorem check_ev (k : Nat) (p : Pg) (nl : Bool) (cap : Option Nat) (nl2 : Bool) (cap2 : Option Nat) (hk : p.outs.length + p.code.length + 10 ≤ k) :
    ∃ n, run (k+1) 62 [aP p nl cap nl2 cap2] = some (.tup [ii n, ii (checkE p)]) := by
  obtain ⟨ins, regs, code, outs⟩ := p
  simp only at hk
  rw [run, ev62, ans_trim]
  simp only [Try.f62, aP, ii, bb, EVb, condO_ite, Int.reduceEq, Int.reduceToNat, Int.reduceLE, Int.reduceLT, Int.reduceAdd, Int.reduceMul, Int.reduceSub, Int.reduceNeg, Nat.reduceAdd, Nat.reduceSub, Nat.reduceMul, Nat.reduceLT, Nat.reduceBEq, Nat.reduceEqDiff, Nat.reduceLeDiff, FACTS, TYPES]
  by_cases hm : headM ⟨ins, regs, code, outs⟩ = true
  · have hm' := hm
    simp only [headM, decide_eq_true_eq] at hm'
    have q1 : ¬ ins < 1 := by omega
    have q2 : ¬ regs < ins := by omega
    have q3 : ¬ 128 < regs := by omega
    have q4 : ¬ (16384 : Int) < code.length := by omega
    have q5 : ¬ (outs.length : Int) < 1 := by omega
    have q6 : ¬ (128 : Int) < outs.length := by omega
    simp only [q1, q2, q3, q4, q5, q6, EVb, EVc, Int.reduceEq, Int.reduceToNat, Int.reduceLE, Int.reduceLT, Int.reduceAdd, Int.reduceMul, Int.reduceSub, Int.reduceNeg, Nat.reduceAdd, Nat.reduceSub, Nat.reduceMul, Nat.reduceLT, Nat.reduceBEq, Nat.reduceEqDiff, Nat.reduceLeDiff, FACTS, TYPES]
    rw [evalCode_loopB LB62_4 lp62_4]; rotate_left; rfl; rfl; rfl
    generalize hz : loopR _ _ _ _ _ _ _ _ _ _ _ _ = z
    obtain ⟨l1, ⟨rfl, g1, ho⟩ | ⟨rfl, g1, g2, ho⟩⟩ := loop_Check_4 k ins regs (sC code nl cap) (sI outs nl2 cap2) outs nl2 cap2 (by omega) _ _ _ z hz (by omega) (by rfl) (by rfl) (by rfl) (by rfl) (by rfl)
    · simp only [g1, EVb, EVc, Int.reduceEq, Int.reduceToNat, Int.reduceLE, Int.reduceLT, Int.reduceAdd, Int.reduceMul, Int.reduceSub, Int.reduceNeg, Nat.reduceAdd, Nat.reduceSub, Nat.reduceMul, Nat.reduceLT, Nat.reduceBEq, Nat.reduceEqDiff, Nat.reduceLeDiff, FACTS, TYPES]
      clear hz
      rw [evalCode_loopB LB62_10 lp62_10]; rotate_left; rfl; rfl; rfl
      generalize hz : loopR _ _ _ _ _ _ _ _ _ _ _ _ = z
      obtain ⟨l2, H2, ⟨rfl, hc⟩ | ⟨rfl, ⟨n, g2⟩, g3, hc⟩⟩ := loop_Check_10 k (by omega) ins regs (.slice (encInts outs) outs.length nl2 cap2) code nl cap (by omega) _ _ _ z hz (by omega) (by exact g1) (by rfl) (by rfl) (by rfl) (by rfl)
      · refine ⟨0, ?_⟩
        simp only [EVb, EVc, Int.reduceEq, Int.reduceToNat, Int.reduceLE, Int.reduceLT, Int.reduceAdd, Int.reduceMul, Int.reduceSub, Int.reduceNeg, Nat.reduceAdd, Nat.reduceSub, Nat.reduceMul, Nat.reduceLT, Nat.reduceBEq, Nat.reduceEqDiff, Nat.reduceLeDiff, FACTS, TYPES]
        simp [checkE, rightM, hm, show outsM ⟨ins, regs, code, outs⟩ = _ from ho, show codeM ⟨ins, regs, code, outs⟩ = _ from hc]
      · refine ⟨n, ?_⟩
        simp only [g2, g3, EVb, EVc, Int.reduceEq, Int.reduceToNat, Int.reduceLE, Int.reduceLT, Int.reduceAdd, Int.reduceMul, Int.reduceSub, Int.reduceNeg, Nat.reduceAdd, Nat.reduceSub, Nat.reduceMul, Nat.reduceLT, Nat.reduceBEq, Nat.reduceEqDiff, Nat.reduceLeDiff, FACTS, TYPES]
        simp [checkE, rightM, hm, show outsM ⟨ins, regs, code, outs⟩ = _ from ho, show codeM ⟨ins, regs, code, outs⟩ = _ from hc]
    · refine ⟨-1, ?_⟩
      simp only [g1, g2, EVb, EVc, Int.reduceEq, Int.reduceToNat, Int.reduceLE, Int.reduceLT, Int.reduceAdd, Int.reduceMul, Int.reduceSub, Int.reduceNeg, Nat.reduceAdd, Nat.reduceSub, Nat.reduceMul, Nat.reduceLT, Nat.reduceBEq, Nat.reduceEqDiff, Nat.reduceLeDiff, FACTS, TYPES]
      simp [checkE, rightM, hm, show outsM ⟨ins, regs, code, outs⟩ = _ from ho]
  · refine ⟨-1, ?_⟩
    have hr : checkE ⟨ins, regs, code, outs⟩ = 80 := by simp [checkE, rightM, hm]
    rw [hr]
    simp only [headM, decide_eq_true_eq] at hm
    repeat' (first
    | (rw [condO_dec]; split <;> simp only [*, EVb, EVc, Int.reduceEq, Int.reduceToNat, Int.reduceLE, Int.reduceLT, Int.reduceAdd, Int.reduceMul, Int.reduceSub, Int.reduceNeg, Nat.reduceAdd, Nat.reduceSub, Nat.reduceMul, Nat.reduceLT, Nat.reduceBEq, Nat.reduceEqDiff, Nat.reduceLeDiff, FACTS, TYPES])
    | (rw [condO_ite]; split <;> simp only [*, EVb, EVc, Int.reduceEq, Int.reduceToNat, Int.reduceLE, Int.reduceLT, Int.reduceAdd, Int.reduceMul, Int.reduceSub, Int.reduceNeg, Nat.reduceAdd, Nat.reduceSub, Nat.reduceMul, Nat.reduceLT, Nat.reduceBEq, Nat.reduceEqDiff, Nat.reduceLeDiff, FACTS, TYPES])
    | (split <;> simp only [*, EVb, EVc, Int.reduceEq, Int.reduceToNat, Int.reduceLE, Int.reduceLT, Int.reduceAdd, Int.reduceMul, Int.reduceSub, Int.reduceNeg, Nat.reduceAdd, Nat.reduceSub, Nat.reduceMul, Nat.reduceLT, Nat.reduceBEq, Nat.reduceEqDiff, Nat.reduceLeDiff, FACTS, TYPES]))
    all_goals first
      | rfl
      | (exfalso; omega)
theorem right_ev (k : Nat) (p : Pg) (nl : Bool) (cap : Option Nat) (nl2 : Bool) (cap2 : Option Nat) (hk : p.outs.length + p.code.length + 11 ≤ k) :
    run (k+1) 85 [aP p nl cap nl2 cap2] = some (bb (rightM p)) := by
  obtain ⟨k, rfl⟩ : ∃ j, k = j + 1 := ⟨k - 1, by omega⟩
  obtain ⟨n, hc⟩ := check_ev k p nl cap nl2 cap2 (by omega)
  simp only [run, aP, ii, bb] at hc
  rw [run, ev85, ans_trim]
  simp only [Try.f85, aP, ii, bb, hc, EVb, EVc, Int.reduceEq, Int.reduceToNat, Int.reduceLE, Int.reduceLT, Int.reduceAdd, Int.reduceMul, Int.reduceSub, Int.reduceNeg, Nat.reduceAdd, Nat.reduceSub, Nat.reduceMul, Nat.reduceLT, Nat.reduceBEq, Nat.reduceEqDiff, Nat.reduceLeDiff, FACTS, TYPES]
  cases hr : rightM p <;> simp [checkE, hr]
end Go.Proofs.Sw
