/- A part of the proof: what functions of the program answer, of whatever arguments, reckoned with letters by the interpreter's equations. Its conditions stand in each theorem. -/
import Derived.Test.YtefdgfdahmaciaaWFacts
namespace Go.Proofs.Sw
set_option linter.unusedVariables false
set_option linter.unusedSimpArgs false
set_option linter.unusedSectionVars false
open Go.Ab
variable [Globals]
structure Ins where
  op : Int
  to : Int
  a : Int
  b : Int
  c : Int
  deriving DecidableEq
abbrev ii (n : Int) : AV := .c (.int .i64 n)
abbrev bb (n : Bool) : AV := .c (.bool n)
abbrev aI (o t a b c : Int) : AV := .agg [ii o, ii t, ii a, ii b, ii c]
abbrev encI (i : Ins) : AV := .agg [ii i.op, ii i.to, ii i.a, ii i.b, ii i.c]
noncomputable abbrev run (k f : Nat) (args : List AV) : Option AV := ans (evalT Try.prog (mkHints tab) k (.fn f) args [])
/-- Lists that never change: a list's slice is nil where it is empty. -/
abbrev nlE {α : Type} (l : List α) : Bool := decide (l.length = 0)
abbrev cpE {α : Type} (l : List α) : Option Nat := if l.length = 0 then some 0 else none
def two (op : Int) : Bool := decide (op = 3) || decide (op = 4)
theorem two_ev (k : Nat) (op : Int) : run (k+1) 123 [ii op] = some (bb (two op)) := by
  rw [run, ev123, ans_trim]
  simp only [Try.f123, EVb, condO_ite, Int.reduceEq, Int.reduceToNat, Int.reduceLE, Int.reduceLT, Int.reduceAdd, Int.reduceMul, Int.reduceSub, Int.reduceNeg, Nat.reduceAdd, Nat.reduceSub, Nat.reduceMul, Nat.reduceLT, Nat.reduceBEq, Nat.reduceEqDiff, Nat.reduceLeDiff, FACTS, TYPES]
  unfold two
  split <;> simp_all only [EVb, condO_ite, Int.reduceEq, Int.reduceToNat, Int.reduceLE, Int.reduceLT, Int.reduceAdd, Int.reduceMul, Int.reduceSub, Int.reduceNeg, Nat.reduceAdd, Nat.reduceSub, Nat.reduceMul, Nat.reduceLT, Nat.reduceBEq, Nat.reduceEqDiff, Nat.reduceLeDiff] <;> simp
def constant (i : Ins) : Bool :=
  if i.op = 5 ∨ i.op = 6 then decide (i.c ≠ 0 ∧ -512 ≤ i.c ∧ i.c ≤ 512)
  else if i.op = 7 ∨ i.op = 8 then decide (1 ≤ i.c ∧ i.c ≤ 64)
  else decide (i.c = 0)
theorem constant_ev (k : Nat) (o t a b c : Int) : run (k+1) 124 [aI o t a b c] = some (bb (constant ⟨o, t, a, b, c⟩)) := by
  rw [run, ev124, ans_trim]
  simp only [Try.f124, aI, ii, EVb, condO_ite, Int.reduceEq, Int.reduceToNat, Int.reduceLE, Int.reduceLT, Int.reduceAdd, Int.reduceMul, Int.reduceSub, Int.reduceNeg, Nat.reduceAdd, Nat.reduceSub, Nat.reduceMul, Nat.reduceLT, Nat.reduceBEq, Nat.reduceEqDiff, Nat.reduceLeDiff, FACTS, TYPES]
  repeat' (split <;> simp only [*, EVb, condO_ite, Int.reduceEq, Int.reduceToNat, Int.reduceLE, Int.reduceLT, Int.reduceAdd, Int.reduceMul, Int.reduceSub, Int.reduceNeg, Nat.reduceAdd, Nat.reduceSub, Nat.reduceMul, Nat.reduceLT, Nat.reduceBEq, Nat.reduceEqDiff, Nat.reduceLeDiff, FACTS])
  all_goals simp [constant, *]
/-- What an instruction asks. -/
def asks (i : Ins) : List Int := if i.op = 3 ∨ i.op = 4 then [i.a, i.b] else if 1 ≤ i.op ∧ i.op ≤ 8 then [i.a] else []
def encInts (l : List Int) : List IV := l.map (.int .i64)
/-- A slice of numbers. -/
abbrev sI (l : List Int) (nl : Bool) (cap : Option Nat) : AV := .c (.slice (encInts l) l.length nl cap)
abbrev sE (l : List Int) : AV := sI l (nlE l) (cpE l)
theorem asks_ev (k : Nat) (o t a b c : Int) : run (k+1) 79 [aI o t a b c] = some (sE (asks ⟨o, t, a, b, c⟩)) := by
  rw [run, ev79, ans_trim]
  simp only [Try.f79, aI, ii, EVb, condO_ite, Int.reduceEq, Int.reduceToNat, Int.reduceLE, Int.reduceLT, Int.reduceAdd, Int.reduceMul, Int.reduceSub, Int.reduceNeg, Nat.reduceAdd, Nat.reduceSub, Nat.reduceMul, Nat.reduceLT, Nat.reduceBEq, Nat.reduceEqDiff, Nat.reduceLeDiff, FACTS, TYPES]
  repeat' (split <;> simp only [*, EVb, condO_ite, Int.reduceEq, Int.reduceToNat, Int.reduceLE, Int.reduceLT, Int.reduceAdd, Int.reduceMul, Int.reduceSub, Int.reduceNeg, Nat.reduceAdd, Nat.reduceSub, Nat.reduceMul, Nat.reduceLT, Nat.reduceBEq, Nat.reduceEqDiff, Nat.reduceLeDiff, FACTS])
  all_goals simp [asks, encInts, *]
  all_goals (have hn : ¬ (1 ≤ o ∧ o ≤ 8) := by omega); (simp only [hn, if_false]; exact ⟨fun _ => by omega, rfl, fun _ => by omega⟩)
def mayM (i : Ins) (regs : Int) : Bool :=
  decide (1 ≤ i.op ∧ i.op ≤ 8 ∧ 0 ≤ i.to ∧ i.to < regs ∧ (i.op = 3 ∨ i.op = 4 ∨ i.b = 0)) && constant i && decide (0 ≤ i.a ∧ i.a < regs) && decide ((i.op = 3 ∨ i.op = 4) → 0 ≤ i.b ∧ i.b < regs)
theorem asks_two {i : Ins} (h : i.op = 3 ∨ i.op = 4) : asks i = [i.a, i.b] := if_pos h
theorem asks_one {i : Ins} (h : ¬ (i.op = 3 ∨ i.op = 4)) (h2 : 1 ≤ i.op ∧ i.op ≤ 8) : asks i = [i.a] := by unfold asks; rw [if_neg h, if_pos h2]
theorem may_ev (k : Nat) (o t a b c regs : Int) : run (k+4) 100 [aI o t a b c, ii regs] = some (bb (mayM ⟨o, t, a, b, c⟩ regs)) := by
  rw [run, ev100, ans_trim]
  simp only [Try.f100, aI, ii, bb, EVb, condO_ite, Int.reduceEq, Int.reduceToNat, Int.reduceLE, Int.reduceLT, Int.reduceAdd, Int.reduceMul, Int.reduceSub, Int.reduceNeg, Nat.reduceAdd, Nat.reduceSub, Nat.reduceMul, Nat.reduceLT, Nat.reduceBEq, Nat.reduceEqDiff, Nat.reduceLeDiff, FACTS, TYPES, two_ev, constant_ev, asks_ev]
  repeat' (split <;> simp only [*, EVb, condO_ite, Int.reduceEq, Int.reduceToNat, Int.reduceLE, Int.reduceLT, Int.reduceAdd, Int.reduceMul, Int.reduceSub, Int.reduceNeg, Nat.reduceAdd, Nat.reduceSub, Nat.reduceMul, Nat.reduceLT, Nat.reduceBEq, Nat.reduceEqDiff, Nat.reduceLeDiff, FACTS, two_ev, constant_ev, asks_ev])
  all_goals first
    | (simp [mayM, two, *] at *; omega)
    | (simp [mayM, two, *] at *; done)
    | skip
  · rw [asks_two (i := ⟨o, t, a, b, c⟩) (by simp [two] at *; simp [*])]
    simp only [sI, encInts, List.map_cons, List.map_nil, EVb, condO_ite, Int.reduceEq, Int.reduceToNat, Int.reduceLE, Int.reduceLT, Int.reduceAdd, Int.reduceMul, Int.reduceSub, Int.reduceNeg, Nat.reduceAdd, Nat.reduceSub, Nat.reduceMul, Nat.reduceLT, Nat.reduceBEq, Nat.reduceEqDiff, Nat.reduceLeDiff, FACTS]
    rw [evalCode_loopB LB100_4 lp100_4]; rotate_left; rfl; rfl; rfl
    simp only [sI, encInts, List.map_cons, List.map_nil, loopR_succ, loopOf, findLoop, firstRegion, Option.some_or, Option.none_or, Option.getD_some, Option.some.injEq, Try.f100, EVb, condO_ite, Int.reduceEq, Int.reduceToNat, Int.reduceLE, Int.reduceLT, Int.reduceAdd, Int.reduceMul, Int.reduceSub, Int.reduceNeg, Nat.reduceAdd, Nat.reduceSub, Nat.reduceMul, Nat.reduceLT, Nat.reduceBEq, Nat.reduceEqDiff, Nat.reduceLeDiff, FACTS]
    repeat' (split <;> simp only [*, sI, encInts, List.map_cons, List.map_nil, loopR_succ, loopOf, findLoop, firstRegion, Option.some_or, Option.none_or, Try.f100, EVb, condO_ite, Int.reduceEq, Int.reduceToNat, Int.reduceLE, Int.reduceLT, Int.reduceAdd, Int.reduceMul, Int.reduceSub, Int.reduceNeg, Nat.reduceAdd, Nat.reduceSub, Nat.reduceMul, Nat.reduceLT, Nat.reduceBEq, Nat.reduceEqDiff, Nat.reduceLeDiff, FACTS])
    all_goals (simp [mayM, two, *] at *; try omega)
  · rw [asks_one (i := ⟨o, t, a, 0, c⟩) (by simp [two] at *; simp [*]) (by simp; omega)]
    simp only [sI, encInts, List.map_cons, List.map_nil, EVb, condO_ite, Int.reduceEq, Int.reduceToNat, Int.reduceLE, Int.reduceLT, Int.reduceAdd, Int.reduceMul, Int.reduceSub, Int.reduceNeg, Nat.reduceAdd, Nat.reduceSub, Nat.reduceMul, Nat.reduceLT, Nat.reduceBEq, Nat.reduceEqDiff, Nat.reduceLeDiff, FACTS]
    rw [evalCode_loopB LB100_4 lp100_4]; rotate_left; rfl; rfl; rfl
    simp only [sI, encInts, List.map_cons, List.map_nil, loopR_succ, loopOf, findLoop, firstRegion, Option.some_or, Option.none_or, Option.getD_some, Option.some.injEq, Try.f100, EVb, condO_ite, Int.reduceEq, Int.reduceToNat, Int.reduceLE, Int.reduceLT, Int.reduceAdd, Int.reduceMul, Int.reduceSub, Int.reduceNeg, Nat.reduceAdd, Nat.reduceSub, Nat.reduceMul, Nat.reduceLT, Nat.reduceBEq, Nat.reduceEqDiff, Nat.reduceLeDiff, FACTS]
    repeat' (split <;> simp only [*, sI, encInts, List.map_cons, List.map_nil, loopR_succ, loopOf, findLoop, firstRegion, Option.some_or, Option.none_or, Try.f100, EVb, condO_ite, Int.reduceEq, Int.reduceToNat, Int.reduceLE, Int.reduceLT, Int.reduceAdd, Int.reduceMul, Int.reduceSub, Int.reduceNeg, Nat.reduceAdd, Nat.reduceSub, Nat.reduceMul, Nat.reduceLT, Nat.reduceBEq, Nat.reduceEqDiff, Nat.reduceLeDiff, FACTS])
    all_goals (simp [mayM, two, *] at *; try omega)
end Go.Proofs.Sw
namespace Go.Proofs.Sw
set_option linter.unusedVariables false
set_option linter.unusedSimpArgs false
set_option linter.unusedSectionVars false
open Go.Ab
variable [Globals]
abbrev enc1 (i : Ins) : List IV := [.int .i64 i.op, .int .i64 i.to, .int .i64 i.a, .int .i64 i.b, .int .i64 i.c]
def encCode : List Ins → List IV
  | [] => []
  | i :: l => enc1 i ++ encCode l
theorem encInts_length (l : List Int) : (encInts l).length = l.length := by simp [encInts]
theorem encInts_append (l m : List Int) : encInts (l ++ m) = encInts l ++ encInts m := by simp [encInts]
theorem encCode_length : ∀ (l : List Ins), (encCode l).length = l.length * 5
  | [] => rfl
  | i :: l => by rw [encCode, List.length_append, encCode_length l]; simp; omega
theorem encCode_append : ∀ (l m : List Ins), encCode (l ++ m) = encCode l ++ encCode m
  | [], m => rfl
  | i :: l, m => by rw [List.cons_append, encCode, encCode, encCode_append l m, List.append_assoc]
theorem encInts_get {l : List Int} {i : Nat} (h : i < l.length) : (encInts l)[i]? = some (.int .i64 l[i]) := by
  simp [encInts, h]
theorem encCode_drop : ∀ (l : List Ins) (i : Nat), (encCode l).drop (i * 5) = encCode (l.drop i)
  | [], i => by simp [encCode]
  | x :: l, 0 => by simp
  | x :: l, i + 1 => by
    rw [encCode, List.drop_succ_cons, ← encCode_drop l i, show (i + 1) * 5 = (enc1 x).length + i * 5 by simp; omega, List.drop_append]
    simp
theorem encCode_get {l : List Ins} {i : Nat} (h : i < l.length) : (if i * 5 + 5 ≤ (encCode l).length then some (((encCode l).drop (i * 5)).take 5) else none) = some (enc1 l[i]) := by
  rw [encCode_length, if_pos (by omega), encCode_drop]
  have : l.drop i = l[i] :: l.drop (i + 1) := (List.drop_eq_getElem_cons h)
  rw [this, encCode]
  simp
/-- The next number of a loop. -/
theorem wrap_succ {i n : Nat} (h : i < n) (hn : n ≤ 4611686018427387904) : IntKind.wrap .i64 ((i : Int) + 1) = ((i + 1 : Nat) : Int) := by
  rw [wrap64 (by omega) (by omega)]; simp
structure Pg where
  ins : Int
  regs : Int
  code : List Ins
  outs : List Int
  deriving DecidableEq
abbrev sC (code : List Ins) (nl : Bool) (cap : Option Nat) : AV := .c (.slice (encCode code) code.length nl cap)
/-- A program's cells. -/
abbrev aP (p : Pg) (nl : Bool) (cap : Option Nat) (nl2 : Bool) (cap2 : Option Nat) : AV := .agg [ii p.ins, ii p.regs, sC p.code nl cap, sI p.outs nl2 cap2]
abbrev cP (ins regs : Int) (v ov : AV) : AObj := .cells 25 [ii ins, ii regs, v, ov]
def headM (p : Pg) : Bool := decide (1 ≤ p.ins ∧ p.ins ≤ p.regs ∧ p.regs ≤ 128 ∧ p.code.length ≤ 16384 ∧ 1 ≤ p.outs.length ∧ p.outs.length ≤ 128)
def outsM (p : Pg) : Bool := p.outs.all (fun r => decide (0 ≤ r ∧ r < p.regs))
def codeM (p : Pg) : Bool := p.code.all (fun i => mayM i p.regs)
def rightM (p : Pg) : Bool := headM p && outsM p && codeM p
def checkE (p : Pg) : Int := if rightM p then 0 else 80
section
variable (kf : Nat) (ins regs : Int) (cv ov : AV)
theorem loop_Check_4 (outs : List Int) (nl : Bool) (cap : Option Nat) (hlen : outs.length ≤ 4611686018427387904) (k : Nat) (l : Ass) (H : Heap) (z : Option Out)
    (hz : loopR Try.prog tab kf none LB62_4 62 72 [1, 42, 43, 44] 1 k l H = z) (hk : outs.length < k)
    (h1 : asc l 1 = .ptr 0 0) (h42 : asc l 42 = sI outs nl cap) (h43 : asc l 43 = ii outs.length) (h44 : asc l 44 = ii (0 : Nat)) (hH : H = [cP ins regs cv ov]) :
    ∃ l', (z = some (.exit 0 (fr 72 l') H) ∧ asc l' 1 = .ptr 0 0 ∧ outs.all (fun r => decide (0 ≤ r ∧ r < regs)) = true) ∨
      (z = some (.ret (fr 72 l') H) ∧ asc l' 2 = ii (-1) ∧ asc l' 3 = ii 80 ∧ outs.all (fun r => decide (0 ≤ r ∧ r < regs)) = false) := by
  subst hH
  subst hz
  refine loop_nat outs.length (fun k l H => loopR Try.prog tab kf none LB62_4 62 72 [1, 42, 43, 44] 1 k l H)
    (fun i l H => asc l 1 = .ptr 0 0 ∧ asc l 42 = sI outs nl cap ∧ asc l 43 = ii outs.length ∧ asc l 44 = ii i ∧ (∀ j, (h : j < i) → ∀ h2 : j < outs.length, 0 ≤ outs[j] ∧ outs[j] < regs) ∧ H = [cP ins regs cv ov])
    (fun z => ∃ l', (z = some (.exit 0 (fr 72 l') [cP ins regs cv ov]) ∧ asc l' 1 = .ptr 0 0 ∧ outs.all (fun r => decide (0 ≤ r ∧ r < regs)) = true) ∨
      (z = some (.ret (fr 72 l') [cP ins regs cv ov]) ∧ asc l' 2 = ii (-1) ∧ asc l' 3 = ii 80 ∧ outs.all (fun r => decide (0 ≤ r ∧ r < regs)) = false)) ?_ outs.length 0 k l _ (by omega) hk ⟨h1, h42, h43, h44, fun j h => absurd h (by omega), rfl⟩
  clear h1 h42 h43 h44 hk
  rintro i k l H hi ⟨h1, h42, h43, h44, hp, rfl⟩
  by_cases hc : i < outs.length
  · have hc' : ((i : Int) < outs.length) := by omega
    have hc0 : (0 : Int) ≤ i := by omega
    have hx := encInts_get hc
    have hw := wrap_succ hc hlen
    have hall : ¬ (0 ≤ outs[i] ∧ outs[i] < regs) → outs.all (fun r => decide (0 ≤ r ∧ r < regs)) = false := fun h => by
      rw [List.all_eq_false]; exact ⟨outs[i], List.getElem_mem hc, by simpa using h⟩
    by_cases hr : outs[i] < 0
    · refine .inl ?_
      simp only [h1, h42, h43, h44, hc', hc0, hx, hr, loopR_succ, loopOf, findLoop, firstRegion, Option.some_or, Option.none_or, Option.getD_some, Option.some.injEq, Try.f62, EVb, EVc, Int.reduceEq, Int.reduceToNat, Int.reduceLE, Int.reduceLT, Int.reduceAdd, Int.reduceMul, Int.reduceSub, Int.reduceNeg, Nat.reduceAdd, Nat.reduceSub, Nat.reduceMul, Nat.reduceLT, Nat.reduceBEq, Nat.reduceEqDiff, Nat.reduceLeDiff, FACTS]
      exact ⟨_, .inr ⟨rfl, (by rfl), (by rfl), hall (by omega)⟩⟩
    · by_cases hr2 : regs ≤ outs[i]
      · refine .inl ?_
        simp only [h1, h42, h43, h44, hc', hc0, hx, hr, hr2, loopR_succ, loopOf, findLoop, firstRegion, Option.some_or, Option.none_or, Option.getD_some, Option.some.injEq, Try.f62, EVb, EVc, Int.reduceEq, Int.reduceToNat, Int.reduceLE, Int.reduceLT, Int.reduceAdd, Int.reduceMul, Int.reduceSub, Int.reduceNeg, Nat.reduceAdd, Nat.reduceSub, Nat.reduceMul, Nat.reduceLT, Nat.reduceBEq, Nat.reduceEqDiff, Nat.reduceLeDiff, FACTS]
        exact ⟨_, .inr ⟨rfl, (by rfl), (by rfl), hall (by omega)⟩⟩
      · refine .inr ?_
        simp only [h1, h42, h43, h44, hc', hc0, hx, hr, hr2, hw, loopR_succ, loopOf, findLoop, firstRegion, Option.some_or, Option.none_or, Option.getD_some, Option.some.injEq, Try.f62, EVb, EVc, Int.reduceEq, Int.reduceToNat, Int.reduceLE, Int.reduceLT, Int.reduceAdd, Int.reduceMul, Int.reduceSub, Int.reduceNeg, Nat.reduceAdd, Nat.reduceSub, Nat.reduceMul, Nat.reduceLT, Nat.reduceBEq, Nat.reduceEqDiff, Nat.reduceLeDiff, FACTS]
        refine ⟨_, _, hc, rfl, (by rfl), (by rfl), (by rfl), (by rfl), fun j hj h2 => ?_, rfl⟩
        by_cases e : j = i
        · subst e; omega
        · exact hp j (by omega) h2
  · have hc' : ¬ ((i : Int) < outs.length) := by omega
    refine .inl ?_
    simp only [h1, h42, h43, h44, hc', loopR_succ, loopOf, findLoop, firstRegion, Option.some_or, Option.none_or, Option.getD_some, Option.some.injEq, Try.f62, EVb, EVc, Int.reduceEq, Int.reduceToNat, Int.reduceLE, Int.reduceLT, Int.reduceAdd, Int.reduceMul, Int.reduceSub, Int.reduceNeg, Nat.reduceAdd, Nat.reduceSub, Nat.reduceMul, Nat.reduceLT, Nat.reduceBEq, Nat.reduceEqDiff, Nat.reduceLeDiff, FACTS]
    refine ⟨_, .inl ⟨rfl, (by rfl), ?_⟩⟩
    rw [List.all_eq_true]
    intro x hx
    obtain ⟨j, hj, rfl⟩ := List.getElem_of_mem hx
    simpa using hp j (by omega) hj
end
end Go.Proofs.Sw
namespace Go.Proofs.Sw
set_option linter.unusedVariables false
set_option linter.unusedSimpArgs false
set_option linter.unusedSectionVars false
open Go.Ab
variable [Globals]
theorem all_of {α : Type} {l : List α} {p : α → Bool} (h : ∀ j, (h : j < l.length) → p l[j] = true) : l.all p = true := by
  rw [List.all_eq_true]
  intro x hx
  obtain ⟨j, hj, rfl⟩ := List.getElem_of_mem hx
  exact h j hj
theorem all_not {α : Type} {l : List α} {p : α → Bool} {i : Nat} (h : i < l.length) (hp : p l[i] = false) : l.all p = false := by
  rw [List.all_eq_false]; exact ⟨l[i], List.getElem_mem h, by simp [hp]⟩
theorem loop_Check_10 (kf : Nat) (hkf : 4 ≤ kf) (ins regs : Int) (ov : IV) (code : List Ins) (nl : Bool) (cap : Option Nat) (hlen : code.length ≤ 4611686018427387904) (k : Nat) (l : Ass) (H : Heap) (z : Option Out)
    (hz : loopR Try.prog tab kf none LB62_10 62 72 [1, 58, 59, 60] 1 k l H = z) (hk : code.length < k)
    (h1 : asc l 1 = .ptr 0 0) (h58 : asc l 58 = sC code nl cap) (h59 : asc l 59 = ii code.length) (h60 : asc l 60 = ii (0 : Nat)) (hH : H = [cP ins regs (sC code nl cap) (.c ov)]) :
    ∃ l' H', (z = some (.exit 2 (fr 72 l') H') ∧ code.all (fun i => mayM i regs) = true) ∨
      (z = some (.ret (fr 72 l') H') ∧ (∃ n, asc l' 2 = ii n) ∧ asc l' 3 = ii 80 ∧ code.all (fun i => mayM i regs) = false) := by
  subst hz
  obtain ⟨kf, rfl⟩ : ∃ j, kf = j + 4 := ⟨kf - 4, by omega⟩
  refine loop_nat code.length (fun k l H => loopR Try.prog tab (kf + 4) none LB62_10 62 72 [1, 58, 59, 60] 1 k l H)
    (fun i l H => asc l 1 = .ptr 0 0 ∧ asc l 58 = sC code nl cap ∧ asc l 59 = ii code.length ∧ asc l 60 = ii i ∧ (∀ j, (h : j < i) → ∀ h2 : j < code.length, mayM code[j] regs = true) ∧ H.take 1 = [cP ins regs (sC code nl cap) (.c ov)])
    (fun z => ∃ l' H', (z = some (.exit 2 (fr 72 l') H') ∧ code.all (fun i => mayM i regs) = true) ∨
      (z = some (.ret (fr 72 l') H') ∧ (∃ n, asc l' 2 = ii n) ∧ asc l' 3 = ii 80 ∧ code.all (fun i => mayM i regs) = false)) ?_ code.length 0 k l H (by omega) hk ⟨h1, h58, h59, h60, fun j h => absurd h (by omega), by rw [hH]; rfl⟩
  clear h1 h58 h59 h60 hk hH
  rintro i k l H hi ⟨h1, h58, h59, h60, hp, hH⟩
  have ht : trim 1 (fr 72 (keep l [1, 58, 59, 60])) H = [cP ins regs (sC code nl cap) (.c ov)] := by
    rw [trim_fr (by simp only [h1, h58, h59, h60, EVb, EVc, Int.reduceEq, Int.reduceToNat, Int.reduceLE, Int.reduceLT, Int.reduceAdd, Int.reduceMul, Int.reduceSub, Int.reduceNeg, Nat.reduceAdd, Nat.reduceSub, Nat.reduceMul, Nat.reduceLT, Nat.reduceBEq, Nat.reduceEqDiff, Nat.reduceLeDiff]) (by rw [hH]; simp only [EVb, EVc, Int.reduceEq, Int.reduceToNat, Int.reduceLE, Int.reduceLT, Int.reduceAdd, Int.reduceMul, Int.reduceSub, Int.reduceNeg, Nat.reduceAdd, Nat.reduceSub, Nat.reduceMul, Nat.reduceLT, Nat.reduceBEq, Nat.reduceEqDiff, Nat.reduceLeDiff]), hH]
  by_cases hc : i < code.length
  · have hc' : ((i : Int) < code.length) := by omega
    have hc0 : (0 : Int) ≤ i := by omega
    have hx := encCode_get hc
    have hw := wrap_succ hc hlen
    obtain ⟨x, hX⟩ : ∃ x, x = code[i] := ⟨_, rfl⟩
    rw [← hX] at hx
    have hm := may_ev kf x.op x.to x.a x.b x.c regs
    simp only [run, aI, ii, bb] at hm
    cases hd : mayM x regs with
    | false =>
      rw [show mayM ⟨x.op, x.to, x.a, x.b, x.c⟩ regs = false from hd] at hm
      refine .inl ?_
      simp only [loopR_succ, ht]
      simp only [h1, h58, h59, h60, hc', hc0, hx, hm, loopR_succ, loopOf, findLoop, firstRegion, Option.some_or, Option.none_or, Option.getD_some, Option.some.injEq, Try.f62, EVb, EVc, Int.reduceEq, Int.reduceToNat, Int.reduceLE, Int.reduceLT, Int.reduceAdd, Int.reduceMul, Int.reduceSub, Int.reduceNeg, Nat.reduceAdd, Nat.reduceSub, Nat.reduceMul, Nat.reduceLT, Nat.reduceBEq, Nat.reduceEqDiff, Nat.reduceLeDiff, FACTS, TYPES]
      exact ⟨_, _, .inr ⟨rfl, ⟨_, rfl⟩, (by rfl), all_not hc (by rw [← hX]; exact hd)⟩⟩
    | true =>
      rw [show mayM ⟨x.op, x.to, x.a, x.b, x.c⟩ regs = true from hd] at hm
      refine .inr ?_
      simp only [loopR_succ, ht]
      simp only [h1, h58, h59, h60, hc', hc0, hx, hm, hw, loopR_succ, loopOf, findLoop, firstRegion, Option.some_or, Option.none_or, Option.getD_some, Option.some.injEq, Try.f62, EVb, EVc, Int.reduceEq, Int.reduceToNat, Int.reduceLE, Int.reduceLT, Int.reduceAdd, Int.reduceMul, Int.reduceSub, Int.reduceNeg, Nat.reduceAdd, Nat.reduceSub, Nat.reduceMul, Nat.reduceLT, Nat.reduceBEq, Nat.reduceEqDiff, Nat.reduceLeDiff, FACTS, TYPES]
      refine ⟨_, _, hc, rfl, (by rfl), (by rfl), (by rfl), (by rfl), fun j hj h2 => ?_, (by rfl)⟩
      by_cases e : j = i
      · subst e; rw [← hX]; exact hd
      · exact hp j (by omega) h2
  · have hc' : ¬ ((i : Int) < code.length) := by omega
    refine .inl ?_
    simp only [loopR_succ, ht]
    simp only [h1, h58, h59, h60, hc', loopR_succ, loopOf, findLoop, firstRegion, Option.some_or, Option.none_or, Option.getD_some, Option.some.injEq, Try.f62, EVb, EVc, Int.reduceEq, Int.reduceToNat, Int.reduceLE, Int.reduceLT, Int.reduceAdd, Int.reduceMul, Int.reduceSub, Int.reduceNeg, Nat.reduceAdd, Nat.reduceSub, Nat.reduceMul, Nat.reduceLT, Nat.reduceBEq, Nat.reduceEqDiff, Nat.reduceLeDiff, FACTS, TYPES]
    exact ⟨_, _, .inl ⟨rfl, all_of fun j hj => hp j (by omega) hj⟩⟩
theorem check_ev (k : Nat) (p : Pg) (nl : Bool) (cap : Option Nat) (nl2 : Bool) (cap2 : Option Nat) (hk : p.outs.length + p.code.length + 10 ≤ k) :
    ∃ n, run (k+1) 62 [aP p nl cap nl2 cap2] = some (.tup [ii n, ii (checkE p)]) := by
  obtain ⟨ins, regs, code, outs⟩ := p
  simp only at hk
  rw [run, ev62, ans_trim]
  simp only [Try.f62, aP, ii, bb, EVb, condO_ite, Int.reduceEq, Int.reduceToNat, Int.reduceLE, Int.reduceLT, Int.reduceAdd, Int.reduceMul, Int.reduceSub, Int.reduceNeg, Nat.reduceAdd, Nat.reduceSub, Nat.reduceMul, Nat.reduceLT, Nat.reduceBEq, Nat.reduceEqDiff, Nat.reduceLeDiff, FACTS, TYPES]
  by_cases hm : headM ⟨ins, regs, code, outs⟩ = true
  · have hm' := hm
    simp only [headM, decide_eq_true_eq] at hm'
    have q1 : ¬ ins < 1 := by omega
    have q2 : ¬ regs < ins := by omega
    have q3 : ¬ 128 < regs := by omega
    have q4 : ¬ (16384 : Int) < code.length := by omega
    have q5 : ¬ (outs.length : Int) < 1 := by omega
    have q6 : ¬ (128 : Int) < outs.length := by omega
    simp only [q1, q2, q3, q4, q5, q6, EVb, EVc, Int.reduceEq, Int.reduceToNat, Int.reduceLE, Int.reduceLT, Int.reduceAdd, Int.reduceMul, Int.reduceSub, Int.reduceNeg, Nat.reduceAdd, Nat.reduceSub, Nat.reduceMul, Nat.reduceLT, Nat.reduceBEq, Nat.reduceEqDiff, Nat.reduceLeDiff, FACTS, TYPES]
    rw [evalCode_loopB LB62_4 lp62_4]; rotate_left; rfl; rfl; rfl
    generalize hz : loopR _ _ _ _ _ _ _ _ _ _ _ _ = z
    obtain ⟨l1, ⟨rfl, g1, ho⟩ | ⟨rfl, g1, g2, ho⟩⟩ := loop_Check_4 k ins regs (sC code nl cap) (sI outs nl2 cap2) outs nl2 cap2 (by omega) _ _ _ z hz (by omega) (by rfl) (by rfl) (by rfl) (by rfl) (by rfl)
    · simp only [g1, EVb, EVc, Int.reduceEq, Int.reduceToNat, Int.reduceLE, Int.reduceLT, Int.reduceAdd, Int.reduceMul, Int.reduceSub, Int.reduceNeg, Nat.reduceAdd, Nat.reduceSub, Nat.reduceMul, Nat.reduceLT, Nat.reduceBEq, Nat.reduceEqDiff, Nat.reduceLeDiff, FACTS, TYPES]
      clear hz
      rw [evalCode_loopB LB62_10 lp62_10]; rotate_left; rfl; rfl; rfl
      generalize hz : loopR _ _ _ _ _ _ _ _ _ _ _ _ = z
      obtain ⟨l2, H2, ⟨rfl, hc⟩ | ⟨rfl, ⟨n, g2⟩, g3, hc⟩⟩ := loop_Check_10 k (by omega) ins regs (.slice (encInts outs) outs.length nl2 cap2) code nl cap (by omega) _ _ _ z hz (by omega) (by exact g1) (by rfl) (by rfl) (by rfl) (by rfl)
      · refine ⟨0, ?_⟩
        simp only [EVb, EVc, Int.reduceEq, Int.reduceToNat, Int.reduceLE, Int.reduceLT, Int.reduceAdd, Int.reduceMul, Int.reduceSub, Int.reduceNeg, Nat.reduceAdd, Nat.reduceSub, Nat.reduceMul, Nat.reduceLT, Nat.reduceBEq, Nat.reduceEqDiff, Nat.reduceLeDiff, FACTS, TYPES]
        simp [checkE, rightM, hm, show outsM ⟨ins, regs, code, outs⟩ = _ from ho, show codeM ⟨ins, regs, code, outs⟩ = _ from hc]
      · refine ⟨n, ?_⟩
        simp only [g2, g3, EVb, EVc, Int.reduceEq, Int.reduceToNat, Int.reduceLE, Int.reduceLT, Int.reduceAdd, Int.reduceMul, Int.reduceSub, Int.reduceNeg, Nat.reduceAdd, Nat.reduceSub, Nat.reduceMul, Nat.reduceLT, Nat.reduceBEq, Nat.reduceEqDiff, Nat.reduceLeDiff, FACTS, TYPES]
        simp [checkE, rightM, hm, show outsM ⟨ins, regs, code, outs⟩ = _ from ho, show codeM ⟨ins, regs, code, outs⟩ = _ from hc]
    · refine ⟨-1, ?_⟩
      simp only [g1, g2, EVb, EVc, Int.reduceEq, Int.reduceToNat, Int.reduceLE, Int.reduceLT, Int.reduceAdd, Int.reduceMul, Int.reduceSub, Int.reduceNeg, Nat.reduceAdd, Nat.reduceSub, Nat.reduceMul, Nat.reduceLT, Nat.reduceBEq, Nat.reduceEqDiff, Nat.reduceLeDiff, FACTS, TYPES]
      simp [checkE, rightM, hm, show outsM ⟨ins, regs, code, outs⟩ = _ from ho]
  · refine ⟨-1, ?_⟩
    have hr : checkE ⟨ins, regs, code, outs⟩ = 80 := by simp [checkE, rightM, hm]
    rw [hr]
    simp only [headM, decide_eq_true_eq] at hm
    repeat' (first
    | (rw [condO_dec]; split <;> simp only [*, EVb, EVc, Int.reduceEq, Int.reduceToNat, Int.reduceLE, Int.reduceLT, Int.reduceAdd, Int.reduceMul, Int.reduceSub, Int.reduceNeg, Nat.reduceAdd, Nat.reduceSub, Nat.reduceMul, Nat.reduceLT, Nat.reduceBEq, Nat.reduceEqDiff, Nat.reduceLeDiff, FACTS, TYPES])
    | (rw [condO_ite]; split <;> simp only [*, EVb, EVc, Int.reduceEq, Int.reduceToNat, Int.reduceLE, Int.reduceLT, Int.reduceAdd, Int.reduceMul, Int.reduceSub, Int.reduceNeg, Nat.reduceAdd, Nat.reduceSub, Nat.reduceMul, Nat.reduceLT, Nat.reduceBEq, Nat.reduceEqDiff, Nat.reduceLeDiff, FACTS, TYPES])
    | (split <;> simp only [*, EVb, EVc, Int.reduceEq, Int.reduceToNat, Int.reduceLE, Int.reduceLT, Int.reduceAdd, Int.reduceMul, Int.reduceSub, Int.reduceNeg, Nat.reduceAdd, Nat.reduceSub, Nat.reduceMul, Nat.reduceLT, Nat.reduceBEq, Nat.reduceEqDiff, Nat.reduceLeDiff, FACTS, TYPES]))
    all_goals first
      | rfl
      | (exfalso; omega)
theorem right_ev (k : Nat) (p : Pg) (nl : Bool) (cap : Option Nat) (nl2 : Bool) (cap2 : Option Nat) (hk : p.outs.length + p.code.length + 11 ≤ k) :
    run (k+1) 85 [aP p nl cap nl2 cap2] = some (bb (rightM p)) := by
  obtain ⟨k, rfl⟩ : ∃ j, k = j + 1 := ⟨k - 1, by omega⟩
  obtain ⟨n, hc⟩ := check_ev k p nl cap nl2 cap2 (by omega)
  simp only [run, aP, ii, bb] at hc
  rw [run, ev85, ans_trim]
  simp only [Try.f85, aP, ii, bb, hc, EVb, EVc, Int.reduceEq, Int.reduceToNat, Int.reduceLE, Int.reduceLT, Int.reduceAdd, Int.reduceMul, Int.reduceSub, Int.reduceNeg, Nat.reduceAdd, Nat.reduceSub, Nat.reduceMul, Nat.reduceLT, Nat.reduceBEq, Nat.reduceEqDiff, Nat.reduceLeDiff, FACTS, TYPES]
  cases hr : rightM p <;> simp [checkE, hr]
end Go.Proofs.Sw
namespace Go.Proofs.Sw
set_option linter.unusedVariables false
set_option linter.unusedSimpArgs false
set_option linter.unusedSectionVars false
open Go.Ab
variable [Globals]
theorem encInts_getD {l : List Int} {r : Int} (h0 : 0 ≤ r) (h : r < l.length) : (encInts l)[r.toNat]? = some (.int .i64 (l.getD r.toNat 0)) := by
  have h2 : r.toNat < l.length := by omega
  simp [encInts, h2]
abbrev rI (l : List Int) : AObj := .row false 3 (encInts l)
abbrev hI (id n : Nat) : AV := .hsl id 0 n n 1
/-- What registers hold ahead of a program. -/
def startM (ins : Int) (n : Nat) : List Int := (List.range n).map fun (r : Nat) => if ins < (r : Int) then ins else (r : Int)
theorem startM_length (ins : Int) (n : Nat) : (startM ins n).length = n := by simp [startM]
theorem startM_succ (ins : Int) (n : Nat) : startM ins (n + 1) = startM ins n ++ [if ins < (n : Int) then ins else (n : Int)] := by
  simp [startM, List.range_succ]
theorem encInts_set {l : List Int} {r : Nat} {v : Int} : (encInts l).set r (.int .i64 v) = encInts (l.set r v) := by simp [encInts, List.map_set]
/-- What the law knows of an instruction that may be. -/
theorem mayM_facts {i : Ins} {regs : Int} (h : mayM i regs = true) : (1 ≤ i.op ∧ i.op ≤ 8) ∧ (0 ≤ i.to ∧ i.to < regs) ∧ (0 ≤ i.a ∧ i.a < regs) ∧ (i.op = 3 ∨ i.op = 4 → 0 ≤ i.b ∧ i.b < regs) := by
  simp only [mayM, Bool.and_eq_true, decide_eq_true_eq] at h
  obtain ⟨⟨⟨⟨m1, m2, m3, m4, m5⟩, _⟩, m6⟩, m7⟩ := h
  exact ⟨⟨m1, m2⟩, ⟨m3, m4⟩, m6, m7⟩
end Go.Proofs.Sw
namespace Go.Proofs.Sw
set_option linter.unusedVariables false
set_option linter.unusedSimpArgs false
set_option linter.unusedSectionVars false
open Go.Ab
variable [Globals]
def encB (l : List Bool) : List IV := l.map .bool
theorem encB_length (l : List Bool) : (encB l).length = l.length := by simp [encB]
theorem encB_get {l : List Bool} {r : Int} (h0 : 0 ≤ r) (h : r < l.length) : (encB l)[r.toNat]? = some (.bool (l.getD r.toNat false)) := by
  have h2 : r.toNat < l.length := by omega
  simp [encB, h2]
theorem encB_set {l : List Bool} {r : Nat} {b : Bool} : (encB l).set r (.bool b) = encB (l.set r b) := by
  simp [encB, List.map_set]
theorem encB_rep (n : Nat) : (List.replicate n [IV.bool false]).flatten = encB (List.replicate n false) := by
  induction n with
  | zero => rfl
  | succ n ih => rw [List.replicate_succ, List.flatten_cons, ih]; rfl
/-- All of these registers are marked. -/
def mark (l : List Bool) (b : Bool) : List Int → List Bool
  | [] => l
  | r :: rs => mark (l.set r.toNat b) b rs
theorem mark_length (b : Bool) : ∀ (rs : List Int) (l : List Bool), (mark l b rs).length = l.length
  | [], l => rfl
  | r :: rs, l => by rw [mark, mark_length b rs]; simp
theorem mark_snoc (b : Bool) (r : Int) : ∀ (rs : List Int) (l : List Bool), mark l b (rs ++ [r]) = (mark l b rs).set r.toNat b
  | [], l => rfl
  | x :: rs, l => by rw [List.cons_append, mark, mark_snoc b r rs]; rfl
/-- Going from the last instruction on: what is asked ahead of it, and which are needed. -/
def needL (asked : List Bool) : List Ins → List Bool × List Bool
  | [] => (asked, [])
  | i :: rest =>
    let r := needL asked rest
    if r.1.getD i.to.toNat false = true then (mark (r.1.set i.to.toNat false) true (asks i), true :: r.2) else (r.1, false :: r.2)
def asked0 (regs : Nat) (outs : List Int) : List Bool := mark (List.replicate regs false) true outs
def neededM (p : Pg) : List Bool := (needL (asked0 p.regs.toNat p.outs) p.code).2
abbrev sB (l : List Bool) (nl : Bool) (cap : Option Nat) : AV := .c (.slice (encB l) l.length nl cap)
abbrev rB (l : List Bool) : AObj := .row false 4 (encB l)
/-- Marking what is asked, in a row at place 1. -/
theorem loop_needed_3 (kf : Nat) (pc c64 : AObj) (n : Nat) (outs : List Int) (nl : Bool) (cap : Option Nat) (hlen : outs.length ≤ 4611686018427387904) (hr : ∀ r ∈ outs, 0 ≤ r ∧ r < n) (as0 : List Bool) (ha0 : as0.length = n)
    (k : Nat) (l : Ass) (H : Heap) (z : Option Out) (hz : loopR Try.prog tab kf none LB75_3 75 58 [1, 3, 15, 16, 17] 3 k l H = z) (hk : outs.length < k)
    (h1 : asc l 1 = .ptr 0 0) (h3 : asc l 3 = .ptr 2 0) (h15 : asc l 15 = sI outs nl cap) (h16 : asc l 16 = ii outs.length) (h17 : asc l 17 = ii (0 : Nat)) (hH : H = [pc, rB as0, .cells 64 [.hsl 1 0 n n 1]]) :
    z = some (.exit 0 (fr 58 [(18, bb false), (1, .ptr 0 0), (3, .ptr 2 0), (15, sI outs nl cap), (16, ii outs.length), (17, ii outs.length)]) [pc, rB (mark as0 true outs), .cells 64 [.hsl 1 0 n n 1]]) := by
  subst hH
  subst hz
  refine loop_nat outs.length (fun k l H => loopR Try.prog tab kf none LB75_3 75 58 [1, 3, 15, 16, 17] 3 k l H)
    (fun i l H => asc l 1 = .ptr 0 0 ∧ asc l 3 = .ptr 2 0 ∧ asc l 15 = sI outs nl cap ∧ asc l 16 = ii outs.length ∧ asc l 17 = ii i ∧ H = [pc, rB (mark as0 true (outs.take i)), .cells 64 [.hsl 1 0 n n 1]])
    (fun z => z = some (.exit 0 (fr 58 [(18, bb false), (1, .ptr 0 0), (3, .ptr 2 0), (15, sI outs nl cap), (16, ii outs.length), (17, ii outs.length)]) [pc, rB (mark as0 true outs), .cells 64 [.hsl 1 0 n n 1]])) ?_ outs.length 0 k l _ (by omega) hk ⟨h1, h3, h15, h16, h17, rfl⟩
  clear h1 h3 h15 h16 h17 hk
  rintro i k l H hi ⟨h1, h3, h15, h16, h17, rfl⟩
  have ht : ∀ q : List Bool, trim 3 (fr 58 (keep l [1, 3, 15, 16, 17])) [pc, rB q, .cells 64 [.hsl 1 0 n n 1]] = [pc, rB q, .cells 64 [.hsl 1 0 n n 1]] := fun q => trim_same rfl
  by_cases hc : i < outs.length
  · refine .inr ?_
    have hc' : ((i : Int) < outs.length) := by omega
    have hc0 : (0 : Int) ≤ i := by omega
    have hx := encInts_get hc
    have hw := wrap_succ hc hlen
    obtain ⟨x, hX⟩ : ∃ x, x = outs[i] := ⟨_, rfl⟩
    rw [← hX] at hx
    obtain ⟨x0, x1⟩ := hr x (by rw [hX]; exact List.getElem_mem hc)
    have hm : (mark as0 true (outs.take i)).length = n := by rw [mark_length]; exact ha0
    have hnx : mark as0 true (outs.take (i + 1)) = (mark as0 true (outs.take i)).set x.toNat true := by rw [List.take_succ_eq_append_getElem hc, mark_snoc, ← hX]
    have hxl : x.toNat < n := by omega
    have hel : (encB (mark as0 true (outs.take i))).length = n := by rw [encB_length, hm]
    simp only [loopR_succ, ht]
    simp only [h1, h3, h15, h16, h17, hc', hc0, hx, hw, x0, x1, hel, hxl, encB_set, loopR_succ, loopOf, findLoop, firstRegion, Option.some_or, Option.none_or, Option.getD_some, Option.some.injEq, Try.f75, EVb, EVc, Int.reduceEq, Int.reduceToNat, Int.reduceLE, Int.reduceLT, Int.reduceAdd, Int.reduceMul, Int.reduceSub, Int.reduceNeg, Nat.reduceAdd, Nat.reduceSub, Nat.reduceMul, Nat.reduceLT, Nat.reduceBEq, Nat.reduceEqDiff, Nat.reduceLeDiff, FACTS, TYPES]
    exact ⟨_, _, hc, rfl, (by rfl), (by rfl), (by rfl), (by rfl), (by rfl), by rw [hnx]⟩
  · refine .inl ?_
    have hc' : ¬ ((i : Int) < outs.length) := by omega
    have he : outs.take i = outs := List.take_of_length_le (by omega)
    obtain rfl : i = outs.length := by omega
    simp only [loopR_succ, ht]
    simp only [h1, h3, h15, h16, h17, hc', he, loopR_succ, loopOf, findLoop, firstRegion, Option.some_or, Option.none_or, Option.getD_some, Option.some.injEq, Try.f75, EVb, EVc, Int.reduceEq, Int.reduceToNat, Int.reduceLE, Int.reduceLT, Int.reduceAdd, Int.reduceMul, Int.reduceSub, Int.reduceNeg, Nat.reduceAdd, Nat.reduceSub, Nat.reduceMul, Nat.reduceLT, Nat.reduceBEq, Nat.reduceEqDiff, Nat.reduceLeDiff, FACTS, TYPES]
/-- The same behind an instruction. -/
theorem loop_needed_15 (kf : Nat) (ar : Option Nat) (pc : AObj) (X : Heap) (n : Nat) (rs : List Int) (nl : Bool) (cap : Option Nat) (hlen : rs.length ≤ 4611686018427387904) (hr : ∀ r ∈ rs, 0 ≤ r ∧ r < n) (as0 : List Bool) (ha0 : as0.length = n)
    (k : Nat) (l : Ass) (m : Nat) (z : Option Out) (hz : loopR Try.prog tab kf ar LB75_15 75 58 [3, 47, 48, 49] m k l (pc :: rB as0 :: .cells 64 [.hsl 1 0 n n 1] :: X) = z) (hm : X.length + 3 = m) (hk : rs.length < k)
    (h3 : asc l 3 = .ptr 2 0) (h47 : asc l 47 = sI rs nl cap) (h48 : asc l 48 = ii rs.length) (h49 : asc l 49 = ii (0 : Nat)) :
    z = some (.exit 4 (fr 58 [(50, bb false), (3, .ptr 2 0), (47, sI rs nl cap), (48, ii rs.length), (49, ii rs.length)]) (pc :: rB (mark as0 true rs) :: .cells 64 [.hsl 1 0 n n 1] :: X)) := by
  subst hz
  refine loop_nat rs.length (fun k l H => loopR Try.prog tab kf ar LB75_15 75 58 [3, 47, 48, 49] m k l H)
    (fun i l H => asc l 3 = .ptr 2 0 ∧ asc l 47 = sI rs nl cap ∧ asc l 48 = ii rs.length ∧ asc l 49 = ii i ∧ H = pc :: rB (mark as0 true (rs.take i)) :: .cells 64 [.hsl 1 0 n n 1] :: X)
    (fun z => z = some (.exit 4 (fr 58 [(50, bb false), (3, .ptr 2 0), (47, sI rs nl cap), (48, ii rs.length), (49, ii rs.length)]) (pc :: rB (mark as0 true rs) :: .cells 64 [.hsl 1 0 n n 1] :: X))) ?_ rs.length 0 k l _ (by omega) hk ⟨h3, h47, h48, h49, rfl⟩
  clear h3 h47 h48 h49 hk
  rintro i k l H hi ⟨h3, h47, h48, h49, rfl⟩
  have ht : ∀ q : List Bool, trim m (fr 58 (keep l [3, 47, 48, 49])) (pc :: rB q :: .cells 64 [.hsl 1 0 n n 1] :: X) = pc :: rB q :: .cells 64 [.hsl 1 0 n n 1] :: X := fun q => trim_same (by simp; omega)
  by_cases hc : i < rs.length
  · refine .inr ?_
    have hc' : ((i : Int) < rs.length) := by omega
    have hc0 : (0 : Int) ≤ i := by omega
    have hx := encInts_get hc
    have hw := wrap_succ hc hlen
    obtain ⟨x, hX⟩ : ∃ x, x = rs[i] := ⟨_, rfl⟩
    rw [← hX] at hx
    obtain ⟨x0, x1⟩ := hr x (by rw [hX]; exact List.getElem_mem hc)
    have hm : (mark as0 true (rs.take i)).length = n := by rw [mark_length]; exact ha0
    have hnx : mark as0 true (rs.take (i + 1)) = (mark as0 true (rs.take i)).set x.toNat true := by rw [List.take_succ_eq_append_getElem hc, mark_snoc, ← hX]
    have hxl : x.toNat < n := by omega
    have hel : (encB (mark as0 true (rs.take i))).length = n := by rw [encB_length, hm]
    simp only [loopR_succ, ht]
    simp only [h3, h47, h48, h49, hc', hc0, hx, hw, x0, x1, hel, hxl, encB_set, loopR_succ, loopOf, findLoop, firstRegion, Option.some_or, Option.none_or, Option.getD_some, Option.some.injEq, Try.f75, EVb, EVc, Int.reduceEq, Int.reduceToNat, Int.reduceLE, Int.reduceLT, Int.reduceAdd, Int.reduceMul, Int.reduceSub, Int.reduceNeg, Nat.reduceAdd, Nat.reduceSub, Nat.reduceMul, Nat.reduceLT, Nat.reduceBEq, Nat.reduceEqDiff, Nat.reduceLeDiff, FACTS, TYPES]
    exact ⟨_, _, hc, rfl, (by rfl), (by rfl), (by rfl), (by rfl), by rw [hnx]⟩
  · refine .inl ?_
    have hc' : ¬ ((i : Int) < rs.length) := by omega
    have he : rs.take i = rs := List.take_of_length_le (by omega)
    obtain rfl : i = rs.length := by omega
    simp only [loopR_succ, ht]
    simp only [h3, h47, h48, h49, hc', he, loopR_succ, loopOf, findLoop, firstRegion, Option.some_or, Option.none_or, Option.getD_some, Option.some.injEq, Try.f75, EVb, EVc, Int.reduceEq, Int.reduceToNat, Int.reduceLE, Int.reduceLT, Int.reduceAdd, Int.reduceMul, Int.reduceSub, Int.reduceNeg, Nat.reduceAdd, Nat.reduceSub, Nat.reduceMul, Nat.reduceLT, Nat.reduceBEq, Nat.reduceEqDiff, Nat.reduceLeDiff, FACTS, TYPES]
end Go.Proofs.Sw
namespace Go.Proofs.Sw
set_option linter.unusedVariables false
set_option linter.unusedSimpArgs false
set_option linter.unusedSectionVars false
open Go.Ab
variable [Globals]
theorem mark_getD (b : Bool) : ∀ (rs : List Int) (l : List Bool) (j : Nat), j < l.length → (mark l b rs).getD j false = if (rs.any fun r => r.toNat == j) = true then b else l.getD j false
  | [], l, j, _ => by simp [mark]
  | r :: rs, l, j, h => by
    rw [mark, mark_getD b rs _ j (by simpa using h)]
    by_cases hr : r.toNat = j
    · subst hr
      simp [h]
    · simp only [List.any_cons, beq_iff_eq, hr, decide_false, Bool.false_or, show (r.toNat == j) = false by simpa using hr]
      split
      · rfl
      · simp [List.getElem?_set_ne hr]
end Go.Proofs.Sw
namespace Go.Proofs.Sw
set_option linter.unusedVariables false
set_option linter.unusedSimpArgs false
set_option linter.unusedSectionVars false
open Go.Ab
variable [Globals]
theorem under1_self {n off : Nat} : AV.under1 n (.ptr n off) = false := by simp [AV.under1]
theorem Back_raw (k : Nat) (x y z w : AV) (hx : [x, y, z, w].all AV.isCell = true) (H : Heap) : evalT Try.prog (mkHints tab) (k+1) (.fn 78) [.agg [x, y, z, w]] H = some (.clo 110 [] [.ptr H.length 0], H ++ [.cells 25 [x, y, z, w]]) := by
  simp only [List.all_cons, List.all_nil, Bool.and_true, Bool.and_eq_true] at hx
  rw [ev78]
  simp only [Try.f78, hx, EVb, EVc, Int.reduceEq, Int.reduceToNat, Int.reduceLE, Int.reduceLT, Int.reduceAdd, Int.reduceMul, Int.reduceSub, Int.reduceNeg, Nat.reduceAdd, Nat.reduceSub, Nat.reduceMul, Nat.reduceLT, Nat.reduceBEq, Nat.reduceEqDiff, Nat.reduceLeDiff, FACTS, TYPES]
  rfl
theorem Back_ans (k : Nat) (x y z w : AV) (hx : [x, y, z, w].all AV.isCell = true) : ans (evalT Try.prog (mkHints tab) (k+1) (.fn 78) [.agg [x, y, z, w]] []) = none := by
  rw [Back_raw k x y z w hx]; rfl
theorem Backward_raw (k : Nat) (x : IV) (H : Heap) : evalT Try.prog (mkHints tab) (k+1) (.fn 111) [.c x] H = some (.clo 128 [] [.ptr H.length 0], H ++ [.cells 22 [.c x]]) := by
  rw [ev111]
  simp only [Try.f111, EVb, EVc, Int.reduceEq, Int.reduceToNat, Int.reduceLE, Int.reduceLT, Int.reduceAdd, Int.reduceMul, Int.reduceSub, Int.reduceNeg, Nat.reduceAdd, Nat.reduceSub, Nat.reduceMul, Nat.reduceLT, Nat.reduceBEq, Nat.reduceEqDiff, Nat.reduceLeDiff, FACTS, TYPES]
  rfl
theorem Backward_ans (k : Nat) (x : IV) : ans (evalT Try.prog (mkHints tab) (k+1) (.fn 111) [.c x] []) = none := by
  rw [Backward_raw]; rfl
end Go.Proofs.Sw
namespace Go.Proofs.Sw
set_option linter.unusedVariables false
set_option linter.unusedSimpArgs false
set_option linter.unusedSectionVars false
open Go.Ab
variable [Globals]
theorem needL_length (aq : List Bool) : ∀ code : List Ins, (needL aq code).1.length = aq.length ∧ (needL aq code).2.length = code.length
  | [] => ⟨rfl, rfl⟩
  | i :: rest => by
    obtain ⟨h1, h2⟩ := needL_length aq rest
    simp only [needL]
    split
    · exact ⟨by rw [mark_length]; simp [h1], by simp [h2]⟩
    · exact ⟨h1, by simp [h2]⟩
theorem rep_set (i : Nat) (fl : List Bool) : (List.replicate (i + 1) false ++ fl).set i true = List.replicate i false ++ (true :: fl) := by
  rw [List.replicate_succ', List.append_assoc, List.set_append_right _ _ (by simp)]
  simp
theorem rep_keep (i : Nat) (fl : List Bool) : List.replicate (i + 1) false ++ fl = List.replicate i false ++ (false :: fl) := by
  rw [List.replicate_succ', List.append_assoc]; rfl
/-- Memory while the instructions are gone through from behind. -/
noncomputable abbrev hN (x0 x1 x2 x3 : IV) (n N : Nat) (cs : IV) (l0 l1 : Ass) (aq out : List Bool) : Heap :=
  [.cells 25 [.c x0, .c x1, .c x2, .c x3], rB aq, .cells 64 [.hsl 1 0 n n 1], rB out, .cells 64 [.hsl 3 0 N N 1], .cells 25 [.c x0, .c x1, .c x2, .c x3],
   rfObj #[31, 32] RA75_9 RB75_9 75 .ready none (fr 58 l0), .cells 163 [.yld 6], .cells 22 [.c cs], rfObj #[11, 12] RA110_3 RB110_3 110 .ready none (fr 18 l1)]
theorem loop_needed_B (kf : Nat) (x0 x1 x2 x3 : IV) (n : Nat) (code : List Ins) (nl : Bool) (cap : Option Nat) (l0 l1 : Ass) (c0 : (l0.all fun e => AV.under 10 e.2) = true) (c1 : (l1.all fun e => AV.under 10 e.2) = true)
    (g3 : asc l0 3 = .ptr 2 0) (g6 : asc l0 6 = .ptr 4 0) (g2 : asc l1 2 = .ptr 7 0) (as0 : List Bool) (ha0 : as0.length = n) (hcode : ∀ i ∈ code, mayM i n = true) (hlen : code.length ≤ 1000000)
    (k : Nat) (l : Ass) (z : Option Out) (hz : loopR Try.prog tab (kf + 10) none LB128_1 128 19 [0, 1, 3] 10 k l (hN x0 x1 x2 x3 n code.length (.slice (encCode code) code.length nl cap) l0 l1 as0 (List.replicate code.length false)) = z) (hk : code.length < k)
    (a0 : asc l 0 = .yld 9) (a1 : asc l 1 = .ptr 8 0) (a3 : asc l 3 = ii ((code.length : Int) - 1)) :
    ∃ l', z = some (.exit 0 (fr 19 l') (hN x0 x1 x2 x3 n code.length (.slice (encCode code) code.length nl cap) l0 l1 (needL as0 code).1 (needL as0 code).2)) := by
  subst hz
  refine loop_nat code.length (fun k l H => loopR Try.prog tab (kf + 10) none LB128_1 128 19 [0, 1, 3] 10 k l H)
    (fun j l H => asc l 0 = .yld 9 ∧ asc l 1 = .ptr 8 0 ∧ asc l 3 = ii ((code.length : Int) - j - 1) ∧
      H.take 10 = hN x0 x1 x2 x3 n code.length (.slice (encCode code) code.length nl cap) l0 l1 (needL as0 (code.drop (code.length - j))).1 (List.replicate (code.length - j) false ++ (needL as0 (code.drop (code.length - j))).2))
    (fun z => ∃ l', z = some (.exit 0 (fr 19 l') (hN x0 x1 x2 x3 n code.length (.slice (encCode code) code.length nl cap) l0 l1 (needL as0 code).1 (needL as0 code).2))) ?_ code.length 0 k l _ (by omega) hk
    ⟨a0, a1, by rw [a3]; simp, by simp [needL]⟩
  clear a0 a1 a3 hk
  rintro j k l H hj ⟨a0, a1, a3, hH⟩
  have ht : trim 10 (fr 19 (keep l [0, 1, 3])) H = hN x0 x1 x2 x3 n code.length (.slice (encCode code) code.length nl cap) l0 l1 (needL as0 (code.drop (code.length - j))).1 (List.replicate (code.length - j) false ++ (needL as0 (code.drop (code.length - j))).2) := by
    rw [trim_fr (by simp only [a0, a1, a3, EVb, EVc, Int.reduceEq, Int.reduceToNat, Int.reduceLE, Int.reduceLT, Int.reduceAdd, Int.reduceMul, Int.reduceSub, Int.reduceNeg, Nat.reduceAdd, Nat.reduceSub, Nat.reduceMul, Nat.reduceLT, Nat.reduceBEq, Nat.reduceEqDiff, Nat.reduceLeDiff]) (by rw [hH]; simp only [c0, c1, EVb, EVc, Int.reduceEq, Int.reduceToNat, Int.reduceLE, Int.reduceLT, Int.reduceAdd, Int.reduceMul, Int.reduceSub, Int.reduceNeg, Nat.reduceAdd, Nat.reduceSub, Nat.reduceMul, Nat.reduceLT, Nat.reduceBEq, Nat.reduceEqDiff, Nat.reduceLeDiff]), hH]
  by_cases hc : j < code.length
  · refine .inr ?_
    obtain ⟨i, hi⟩ : ∃ i, i + 1 = code.length - j := ⟨code.length - j - 1, by omega⟩
    rw [← hi] at ht
    have hil : i < code.length := by omega
    obtain ⟨x, hX⟩ : ∃ x, x = code[i] := ⟨_, rfl⟩
    have hd : code.drop i = x :: code.drop (i + 1) := by rw [hX]; exact List.drop_eq_getElem_cons hil
    have hx := encCode_get hil
    rw [← hX] at hx
    have a3' : asc l 3 = ii (i : Int) := by rw [a3]; congr 2; omega
    have hi0 : (0 : Int) ≤ i := by omega
    have hi1 : (i : Int) < code.length := by omega
    have hi2 : i < code.length := by omega
    have hw : IntKind.wrap .i64 ((i : Int) - 1) = (code.length : Int) - (j + 1 : Nat) - 1 := by rw [wrap64 (by omega) (by omega)]; omega
    have hm := hcode x (by rw [hX]; exact List.getElem_mem hil)
    obtain ⟨aq, haq⟩ : ∃ aq, aq = (needL as0 (code.drop (i + 1))).1 := ⟨_, rfl⟩
    obtain ⟨fl, hfl⟩ : ∃ fl, fl = (needL as0 (code.drop (i + 1))).2 := ⟨_, rfl⟩
    have hdd : code.drop (code.length - j) = code.drop (i + 1) := by rw [hi]
    rw [hi] at ht
    rw [hdd, ← hi, ← haq, ← hfl] at ht
    have haql : aq.length = n := by rw [haq, (needL_length _ _).1]; exact ha0
    have hfll : fl.length + (i + 1) = code.length := by rw [hfl, (needL_length _ _).2]; simp; omega
    have hel : (encB aq).length = n := by rw [encB_length, haql]
    have hol : (encB (List.replicate (i + 1) false ++ fl)).length = code.length := by rw [encB_length]; simp; omega
    have hm' := hm
    simp only [mayM, Bool.and_eq_true, decide_eq_true_eq] at hm'
    obtain ⟨⟨⟨⟨m1, m2, m3, m4, m5⟩, _⟩, m6⟩, m7⟩ := hm'
    have ht2 : x.to.toNat < n := by omega
    have hget := encB_get (l := aq) m3 (by rw [haql]; exact m4)
    have hnx : code.drop (code.length - (j + 1)) = x :: code.drop (i + 1) := by rw [← hd]; congr 1; omega
    have hii : code.length - (j + 1) = i := by omega
    have hran : ∀ r ∈ asks x, 0 ≤ r ∧ r < (n : Int) := by
      intro r hr
      unfold asks at hr
      split at hr
      · rename_i h34
        simp only [List.mem_cons, List.not_mem_nil, or_false] at hr
        rcases hr with rfl | rfl
        · exact m6
        · exact m7 h34
      · split at hr
        · simp only [List.mem_cons, List.not_mem_nil, or_false] at hr
          subst hr
          exact m6
        · cases hr
    cases hq : aq.getD x.to.toNat false with
    | false =>
      rw [hq] at hget
      have hnew : (needL as0 (x :: code.drop (i + 1))) = (aq, false :: fl) := by
        simp only [needL, ← haq, ← hfl, hq]
        rfl
      simp only [loopR_succ, ht]
      simp only [a0, a1, a3', hi0, hi1, hx, hw, g3, g6, g2, evalT_round, roundA_rf, hel, m3, m4, hget, rfAs, rfBd, rfOf, findRF, firstRegion, Option.some_or, Option.none_or, Option.getD_some, Option.some.injEq, findLoop, loopOf, loopR_succ, loopOf, findLoop, firstRegion, Option.some_or, Option.none_or, Option.getD_some, Option.some.injEq, Try.f128, Try.f110, Try.f75, EVb, EVc, Int.reduceEq, Int.reduceToNat, Int.reduceLE, Int.reduceLT, Int.reduceAdd, Int.reduceMul, Int.reduceSub, Int.reduceNeg, Nat.reduceAdd, Nat.reduceSub, Nat.reduceMul, Nat.reduceLT, Nat.reduceBEq, Nat.reduceEqDiff, Nat.reduceLeDiff, FACTS, TYPES]
      refine ⟨_, _, hc, rfl, (by rfl), (by rfl), (by rfl), ?_⟩
      rw [hnx, hnew, hii, ← rep_keep]
      rfl
    | true =>
      rw [hq] at hget
      have hnew : (needL as0 (x :: code.drop (i + 1))) = (mark (aq.set x.to.toNat false) true (asks x), true :: fl) := by
        simp only [needL, ← haq, ← hfl, hq]
        rfl
      have hA := asks_ev (kf + 7) x.op x.to x.a x.b x.c
      simp only [run, aI, ii, sI] at hA
      have hal : (asks x).length ≤ 2 := by unfold asks; split <;> (try split) <;> simp
      simp only [loopR_succ, ht]
      simp only [a0, a1, a3', hi0, hi1, hi2, hx, hw, g3, g6, g2, evalT_round, roundA_rf, hel, hol, ht2, m3, m4, hget, hA, encB_set, rep_set, rfAs, rfBd, rfOf, findRF, firstRegion, Option.some_or, Option.none_or, Option.getD_some, Option.some.injEq, findLoop, loopOf, loopR_succ, loopOf, findLoop, firstRegion, Option.some_or, Option.none_or, Option.getD_some, Option.some.injEq, Try.f128, Try.f110, Try.f75, EVb, EVc, Int.reduceEq, Int.reduceToNat, Int.reduceLE, Int.reduceLT, Int.reduceAdd, Int.reduceMul, Int.reduceSub, Int.reduceNeg, Nat.reduceAdd, Nat.reduceSub, Nat.reduceMul, Nat.reduceLT, Nat.reduceBEq, Nat.reduceEqDiff, Nat.reduceLeDiff, FACTS, TYPES]
      rw [evalCode_loopB LB75_15 lp75_15]; rotate_left; rfl; rfl; rfl
      generalize hz : loopR _ _ _ _ _ _ _ _ _ _ _ _ = z
      have h15 := loop_needed_15 (kf + 8) (some 6) _ _ n (asks x) (nlE (asks x)) (cpE (asks x)) (by omega) hran (aq.set x.to.toNat false) (by simp [haql]) _ _ _ z hz (by rfl) (by omega) (by simp only [g3, EVb, EVc, Int.reduceEq, Int.reduceToNat, Int.reduceLE, Int.reduceLT, Int.reduceAdd, Int.reduceMul, Int.reduceSub, Int.reduceNeg, Nat.reduceAdd, Nat.reduceSub, Nat.reduceMul, Nat.reduceLT, Nat.reduceBEq, Nat.reduceEqDiff, Nat.reduceLeDiff]) (by simp only [EVb, EVc, Int.reduceEq, Int.reduceToNat, Int.reduceLE, Int.reduceLT, Int.reduceAdd, Int.reduceMul, Int.reduceSub, Int.reduceNeg, Nat.reduceAdd, Nat.reduceSub, Nat.reduceMul, Nat.reduceLT, Nat.reduceBEq, Nat.reduceEqDiff, Nat.reduceLeDiff]) (by simp only [EVb, EVc, Int.reduceEq, Int.reduceToNat, Int.reduceLE, Int.reduceLT, Int.reduceAdd, Int.reduceMul, Int.reduceSub, Int.reduceNeg, Nat.reduceAdd, Nat.reduceSub, Nat.reduceMul, Nat.reduceLT, Nat.reduceBEq, Nat.reduceEqDiff, Nat.reduceLeDiff]) (by simp only [EVb, EVc, Int.reduceEq, Int.reduceToNat, Int.reduceLE, Int.reduceLT, Int.reduceAdd, Int.reduceMul, Int.reduceSub, Int.reduceNeg, Nat.reduceAdd, Nat.reduceSub, Nat.reduceMul, Nat.reduceLT, Nat.reduceBEq, Nat.reduceEqDiff, Nat.reduceLeDiff])
      rw [h15]
      simp only [EVb, EVc, Int.reduceEq, Int.reduceToNat, Int.reduceLE, Int.reduceLT, Int.reduceAdd, Int.reduceMul, Int.reduceSub, Int.reduceNeg, Nat.reduceAdd, Nat.reduceSub, Nat.reduceMul, Nat.reduceLT, Nat.reduceBEq, Nat.reduceEqDiff, Nat.reduceLeDiff]
      refine ⟨_, _, hc, rfl, (by rfl), (by rfl), (by rw [← hw]; rfl), ?_⟩
      rw [hnx, hnew, hii]
      dsimp only
      rw [← rep_set]
      rfl
  · refine .inl ?_
    obtain rfl : j = code.length := by omega
    have hc' : ¬ ((0 : Int) ≤ (code.length : Int) - code.length - 1) := by omega
    simp only [Nat.sub_self, List.drop_zero, List.replicate_zero, List.nil_append] at ht
    simp only [loopR_succ, ht]
    simp only [a0, a1, a3, hc', loopR_succ, loopOf, findLoop, firstRegion, Option.some_or, Option.none_or, Option.getD_some, Option.some.injEq, Try.f128, EVb, EVc, Int.reduceEq, Int.reduceToNat, Int.reduceLE, Int.reduceLT, Int.reduceAdd, Int.reduceMul, Int.reduceSub, Int.reduceNeg, Nat.reduceAdd, Nat.reduceSub, Nat.reduceMul, Nat.reduceLT, Nat.reduceBEq, Nat.reduceEqDiff, Nat.reduceLeDiff, FACTS, TYPES]
    exact ⟨_, rfl⟩
end Go.Proofs.Sw
namespace Go.Proofs.Sw
set_option linter.unusedVariables false
set_option linter.unusedSimpArgs false
set_option linter.unusedSectionVars false
open Go.Ab
variable [Globals]
/-- What is needed of a program that may be. -/
theorem needed_ev (k n : Nat) (ins : Int) (code : List Ins) (outs : List Int) (nl : Bool) (cap : Option Nat) (nl2 : Bool) (cap2 : Option Nat) (hk : outs.length + code.length + 100 ≤ k) (hr : rightM ⟨ins, n, code, outs⟩ = true) :
    run (k+1) 75 [aP ⟨ins, n, code, outs⟩ nl cap nl2 cap2] = some (sB (neededM ⟨ins, n, code, outs⟩) false none) := by
  have hr' := hr
  simp only [rightM, headM, Bool.and_eq_true, decide_eq_true_eq] at hr'
  obtain ⟨⟨hh, ho⟩, hc⟩ := hr'
  have q1 : (0 : Int) ≤ n := by omega
  have q2 : n ≤ roomBytes := Nat.le_trans (show n ≤ 128 by omega) (by decide)
  have q3 : (0 : Int) ≤ code.length := by omega
  have q4 : code.length ≤ roomBytes := Nat.le_trans (show code.length ≤ 16384 by omega) (by decide)
  have hout : ∀ r ∈ outs, 0 ≤ r ∧ r < (n : Int) := fun r h => by have := List.all_eq_true.1 ho r h; simpa using this
  have hcode : ∀ i ∈ code, mayM i n = true := fun i h => List.all_eq_true.1 hc i h
  obtain ⟨k, rfl⟩ : ∃ j, k = j + 60 := ⟨k - 60, by omega⟩
  have hbk := Back_raw (k + 59) (ii ins) (ii n) (sC code nl cap) (sI outs nl2 cap2) rfl
  have hba := Back_ans (k + 59) (ii ins) (ii n) (sC code nl cap) (sI outs nl2 cap2) rfl
  have hrt := right_ev (k + 58) ⟨ins, n, code, outs⟩ nl cap nl2 cap2 (by simp only; omega)
  have hwr := Backward_raw (k + 58) (.slice (encCode code) code.length nl cap)
  have hwa := Backward_ans (k + 58) (.slice (encCode code) code.length nl cap)
  have hw : IntKind.wrap .i64 ((code.length : Int) - 1) = (code.length : Int) - 1 := by rw [wrap64 (by omega) (by omega)]
  simp only [run, aP, ii, sC, sI, bb, hr] at hbk hba hrt
  rw [run, ev75, ans_trim]
  simp only [Try.f75, aP, ii, bb, q1, q2, encB_rep, EVb, EVc, Int.reduceEq, Int.reduceToNat, Int.reduceLE, Int.reduceLT, Int.reduceAdd, Int.reduceMul, Int.reduceSub, Int.reduceNeg, Nat.reduceAdd, Nat.reduceSub, Nat.reduceMul, Nat.reduceLT, Nat.reduceBEq, Nat.reduceEqDiff, Nat.reduceLeDiff, FACTS, TYPES]
  rw [evalCode_loopB LB75_3 lp75_3]; rotate_left; rfl; rfl; rfl
  generalize hz : loopR _ _ _ _ _ _ _ _ _ _ _ _ = z
  obtain rfl := loop_needed_3 (k + 60) _ .dead n outs nl2 cap2 (by omega) hout (List.replicate n false) (by simp) _ _ _ z hz (by omega) (by rfl) (by rfl) (by rfl) (by rfl) (by rfl) (by rfl)
  clear hz
  simp only [q3, q4, encB_rep, hba, hbk, EVb, EVc, Int.reduceEq, Int.reduceToNat, Int.reduceLE, Int.reduceLT, Int.reduceAdd, Int.reduceMul, Int.reduceSub, Int.reduceNeg, Nat.reduceAdd, Nat.reduceSub, Nat.reduceMul, Nat.reduceLT, Nat.reduceBEq, Nat.reduceEqDiff, Nat.reduceLeDiff, FACTS, TYPES]
  rw [evalCode_rf RA75_9 RB75_9]; rotate_left; rfl; rfl
  simp only [q3, q4, hba, hbk, ev110, Try.f110, hrt, hwa, hwr, EVb, EVc, Int.reduceEq, Int.reduceToNat, Int.reduceLE, Int.reduceLT, Int.reduceAdd, Int.reduceMul, Int.reduceSub, Int.reduceNeg, Nat.reduceAdd, Nat.reduceSub, Nat.reduceMul, Nat.reduceLT, Nat.reduceBEq, Nat.reduceEqDiff, Nat.reduceLeDiff, FACTS, TYPES]
  rw [evalCode_rf RA110_3 RB110_3]; rotate_left; rfl; rfl
  simp only [ev128, Try.f128, hw, EVb, EVc, Int.reduceEq, Int.reduceToNat, Int.reduceLE, Int.reduceLT, Int.reduceAdd, Int.reduceMul, Int.reduceSub, Int.reduceNeg, Nat.reduceAdd, Nat.reduceSub, Nat.reduceMul, Nat.reduceLT, Nat.reduceBEq, Nat.reduceEqDiff, Nat.reduceLeDiff, FACTS, TYPES]
  rw [evalCode_loopB LB128_1 lp128_1]; rotate_left; rfl; rfl; rfl
  generalize hz : loopR _ _ _ _ _ _ _ _ _ _ _ _ = z
  obtain ⟨l', rfl⟩ := loop_needed_B (k + 48) (.int .i64 ins) (.int .i64 n) (.slice (encCode code) code.length nl cap) (.slice (encInts outs) outs.length nl2 cap2) n code nl cap _ _ (by rfl) (by rfl) (by rfl) (by rfl) (by rfl)
    (asked0 n outs) (by simp [asked0, mark_length]) hcode (by omega) _ _ z hz (by omega) (by rfl) (by rfl) (by rfl)
  have hfl : (encB (needL (asked0 n outs) code).2).length = code.length := by rw [encB_length, (needL_length _ _).2]
  have htk : (encB (needL (asked0 n outs) code).2).take code.length = encB (needL (asked0 n outs) code).2 := by rw [← hfl, List.take_length]
  have hnm : neededM ⟨ins, n, code, outs⟩ = (needL (asked0 n outs) code).2 := rfl
  simp only [EVb, EVc, Int.reduceEq, Int.reduceToNat, Int.reduceLE, Int.reduceLT, Int.reduceAdd, Int.reduceMul, Int.reduceSub, Int.reduceNeg, Nat.reduceAdd, Nat.reduceSub, Nat.reduceMul, Nat.reduceLT, Nat.reduceBEq, Nat.reduceEqDiff, Nat.reduceLeDiff, FACTS, TYPES]
  rw [hnm]
  simp only [hfl, htk, encB_length, EVb, EVc, Int.reduceEq, Int.reduceToNat, Int.reduceLE, Int.reduceLT, Int.reduceAdd, Int.reduceMul, Int.reduceSub, Int.reduceNeg, Nat.reduceAdd, Nat.reduceSub, Nat.reduceMul, Nat.reduceLT, Nat.reduceBEq, Nat.reduceEqDiff, Nat.reduceLeDiff, FACTS, TYPES]
  simp only [Nat.le_refl, if_true, sB, (needL_length _ _).2]
end Go.Proofs.Sw
namespace Go.Proofs.Sw
set_option linter.unusedVariables false
set_option linter.unusedSimpArgs false
set_option linter.unusedSectionVars false
open Go.Ab
variable [Globals]
/-- Marking what is asked, in a row at place 1. -/
theorem loop_Needed_6 (kf : Nat) (pc r1 c1 : AObj) (n : Nat) (outs : List Int) (nl : Bool) (cap : Option Nat) (hlen : outs.length ≤ 4611686018427387904) (hr : ∀ r ∈ outs, 0 ≤ r ∧ r < n) (as0 : List Bool) (ha0 : as0.length = n)
    (k : Nat) (l : Ass) (H : Heap) (z : Option Out) (hz : loopR Try.prog tab kf none LB46_6 46 62 [1, 4, 5, 23, 24, 25] 5 k l H = z) (hk : outs.length < k)
    (h1 : asc l 1 = .ptr 0 0) (h4 : asc l 4 = .ptr 2 0) (h5 : asc l 5 = .ptr 4 0) (h23 : asc l 23 = sI outs nl cap) (h24 : asc l 24 = ii outs.length) (h25 : asc l 25 = ii (0 : Nat)) (hH : H = [pc, r1, c1, rB as0, .cells 64 [.hsl 3 0 n n 1]]) :
    z = some (.exit 0 (fr 62 [(26, bb false), (1, .ptr 0 0), (4, .ptr 2 0), (5, .ptr 4 0), (23, sI outs nl cap), (24, ii outs.length), (25, ii outs.length)]) [pc, r1, c1, rB (mark as0 true outs), .cells 64 [.hsl 3 0 n n 1]]) := by
  subst hH
  subst hz
  refine loop_nat outs.length (fun k l H => loopR Try.prog tab kf none LB46_6 46 62 [1, 4, 5, 23, 24, 25] 5 k l H)
    (fun i l H => asc l 1 = .ptr 0 0 ∧ asc l 4 = .ptr 2 0 ∧ asc l 5 = .ptr 4 0 ∧ asc l 23 = sI outs nl cap ∧ asc l 24 = ii outs.length ∧ asc l 25 = ii i ∧ H = [pc, r1, c1, rB (mark as0 true (outs.take i)), .cells 64 [.hsl 3 0 n n 1]])
    (fun z => z = some (.exit 0 (fr 62 [(26, bb false), (1, .ptr 0 0), (4, .ptr 2 0), (5, .ptr 4 0), (23, sI outs nl cap), (24, ii outs.length), (25, ii outs.length)]) [pc, r1, c1, rB (mark as0 true outs), .cells 64 [.hsl 3 0 n n 1]])) ?_ outs.length 0 k l _ (by omega) hk ⟨h1, h4, h5, h23, h24, h25, rfl⟩
  clear h1 h4 h5 h23 h24 h25 hk
  rintro i k l H hi ⟨h1, h4, h5, h23, h24, h25, rfl⟩
  have ht : ∀ q : List Bool, trim 5 (fr 62 (keep l [1, 4, 5, 23, 24, 25])) [pc, r1, c1, rB q, .cells 64 [.hsl 3 0 n n 1]] = [pc, r1, c1, rB q, .cells 64 [.hsl 3 0 n n 1]] := fun q => trim_same rfl
  by_cases hc : i < outs.length
  · refine .inr ?_
    have hc' : ((i : Int) < outs.length) := by omega
    have hc0 : (0 : Int) ≤ i := by omega
    have hx := encInts_get hc
    have hw := wrap_succ hc hlen
    obtain ⟨x, hX⟩ : ∃ x, x = outs[i] := ⟨_, rfl⟩
    rw [← hX] at hx
    obtain ⟨x0, x1⟩ := hr x (by rw [hX]; exact List.getElem_mem hc)
    have hm : (mark as0 true (outs.take i)).length = n := by rw [mark_length]; exact ha0
    have hnx : mark as0 true (outs.take (i + 1)) = (mark as0 true (outs.take i)).set x.toNat true := by rw [List.take_succ_eq_append_getElem hc, mark_snoc, ← hX]
    have hxl : x.toNat < n := by omega
    have hel : (encB (mark as0 true (outs.take i))).length = n := by rw [encB_length, hm]
    simp only [loopR_succ, ht]
    simp only [h1, h4, h5, h23, h24, h25, hc', hc0, hx, hw, x0, x1, hel, hxl, encB_set, loopR_succ, loopOf, findLoop, firstRegion, Option.some_or, Option.none_or, Option.getD_some, Option.some.injEq, Try.f46, EVb, EVc, Int.reduceEq, Int.reduceToNat, Int.reduceLE, Int.reduceLT, Int.reduceAdd, Int.reduceMul, Int.reduceSub, Int.reduceNeg, Nat.reduceAdd, Nat.reduceSub, Nat.reduceMul, Nat.reduceLT, Nat.reduceBEq, Nat.reduceEqDiff, Nat.reduceLeDiff, FACTS, TYPES]
    exact ⟨_, _, hc, rfl, (by rfl), (by rfl), (by rfl), (by rfl), (by rfl), (by rfl), by rw [hnx]⟩
  · refine .inl ?_
    have hc' : ¬ ((i : Int) < outs.length) := by omega
    have he : outs.take i = outs := List.take_of_length_le (by omega)
    obtain rfl : i = outs.length := by omega
    simp only [loopR_succ, ht]
    simp only [h1, h4, h5, h23, h24, h25, hc', he, loopR_succ, loopOf, findLoop, firstRegion, Option.some_or, Option.none_or, Option.getD_some, Option.some.injEq, Try.f46, EVb, EVc, Int.reduceEq, Int.reduceToNat, Int.reduceLE, Int.reduceLT, Int.reduceAdd, Int.reduceMul, Int.reduceSub, Int.reduceNeg, Nat.reduceAdd, Nat.reduceSub, Nat.reduceMul, Nat.reduceLT, Nat.reduceBEq, Nat.reduceEqDiff, Nat.reduceLeDiff, FACTS, TYPES]
/-- The same behind an instruction. -/
theorem loop_Needed_16 (kf : Nat) (ar : Option Nat) (pc r1 c1 : AObj) (X : Heap) (n : Nat) (rs : List Int) (nl : Bool) (cap : Option Nat) (hlen : rs.length ≤ 4611686018427387904) (hr : ∀ r ∈ rs, 0 ≤ r ∧ r < n) (as0 : List Bool) (ha0 : as0.length = n)
    (k : Nat) (l : Ass) (m : Nat) (z : Option Out) (hz : loopR Try.prog tab kf ar LB46_16 46 62 [5, 51, 52, 53] m k l (pc :: r1 :: c1 :: rB as0 :: .cells 64 [.hsl 3 0 n n 1] :: X) = z) (hm : X.length + 5 = m) (hk : rs.length < k)
    (h5 : asc l 5 = .ptr 4 0) (h51 : asc l 51 = sI rs nl cap) (h52 : asc l 52 = ii rs.length) (h53 : asc l 53 = ii (0 : Nat)) :
    z = some (.exit 4 (fr 62 [(54, bb false), (5, .ptr 4 0), (51, sI rs nl cap), (52, ii rs.length), (53, ii rs.length)]) (pc :: r1 :: c1 :: rB (mark as0 true rs) :: .cells 64 [.hsl 3 0 n n 1] :: X)) := by
  subst hz
  refine loop_nat rs.length (fun k l H => loopR Try.prog tab kf ar LB46_16 46 62 [5, 51, 52, 53] m k l H)
    (fun i l H => asc l 5 = .ptr 4 0 ∧ asc l 51 = sI rs nl cap ∧ asc l 52 = ii rs.length ∧ asc l 53 = ii i ∧ H = pc :: r1 :: c1 :: rB (mark as0 true (rs.take i)) :: .cells 64 [.hsl 3 0 n n 1] :: X)
    (fun z => z = some (.exit 4 (fr 62 [(54, bb false), (5, .ptr 4 0), (51, sI rs nl cap), (52, ii rs.length), (53, ii rs.length)]) (pc :: r1 :: c1 :: rB (mark as0 true rs) :: .cells 64 [.hsl 3 0 n n 1] :: X))) ?_ rs.length 0 k l _ (by omega) hk ⟨h5, h51, h52, h53, rfl⟩
  clear h5 h51 h52 h53 hk
  rintro i k l H hi ⟨h5, h51, h52, h53, rfl⟩
  have ht : ∀ q : List Bool, trim m (fr 62 (keep l [5, 51, 52, 53])) (pc :: r1 :: c1 :: rB q :: .cells 64 [.hsl 3 0 n n 1] :: X) = pc :: r1 :: c1 :: rB q :: .cells 64 [.hsl 3 0 n n 1] :: X := fun q => trim_same (by simp; omega)
  by_cases hc : i < rs.length
  · refine .inr ?_
    have hc' : ((i : Int) < rs.length) := by omega
    have hc0 : (0 : Int) ≤ i := by omega
    have hx := encInts_get hc
    have hw := wrap_succ hc hlen
    obtain ⟨x, hX⟩ : ∃ x, x = rs[i] := ⟨_, rfl⟩
    rw [← hX] at hx
    obtain ⟨x0, x1⟩ := hr x (by rw [hX]; exact List.getElem_mem hc)
    have hm : (mark as0 true (rs.take i)).length = n := by rw [mark_length]; exact ha0
    have hnx : mark as0 true (rs.take (i + 1)) = (mark as0 true (rs.take i)).set x.toNat true := by rw [List.take_succ_eq_append_getElem hc, mark_snoc, ← hX]
    have hxl : x.toNat < n := by omega
    have hel : (encB (mark as0 true (rs.take i))).length = n := by rw [encB_length, hm]
    simp only [loopR_succ, ht]
    simp only [h5, h51, h52, h53, hc', hc0, hx, hw, x0, x1, hel, hxl, encB_set, loopR_succ, loopOf, findLoop, firstRegion, Option.some_or, Option.none_or, Option.getD_some, Option.some.injEq, Try.f46, EVb, EVc, Int.reduceEq, Int.reduceToNat, Int.reduceLE, Int.reduceLT, Int.reduceAdd, Int.reduceMul, Int.reduceSub, Int.reduceNeg, Nat.reduceAdd, Nat.reduceSub, Nat.reduceMul, Nat.reduceLT, Nat.reduceBEq, Nat.reduceEqDiff, Nat.reduceLeDiff, FACTS, TYPES]
    exact ⟨_, _, hc, rfl, (by rfl), (by rfl), (by rfl), (by rfl), by rw [hnx]⟩
  · refine .inl ?_
    have hc' : ¬ ((i : Int) < rs.length) := by omega
    have he : rs.take i = rs := List.take_of_length_le (by omega)
    obtain rfl : i = rs.length := by omega
    simp only [loopR_succ, ht]
    simp only [h5, h51, h52, h53, hc', he, loopR_succ, loopOf, findLoop, firstRegion, Option.some_or, Option.none_or, Option.getD_some, Option.some.injEq, Try.f46, EVb, EVc, Int.reduceEq, Int.reduceToNat, Int.reduceLE, Int.reduceLT, Int.reduceAdd, Int.reduceMul, Int.reduceSub, Int.reduceNeg, Nat.reduceAdd, Nat.reduceSub, Nat.reduceMul, Nat.reduceLT, Nat.reduceBEq, Nat.reduceEqDiff, Nat.reduceLeDiff, FACTS, TYPES]
/-- Memory while the instructions are gone through from behind. -/
noncomputable abbrev hM (x0 x1 x2 x3 : IV) (n N : Nat) (cs : IV) (l0 l1 : Ass) (aq out : List Bool) : Heap :=
  [.cells 25 [.c x0, .c x1, .c x2, .c x3], rB out, .cells 64 [.hsl 1 0 N N 1], rB aq, .cells 64 [.hsl 3 0 n n 1], .cells 25 [.c x0, .c x1, .c x2, .c x3],
   rfObj #[35, 36] RA46_11 RB46_11 46 .ready none (fr 62 l0), .cells 163 [.yld 6], .cells 22 [.c cs], rfObj #[11, 12] RA110_3 RB110_3 110 .ready none (fr 18 l1)]
theorem loop_Needed_B (kf : Nat) (x0 x1 x2 x3 : IV) (n : Nat) (code : List Ins) (nl : Bool) (cap : Option Nat) (l0 l1 : Ass) (c0 : (l0.all fun e => AV.under 10 e.2) = true) (c1 : (l1.all fun e => AV.under 10 e.2) = true)
    (g3 : asc l0 4 = .ptr 2 0) (g6 : asc l0 5 = .ptr 4 0) (g2 : asc l1 2 = .ptr 7 0) (as0 : List Bool) (ha0 : as0.length = n) (hcode : ∀ i ∈ code, mayM i n = true) (hlen : code.length ≤ 1000000)
    (k : Nat) (l : Ass) (z : Option Out) (hz : loopR Try.prog tab (kf + 10) none LB128_1 128 19 [0, 1, 3] 10 k l (hM x0 x1 x2 x3 n code.length (.slice (encCode code) code.length nl cap) l0 l1 as0 (List.replicate code.length false)) = z) (hk : code.length < k)
    (a0 : asc l 0 = .yld 9) (a1 : asc l 1 = .ptr 8 0) (a3 : asc l 3 = ii ((code.length : Int) - 1)) :
    ∃ l', z = some (.exit 0 (fr 19 l') (hM x0 x1 x2 x3 n code.length (.slice (encCode code) code.length nl cap) l0 l1 (needL as0 code).1 (needL as0 code).2)) := by
  subst hz
  refine loop_nat code.length (fun k l H => loopR Try.prog tab (kf + 10) none LB128_1 128 19 [0, 1, 3] 10 k l H)
    (fun j l H => asc l 0 = .yld 9 ∧ asc l 1 = .ptr 8 0 ∧ asc l 3 = ii ((code.length : Int) - j - 1) ∧
      H.take 10 = hM x0 x1 x2 x3 n code.length (.slice (encCode code) code.length nl cap) l0 l1 (needL as0 (code.drop (code.length - j))).1 (List.replicate (code.length - j) false ++ (needL as0 (code.drop (code.length - j))).2))
    (fun z => ∃ l', z = some (.exit 0 (fr 19 l') (hM x0 x1 x2 x3 n code.length (.slice (encCode code) code.length nl cap) l0 l1 (needL as0 code).1 (needL as0 code).2))) ?_ code.length 0 k l _ (by omega) hk
    ⟨a0, a1, by rw [a3]; simp, by simp [needL]⟩
  clear a0 a1 a3 hk
  rintro j k l H hj ⟨a0, a1, a3, hH⟩
  have ht : trim 10 (fr 19 (keep l [0, 1, 3])) H = hM x0 x1 x2 x3 n code.length (.slice (encCode code) code.length nl cap) l0 l1 (needL as0 (code.drop (code.length - j))).1 (List.replicate (code.length - j) false ++ (needL as0 (code.drop (code.length - j))).2) := by
    rw [trim_fr (by simp only [a0, a1, a3, EVb, EVc, Int.reduceEq, Int.reduceToNat, Int.reduceLE, Int.reduceLT, Int.reduceAdd, Int.reduceMul, Int.reduceSub, Int.reduceNeg, Nat.reduceAdd, Nat.reduceSub, Nat.reduceMul, Nat.reduceLT, Nat.reduceBEq, Nat.reduceEqDiff, Nat.reduceLeDiff]) (by rw [hH]; simp only [c0, c1, EVb, EVc, Int.reduceEq, Int.reduceToNat, Int.reduceLE, Int.reduceLT, Int.reduceAdd, Int.reduceMul, Int.reduceSub, Int.reduceNeg, Nat.reduceAdd, Nat.reduceSub, Nat.reduceMul, Nat.reduceLT, Nat.reduceBEq, Nat.reduceEqDiff, Nat.reduceLeDiff]), hH]
  by_cases hc : j < code.length
  · refine .inr ?_
    obtain ⟨i, hi⟩ : ∃ i, i + 1 = code.length - j := ⟨code.length - j - 1, by omega⟩
    rw [← hi] at ht
    have hil : i < code.length := by omega
    obtain ⟨x, hX⟩ : ∃ x, x = code[i] := ⟨_, rfl⟩
    have hd : code.drop i = x :: code.drop (i + 1) := by rw [hX]; exact List.drop_eq_getElem_cons hil
    have hx := encCode_get hil
    rw [← hX] at hx
    have a3' : asc l 3 = ii (i : Int) := by rw [a3]; congr 2; omega
    have hi0 : (0 : Int) ≤ i := by omega
    have hi1 : (i : Int) < code.length := by omega
    have hi2 : i < code.length := by omega
    have hw : IntKind.wrap .i64 ((i : Int) - 1) = (code.length : Int) - (j + 1 : Nat) - 1 := by rw [wrap64 (by omega) (by omega)]; omega
    have hm := hcode x (by rw [hX]; exact List.getElem_mem hil)
    obtain ⟨aq, haq⟩ : ∃ aq, aq = (needL as0 (code.drop (i + 1))).1 := ⟨_, rfl⟩
    obtain ⟨fl, hfl⟩ : ∃ fl, fl = (needL as0 (code.drop (i + 1))).2 := ⟨_, rfl⟩
    have hdd : code.drop (code.length - j) = code.drop (i + 1) := by rw [hi]
    rw [hi] at ht
    rw [hdd, ← hi, ← haq, ← hfl] at ht
    have haql : aq.length = n := by rw [haq, (needL_length _ _).1]; exact ha0
    have hfll : fl.length + (i + 1) = code.length := by rw [hfl, (needL_length _ _).2]; simp; omega
    have hel : (encB aq).length = n := by rw [encB_length, haql]
    have hol : (encB (List.replicate (i + 1) false ++ fl)).length = code.length := by rw [encB_length]; simp; omega
    have hm' := hm
    simp only [mayM, Bool.and_eq_true, decide_eq_true_eq] at hm'
    obtain ⟨⟨⟨⟨m1, m2, m3, m4, m5⟩, _⟩, m6⟩, m7⟩ := hm'
    have ht2 : x.to.toNat < n := by omega
    have hget := encB_get (l := aq) m3 (by rw [haql]; exact m4)
    have hnx : code.drop (code.length - (j + 1)) = x :: code.drop (i + 1) := by rw [← hd]; congr 1; omega
    have hii : code.length - (j + 1) = i := by omega
    have hran : ∀ r ∈ asks x, 0 ≤ r ∧ r < (n : Int) := by
      intro r hr
      unfold asks at hr
      split at hr
      · rename_i h34
        simp only [List.mem_cons, List.not_mem_nil, or_false] at hr
        rcases hr with rfl | rfl
        · exact m6
        · exact m7 h34
      · split at hr
        · simp only [List.mem_cons, List.not_mem_nil, or_false] at hr
          subst hr
          exact m6
        · cases hr
    cases hq : aq.getD x.to.toNat false with
    | false =>
      rw [hq] at hget
      have hnew : (needL as0 (x :: code.drop (i + 1))) = (aq, false :: fl) := by
        simp only [needL, ← haq, ← hfl, hq]
        rfl
      simp only [loopR_succ, ht]
      simp only [a0, a1, a3', hi0, hi1, hx, hw, g3, g6, g2, evalT_round, roundA_rf, hel, m3, m4, hget, rfAs, rfBd, rfOf, findRF, firstRegion, Option.some_or, Option.none_or, Option.getD_some, Option.some.injEq, findLoop, loopOf, loopR_succ, loopOf, findLoop, firstRegion, Option.some_or, Option.none_or, Option.getD_some, Option.some.injEq, Try.f128, Try.f110, Try.f46, EVb, EVc, Int.reduceEq, Int.reduceToNat, Int.reduceLE, Int.reduceLT, Int.reduceAdd, Int.reduceMul, Int.reduceSub, Int.reduceNeg, Nat.reduceAdd, Nat.reduceSub, Nat.reduceMul, Nat.reduceLT, Nat.reduceBEq, Nat.reduceEqDiff, Nat.reduceLeDiff, FACTS, TYPES]
      refine ⟨_, _, hc, rfl, (by rfl), (by rfl), (by rfl), ?_⟩
      rw [hnx, hnew, hii, ← rep_keep]
      rfl
    | true =>
      rw [hq] at hget
      have hnew : (needL as0 (x :: code.drop (i + 1))) = (mark (aq.set x.to.toNat false) true (asks x), true :: fl) := by
        simp only [needL, ← haq, ← hfl, hq]
        rfl
      have hA := asks_ev (kf + 7) x.op x.to x.a x.b x.c
      simp only [run, aI, ii, sI] at hA
      have hal : (asks x).length ≤ 2 := by unfold asks; split <;> (try split) <;> simp
      simp only [loopR_succ, ht]
      simp only [a0, a1, a3', hi0, hi1, hi2, hx, hw, g3, g6, g2, evalT_round, roundA_rf, hel, hol, ht2, m3, m4, hget, hA, encB_set, rep_set, rfAs, rfBd, rfOf, findRF, firstRegion, Option.some_or, Option.none_or, Option.getD_some, Option.some.injEq, findLoop, loopOf, loopR_succ, loopOf, findLoop, firstRegion, Option.some_or, Option.none_or, Option.getD_some, Option.some.injEq, Try.f128, Try.f110, Try.f46, EVb, EVc, Int.reduceEq, Int.reduceToNat, Int.reduceLE, Int.reduceLT, Int.reduceAdd, Int.reduceMul, Int.reduceSub, Int.reduceNeg, Nat.reduceAdd, Nat.reduceSub, Nat.reduceMul, Nat.reduceLT, Nat.reduceBEq, Nat.reduceEqDiff, Nat.reduceLeDiff, FACTS, TYPES]
      rw [evalCode_drawn Try.f46 14 dr46_14]; rotate_left; rfl
      simp only [a0, a1, a3', hi0, hi1, hi2, hx, hw, g3, g6, g2, evalT_round, roundA_rf, hel, hol, ht2, m3, m4, hget, hA, encB_set, rep_set, EVd, Nat.reducePow, Nat.reduceDiv, Nat.reduceMod, rfAs, rfBd, rfOf, findRF, firstRegion, Option.some_or, Option.none_or, Option.getD_some, Option.some.injEq, findLoop, loopOf, loopR_succ, loopOf, findLoop, firstRegion, Option.some_or, Option.none_or, Option.getD_some, Option.some.injEq, Try.f128, Try.f110, Try.f46, EVb, EVc, Int.reduceEq, Int.reduceToNat, Int.reduceLE, Int.reduceLT, Int.reduceAdd, Int.reduceMul, Int.reduceSub, Int.reduceNeg, Nat.reduceAdd, Nat.reduceSub, Nat.reduceMul, Nat.reduceLT, Nat.reduceBEq, Nat.reduceEqDiff, Nat.reduceLeDiff, FACTS, TYPES]
      rw [evalCode_loopB LB46_16 lp46_16]; rotate_left; rfl; rfl; rfl
      generalize hz : loopR _ _ _ _ _ _ _ _ _ _ _ _ = z
      have h15 := loop_Needed_16 (kf + 8) (some 6) _ _ _ _ n (asks x) (nlE (asks x)) (cpE (asks x)) (by omega) hran (aq.set x.to.toNat false) (by simp [haql]) _ _ _ z hz (by rfl) (by omega) (by simp only [g6, EVb, EVc, Int.reduceEq, Int.reduceToNat, Int.reduceLE, Int.reduceLT, Int.reduceAdd, Int.reduceMul, Int.reduceSub, Int.reduceNeg, Nat.reduceAdd, Nat.reduceSub, Nat.reduceMul, Nat.reduceLT, Nat.reduceBEq, Nat.reduceEqDiff, Nat.reduceLeDiff]) (by simp only [EVb, EVc, Int.reduceEq, Int.reduceToNat, Int.reduceLE, Int.reduceLT, Int.reduceAdd, Int.reduceMul, Int.reduceSub, Int.reduceNeg, Nat.reduceAdd, Nat.reduceSub, Nat.reduceMul, Nat.reduceLT, Nat.reduceBEq, Nat.reduceEqDiff, Nat.reduceLeDiff]) (by simp only [EVb, EVc, Int.reduceEq, Int.reduceToNat, Int.reduceLE, Int.reduceLT, Int.reduceAdd, Int.reduceMul, Int.reduceSub, Int.reduceNeg, Nat.reduceAdd, Nat.reduceSub, Nat.reduceMul, Nat.reduceLT, Nat.reduceBEq, Nat.reduceEqDiff, Nat.reduceLeDiff]) (by simp only [EVb, EVc, Int.reduceEq, Int.reduceToNat, Int.reduceLE, Int.reduceLT, Int.reduceAdd, Int.reduceMul, Int.reduceSub, Int.reduceNeg, Nat.reduceAdd, Nat.reduceSub, Nat.reduceMul, Nat.reduceLT, Nat.reduceBEq, Nat.reduceEqDiff, Nat.reduceLeDiff])
      rw [h15]
      simp only [EVb, EVc, Int.reduceEq, Int.reduceToNat, Int.reduceLE, Int.reduceLT, Int.reduceAdd, Int.reduceMul, Int.reduceSub, Int.reduceNeg, Nat.reduceAdd, Nat.reduceSub, Nat.reduceMul, Nat.reduceLT, Nat.reduceBEq, Nat.reduceEqDiff, Nat.reduceLeDiff]
      refine ⟨_, _, hc, rfl, (by rfl), (by rfl), (by rw [← hw]; rfl), ?_⟩
      rw [hnx, hnew, hii]
      dsimp only
      rw [← rep_set]
      rfl
  · refine .inl ?_
    obtain rfl : j = code.length := by omega
    have hc' : ¬ ((0 : Int) ≤ (code.length : Int) - code.length - 1) := by omega
    simp only [Nat.sub_self, List.drop_zero, List.replicate_zero, List.nil_append] at ht
    simp only [loopR_succ, ht]
    simp only [a0, a1, a3, hc', loopR_succ, loopOf, findLoop, firstRegion, Option.some_or, Option.none_or, Option.getD_some, Option.some.injEq, Try.f128, EVb, EVc, Int.reduceEq, Int.reduceToNat, Int.reduceLE, Int.reduceLT, Int.reduceAdd, Int.reduceMul, Int.reduceSub, Int.reduceNeg, Nat.reduceAdd, Nat.reduceSub, Nat.reduceMul, Nat.reduceLT, Nat.reduceBEq, Nat.reduceEqDiff, Nat.reduceLeDiff, FACTS, TYPES]
    exact ⟨_, rfl⟩
end Go.Proofs.Sw
namespace Go.Proofs.Sw
set_option linter.unusedVariables false
set_option linter.unusedSimpArgs false
set_option linter.unusedSectionVars false
open Go.Ab
variable [Globals]
theorem Needed_bad (k : Nat) (p : Pg) (nl : Bool) (cap : Option Nat) (nl2 : Bool) (cap2 : Option Nat) (hk : p.outs.length + p.code.length + 100 ≤ k) (hr : rightM p = false) :
    run (k+1) 46 [aP p nl cap nl2 cap2] = some (.tup [.c (.slice [] 0 true (some 0)), ii 80]) := by
  have hrt := right_ev (k - 1) p nl cap nl2 cap2 (by omega)
  rw [show k - 1 + 1 = k by omega] at hrt
  simp only [run, aP, ii, sC, sI, bb, hr] at hrt
  rw [run, ev46, ans_trim]
  simp only [Try.f46, aP, ii, bb, hrt, EVb, EVc, Int.reduceEq, Int.reduceToNat, Int.reduceLE, Int.reduceLT, Int.reduceAdd, Int.reduceMul, Int.reduceSub, Int.reduceNeg, Nat.reduceAdd, Nat.reduceSub, Nat.reduceMul, Nat.reduceLT, Nat.reduceBEq, Nat.reduceEqDiff, Nat.reduceLeDiff, FACTS, TYPES]
/-- What is needed, as the layer below tells it. -/
theorem Needed_ev (k n : Nat) (ins : Int) (code : List Ins) (outs : List Int) (nl : Bool) (cap : Option Nat) (nl2 : Bool) (cap2 : Option Nat) (hk : outs.length + code.length + 100 ≤ k) (hr : rightM ⟨ins, n, code, outs⟩ = true) :
    run (k+1) 46 [aP ⟨ins, n, code, outs⟩ nl cap nl2 cap2] = some (.tup [sB (neededM ⟨ins, n, code, outs⟩) false none, ii 0]) := by
  have hr' := hr
  simp only [rightM, headM, Bool.and_eq_true, decide_eq_true_eq] at hr'
  obtain ⟨⟨hh, ho⟩, hc⟩ := hr'
  have q1 : (0 : Int) ≤ n := by omega
  have q2 : n ≤ roomBytes := Nat.le_trans (show n ≤ 128 by omega) (by decide)
  have q3 : (0 : Int) ≤ code.length := by omega
  have q4 : code.length ≤ roomBytes := Nat.le_trans (show code.length ≤ 16384 by omega) (by decide)
  have hout : ∀ r ∈ outs, 0 ≤ r ∧ r < (n : Int) := fun r h => by have := List.all_eq_true.1 ho r h; simpa using this
  have hcode : ∀ i ∈ code, mayM i n = true := fun i h => List.all_eq_true.1 hc i h
  obtain ⟨k, rfl⟩ : ∃ j, k = j + 60 := ⟨k - 60, by omega⟩
  have hbk := Back_raw (k + 59) (ii ins) (ii n) (sC code nl cap) (sI outs nl2 cap2) rfl
  have hba := Back_ans (k + 59) (ii ins) (ii n) (sC code nl cap) (sI outs nl2 cap2) rfl
  have hrt := right_ev (k + 58) ⟨ins, n, code, outs⟩ nl cap nl2 cap2 (by simp only; omega)
  have hrt0 := right_ev (k + 59) ⟨ins, n, code, outs⟩ nl cap nl2 cap2 (by simp only; omega)
  have hwr := Backward_raw (k + 58) (.slice (encCode code) code.length nl cap)
  have hwa := Backward_ans (k + 58) (.slice (encCode code) code.length nl cap)
  have hw : IntKind.wrap .i64 ((code.length : Int) - 1) = (code.length : Int) - 1 := by rw [wrap64 (by omega) (by omega)]
  simp only [run, aP, ii, sC, sI, bb, hr] at hbk hba hrt hrt0
  rw [run, ev46, ans_trim]
  simp only [Try.f46, aP, ii, bb, q1, q2, q3, q4, hrt0, encB_rep, EVb, EVc, Int.reduceEq, Int.reduceToNat, Int.reduceLE, Int.reduceLT, Int.reduceAdd, Int.reduceMul, Int.reduceSub, Int.reduceNeg, Nat.reduceAdd, Nat.reduceSub, Nat.reduceMul, Nat.reduceLT, Nat.reduceBEq, Nat.reduceEqDiff, Nat.reduceLeDiff, FACTS, TYPES]
  rw [evalCode_loopB LB46_6 lp46_6]; rotate_left; rfl; rfl; rfl
  generalize hz : loopR _ _ _ _ _ _ _ _ _ _ _ _ = z
  obtain rfl := loop_Needed_6 (k + 60) _ _ _ n outs nl2 cap2 (by omega) hout (List.replicate n false) (by simp) _ _ _ z hz (by omega) (by rfl) (by rfl) (by rfl) (by rfl) (by rfl) (by rfl) (by rfl)
  clear hz
  simp only [q3, q4, encB_rep, hba, hbk, EVb, EVc, Int.reduceEq, Int.reduceToNat, Int.reduceLE, Int.reduceLT, Int.reduceAdd, Int.reduceMul, Int.reduceSub, Int.reduceNeg, Nat.reduceAdd, Nat.reduceSub, Nat.reduceMul, Nat.reduceLT, Nat.reduceBEq, Nat.reduceEqDiff, Nat.reduceLeDiff, FACTS, TYPES]
  rw [evalCode_rf RA46_11 RB46_11]; rotate_left; rfl; rfl
  simp only [q3, q4, hba, hbk, ev110, Try.f110, hrt, hwa, hwr, EVb, EVc, Int.reduceEq, Int.reduceToNat, Int.reduceLE, Int.reduceLT, Int.reduceAdd, Int.reduceMul, Int.reduceSub, Int.reduceNeg, Nat.reduceAdd, Nat.reduceSub, Nat.reduceMul, Nat.reduceLT, Nat.reduceBEq, Nat.reduceEqDiff, Nat.reduceLeDiff, FACTS, TYPES]
  rw [evalCode_rf RA110_3 RB110_3]; rotate_left; rfl; rfl
  simp only [ev128, Try.f128, hw, EVb, EVc, Int.reduceEq, Int.reduceToNat, Int.reduceLE, Int.reduceLT, Int.reduceAdd, Int.reduceMul, Int.reduceSub, Int.reduceNeg, Nat.reduceAdd, Nat.reduceSub, Nat.reduceMul, Nat.reduceLT, Nat.reduceBEq, Nat.reduceEqDiff, Nat.reduceLeDiff, FACTS, TYPES]
  rw [evalCode_loopB LB128_1 lp128_1]; rotate_left; rfl; rfl; rfl
  generalize hz : loopR _ _ _ _ _ _ _ _ _ _ _ _ = z
  obtain ⟨l', rfl⟩ := loop_Needed_B (k + 48) (.int .i64 ins) (.int .i64 n) (.slice (encCode code) code.length nl cap) (.slice (encInts outs) outs.length nl2 cap2) n code nl cap _ _ (by rfl) (by rfl) (by rfl) (by rfl) (by rfl)
    (asked0 n outs) (by simp [asked0, mark_length]) hcode (by omega) _ _ z hz (by omega) (by rfl) (by rfl) (by rfl)
  have hfl : (encB (needL (asked0 n outs) code).2).length = code.length := by rw [encB_length, (needL_length _ _).2]
  have htk : (encB (needL (asked0 n outs) code).2).take code.length = encB (needL (asked0 n outs) code).2 := by rw [← hfl, List.take_length]
  have hnm : neededM ⟨ins, n, code, outs⟩ = (needL (asked0 n outs) code).2 := rfl
  simp only [EVb, EVc, Int.reduceEq, Int.reduceToNat, Int.reduceLE, Int.reduceLT, Int.reduceAdd, Int.reduceMul, Int.reduceSub, Int.reduceNeg, Nat.reduceAdd, Nat.reduceSub, Nat.reduceMul, Nat.reduceLT, Nat.reduceBEq, Nat.reduceEqDiff, Nat.reduceLeDiff, FACTS, TYPES]
  rw [hnm]
  simp only [hfl, htk, encB_length, Nat.le_refl, sB, (needL_length _ _).2, EVb, EVc, Int.reduceEq, Int.reduceToNat, Int.reduceLE, Int.reduceLT, Int.reduceAdd, Int.reduceMul, Int.reduceSub, Int.reduceNeg, Nat.reduceAdd, Nat.reduceSub, Nat.reduceMul, Nat.reduceLT, Nat.reduceBEq, Nat.reduceEqDiff, Nat.reduceLeDiff, FACTS, TYPES]
end Go.Proofs.Sw
