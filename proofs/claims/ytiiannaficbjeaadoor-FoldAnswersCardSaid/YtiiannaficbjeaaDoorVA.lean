/- A part of the proof: what functions of the program answer; conditions stand in each theorem. -/
import Derived.Test.YtiiannaficbjeaaDoorVFacts
import Derived.Test.YtiiannaficbjeaaDoorAbSim
set_option linter.unusedVariables false
set_option linter.unusedSimpArgs false
set_option linter.unusedSectionVars false
namespace Go.Proofs.Sw
open Go.Ab
variable [Globals]
structure Ins where
  op : Int
  to : Int
  a : Int
  b : Int
  c : Int
  deriving DecidableEq
abbrev ii (n : Int) : AV := .c (.int .i64 n)
abbrev bb (n : Bool) : AV := .c (.bool n)
abbrev aI (o t a b c : Int) : AV := .agg [ii o, ii t, ii a, ii b, ii c]
abbrev encI (i : Ins) : AV := .agg [ii i.op, ii i.to, ii i.a, ii i.b, ii i.c]
noncomputable abbrev run (k f : Nat) (args : List AV) : Option AV := ans (evalT Tryd.prog (mkHints tab) k (.fn f) args [])
abbrev nlE {α : Type} (l : List α) : Bool := decide (l.length = 0)
abbrev cpE {α : Type} (l : List α) : Option Nat := if l.length = 0 then some 0 else none
def two (op : Int) : Bool := decide (op = 3) || decide (op = 4)
theorem two_ev (k : Nat) (op : Int) : run (k+1) 74 [ii op] = some (bb (two op)) := by
  rw [run, ev74, ans_trim]
  simp only [Tryd.f74, EVb, condO_ite, Int.reduceEq, Int.reduceToNat, Int.reduceLE, Int.reduceLT, Int.reduceAdd, Int.reduceMul, Int.reduceSub, Int.reduceNeg, Nat.reduceAdd, Nat.reduceSub, Nat.reduceMul, Nat.reduceLT, Nat.reduceBEq, Nat.reduceEqDiff, Nat.reduceLeDiff, FACTS, TYPES]
  unfold two
  split <;> simp_all only [EVb, condO_ite, Int.reduceEq, Int.reduceToNat, Int.reduceLE, Int.reduceLT, Int.reduceAdd, Int.reduceMul, Int.reduceSub, Int.reduceNeg, Nat.reduceAdd, Nat.reduceSub, Nat.reduceMul, Nat.reduceLT, Nat.reduceBEq, Nat.reduceEqDiff, Nat.reduceLeDiff] <;> simp
def constant (i : Ins) : Bool :=
  if i.op = 5 ∨ i.op = 6 then decide (i.c ≠ 0 ∧ -512 ≤ i.c ∧ i.c ≤ 512)
  else if i.op = 7 ∨ i.op = 8 then decide (1 ≤ i.c ∧ i.c ≤ 64)
  else decide (i.c = 0)
theorem constant_ev (k : Nat) (o t a b c : Int) : run (k+1) 75 [aI o t a b c] = some (bb (constant ⟨o, t, a, b, c⟩)) := by
  rw [run, ev75, ans_trim]
  simp only [Tryd.f75, aI, ii, EVb, condO_ite, Int.reduceEq, Int.reduceToNat, Int.reduceLE, Int.reduceLT, Int.reduceAdd, Int.reduceMul, Int.reduceSub, Int.reduceNeg, Nat.reduceAdd, Nat.reduceSub, Nat.reduceMul, Nat.reduceLT, Nat.reduceBEq, Nat.reduceEqDiff, Nat.reduceLeDiff, FACTS, TYPES]
  repeat' (split <;> simp only [*, EVb, condO_ite, Int.reduceEq, Int.reduceToNat, Int.reduceLE, Int.reduceLT, Int.reduceAdd, Int.reduceMul, Int.reduceSub, Int.reduceNeg, Nat.reduceAdd, Nat.reduceSub, Nat.reduceMul, Nat.reduceLT, Nat.reduceBEq, Nat.reduceEqDiff, Nat.reduceLeDiff, FACTS])
  all_goals simp [constant, *]
def asks (i : Ins) : List Int := if i.op = 3 ∨ i.op = 4 then [i.a, i.b] else if 1 ≤ i.op ∧ i.op ≤ 8 then [i.a] else []
def encInts (l : List Int) : List IV := l.map (.int .i64)
abbrev sI (l : List Int) (nl : Bool) (cap : Option Nat) : AV := .c (.slice (encInts l) l.length nl cap)
abbrev sE (l : List Int) : AV := sI l (nlE l) (cpE l)
theorem asks_ev (k : Nat) (o t a b c : Int) : run (k+1) 35 [aI o t a b c] = some (sE (asks ⟨o, t, a, b, c⟩)) := by
  rw [run, ev35, ans_trim]
  simp only [Tryd.f35, aI, ii, EVb, condO_ite, Int.reduceEq, Int.reduceToNat, Int.reduceLE, Int.reduceLT, Int.reduceAdd, Int.reduceMul, Int.reduceSub, Int.reduceNeg, Nat.reduceAdd, Nat.reduceSub, Nat.reduceMul, Nat.reduceLT, Nat.reduceBEq, Nat.reduceEqDiff, Nat.reduceLeDiff, FACTS, TYPES]
  repeat' (split <;> simp only [*, EVb, condO_ite, Int.reduceEq, Int.reduceToNat, Int.reduceLE, Int.reduceLT, Int.reduceAdd, Int.reduceMul, Int.reduceSub, Int.reduceNeg, Nat.reduceAdd, Nat.reduceSub, Nat.reduceMul, Nat.reduceLT, Nat.reduceBEq, Nat.reduceEqDiff, Nat.reduceLeDiff, FACTS])
  all_goals simp [asks, encInts, *]
  all_goals (have hn : ¬ (1 ≤ o ∧ o ≤ 8) := by omega); (simp only [hn, if_false]; exact ⟨fun _ => by omega, rfl, fun _ => by omega⟩)
def mayM (i : Ins) (regs : Int) : Bool :=
  decide (1 ≤ i.op ∧ i.op ≤ 8 ∧ 0 ≤ i.to ∧ i.to < regs ∧ (i.op = 3 ∨ i.op = 4 ∨ i.b = 0)) && constant i && decide (0 ≤ i.a ∧ i.a < regs) && decide ((i.op = 3 ∨ i.op = 4) → 0 ≤ i.b ∧ i.b < regs)
theorem asks_two {i : Ins} (h : i.op = 3 ∨ i.op = 4) : asks i = [i.a, i.b] := if_pos h
theorem asks_one {i : Ins} (h : ¬ (i.op = 3 ∨ i.op = 4)) (h2 : 1 ≤ i.op ∧ i.op ≤ 8) : asks i = [i.a] := by unfold asks; rw [if_neg h, if_pos h2]
theorem may_ev (k : Nat) (o t a b c regs : Int) : run (k+4) 50 [aI o t a b c, ii regs] = some (bb (mayM ⟨o, t, a, b, c⟩ regs)) := by
  rw [run, ev50, ans_trim]
  simp only [Tryd.f50, aI, ii, bb, EVb, condO_ite, Int.reduceEq, Int.reduceToNat, Int.reduceLE, Int.reduceLT, Int.reduceAdd, Int.reduceMul, Int.reduceSub, Int.reduceNeg, Nat.reduceAdd, Nat.reduceSub, Nat.reduceMul, Nat.reduceLT, Nat.reduceBEq, Nat.reduceEqDiff, Nat.reduceLeDiff, FACTS, TYPES, two_ev, constant_ev, asks_ev]
  repeat' (split <;> simp only [*, EVb, condO_ite, Int.reduceEq, Int.reduceToNat, Int.reduceLE, Int.reduceLT, Int.reduceAdd, Int.reduceMul, Int.reduceSub, Int.reduceNeg, Nat.reduceAdd, Nat.reduceSub, Nat.reduceMul, Nat.reduceLT, Nat.reduceBEq, Nat.reduceEqDiff, Nat.reduceLeDiff, FACTS, two_ev, constant_ev, asks_ev])
  all_goals first
    | (simp [mayM, two, *] at *; omega)
    | (simp [mayM, two, *] at *; done)
    | skip
  · rw [asks_two (i := ⟨o, t, a, b, c⟩) (by simp [two] at *; simp [*])]
    simp only [sI, encInts, List.map_cons, List.map_nil, EVb, condO_ite, Int.reduceEq, Int.reduceToNat, Int.reduceLE, Int.reduceLT, Int.reduceAdd, Int.reduceMul, Int.reduceSub, Int.reduceNeg, Nat.reduceAdd, Nat.reduceSub, Nat.reduceMul, Nat.reduceLT, Nat.reduceBEq, Nat.reduceEqDiff, Nat.reduceLeDiff, FACTS]
    rw [evalCode_loopB LB50_4 lp50_4]; rotate_left; rfl; rfl; rfl
    simp only [sI, encInts, List.map_cons, List.map_nil, loopR_succ, loopOf, findLoop, firstRegion, Option.some_or, Option.none_or, Option.getD_some, Option.some.injEq, Tryd.f50, EVb, condO_ite, Int.reduceEq, Int.reduceToNat, Int.reduceLE, Int.reduceLT, Int.reduceAdd, Int.reduceMul, Int.reduceSub, Int.reduceNeg, Nat.reduceAdd, Nat.reduceSub, Nat.reduceMul, Nat.reduceLT, Nat.reduceBEq, Nat.reduceEqDiff, Nat.reduceLeDiff, FACTS]
    repeat' (split <;> simp only [*, sI, encInts, List.map_cons, List.map_nil, loopR_succ, loopOf, findLoop, firstRegion, Option.some_or, Option.none_or, Tryd.f50, EVb, condO_ite, Int.reduceEq, Int.reduceToNat, Int.reduceLE, Int.reduceLT, Int.reduceAdd, Int.reduceMul, Int.reduceSub, Int.reduceNeg, Nat.reduceAdd, Nat.reduceSub, Nat.reduceMul, Nat.reduceLT, Nat.reduceBEq, Nat.reduceEqDiff, Nat.reduceLeDiff, FACTS])
    all_goals (simp [mayM, two, *] at *; try omega)
  · rw [asks_one (i := ⟨o, t, a, 0, c⟩) (by simp [two] at *; simp [*]) (by simp; omega)]
    simp only [sI, encInts, List.map_cons, List.map_nil, EVb, condO_ite, Int.reduceEq, Int.reduceToNat, Int.reduceLE, Int.reduceLT, Int.reduceAdd, Int.reduceMul, Int.reduceSub, Int.reduceNeg, Nat.reduceAdd, Nat.reduceSub, Nat.reduceMul, Nat.reduceLT, Nat.reduceBEq, Nat.reduceEqDiff, Nat.reduceLeDiff, FACTS]
    rw [evalCode_loopB LB50_4 lp50_4]; rotate_left; rfl; rfl; rfl
    simp only [sI, encInts, List.map_cons, List.map_nil, loopR_succ, loopOf, findLoop, firstRegion, Option.some_or, Option.none_or, Option.getD_some, Option.some.injEq, Tryd.f50, EVb, condO_ite, Int.reduceEq, Int.reduceToNat, Int.reduceLE, Int.reduceLT, Int.reduceAdd, Int.reduceMul, Int.reduceSub, Int.reduceNeg, Nat.reduceAdd, Nat.reduceSub, Nat.reduceMul, Nat.reduceLT, Nat.reduceBEq, Nat.reduceEqDiff, Nat.reduceLeDiff, FACTS]
    repeat' (split <;> simp only [*, sI, encInts, List.map_cons, List.map_nil, loopR_succ, loopOf, findLoop, firstRegion, Option.some_or, Option.none_or, Tryd.f50, EVb, condO_ite, Int.reduceEq, Int.reduceToNat, Int.reduceLE, Int.reduceLT, Int.reduceAdd, Int.reduceMul, Int.reduceSub, Int.reduceNeg, Nat.reduceAdd, Nat.reduceSub, Nat.reduceMul, Nat.reduceLT, Nat.reduceBEq, Nat.reduceEqDiff, Nat.reduceLeDiff, FACTS])
    all_goals (simp [mayM, two, *] at *; try omega)
end Go.Proofs.Sw
namespace Go.Proofs.Sw
open Go.Ab
variable [Globals]
abbrev enc1 (i : Ins) : List IV := [.int .i64 i.op, .int .i64 i.to, .int .i64 i.a, .int .i64 i.b, .int .i64 i.c]
def encCode : List Ins → List IV
  | [] => []
  | i :: l => enc1 i ++ encCode l
theorem encInts_length (l : List Int) : (encInts l).length = l.length := by simp [encInts]
theorem encCode_length : ∀ (l : List Ins), (encCode l).length = l.length * 5
  | [] => rfl
  | i :: l => by rw [encCode, List.length_append, encCode_length l]; simp; omega
theorem encCode_append : ∀ (l m : List Ins), encCode (l ++ m) = encCode l ++ encCode m
  | [], m => rfl
  | i :: l, m => by rw [List.cons_append, encCode, encCode, encCode_append l m, List.append_assoc]
theorem encInts_get {l : List Int} {i : Nat} (h : i < l.length) : (encInts l)[i]? = some (.int .i64 l[i]) := by
  simp [encInts, h]
theorem encCode_drop : ∀ (l : List Ins) (i : Nat), (encCode l).drop (i * 5) = encCode (l.drop i)
  | [], i => by simp [encCode]
  | x :: l, 0 => by simp
  | x :: l, i + 1 => by
    rw [encCode, List.drop_succ_cons, ← encCode_drop l i, show (i + 1) * 5 = (enc1 x).length + i * 5 by simp; omega, List.drop_append]
    simp
theorem encCode_get {l : List Ins} {i : Nat} (h : i < l.length) : (if i * 5 + 5 ≤ (encCode l).length then some (((encCode l).drop (i * 5)).take 5) else none) = some (enc1 l[i]) := by
  rw [encCode_length, if_pos (by omega), encCode_drop]
  have : l.drop i = l[i] :: l.drop (i + 1) := (List.drop_eq_getElem_cons h)
  rw [this, encCode]
  simp
theorem wrap_succ {i n : Nat} (h : i < n) (hn : n ≤ 4611686018427387904) : IntKind.wrap .i64 ((i : Int) + 1) = ((i + 1 : Nat) : Int) := by
  rw [wrap64 (by omega) (by omega)]; simp
structure Pg where
  ins : Int
  regs : Int
  code : List Ins
  outs : List Int
  deriving DecidableEq
abbrev sC (code : List Ins) (nl : Bool) (cap : Option Nat) : AV := .c (.slice (encCode code) code.length nl cap)
abbrev aP (p : Pg) (nl : Bool) (cap : Option Nat) (nl2 : Bool) (cap2 : Option Nat) : AV := .agg [ii p.ins, ii p.regs, sC p.code nl cap, sI p.outs nl2 cap2]
abbrev cP (ins regs : Int) (v ov : AV) : AObj := .cells 25 [ii ins, ii regs, v, ov]
def headM (p : Pg) : Bool := decide (1 ≤ p.ins ∧ p.ins ≤ p.regs ∧ p.regs ≤ 128 ∧ p.code.length ≤ 16384 ∧ 1 ≤ p.outs.length ∧ p.outs.length ≤ 128)
def outsM (p : Pg) : Bool := p.outs.all (fun r => decide (0 ≤ r ∧ r < p.regs))
def codeM (p : Pg) : Bool := p.code.all (fun i => mayM i p.regs)
def rightM (p : Pg) : Bool := headM p && outsM p && codeM p
def checkE (p : Pg) : Int := if rightM p then 0 else 80
section
variable (kf : Nat) (ins regs : Int) (cv ov : AV)
theorem loop_Check_4 (outs : List Int) (nl : Bool) (cap : Option Nat) (hlen : outs.length ≤ 4611686018427387904) (k : Nat) (l : Ass) (H : Heap) (z : Option Out)
    (hz : loopR Tryd.prog tab kf none LB23_4 23 72 [1, 42, 43, 44] 1 k l H = z) (hk : outs.length < k)
    (h1 : asc l 1 = .ptr 0 0) (h42 : asc l 42 = sI outs nl cap) (h43 : asc l 43 = ii outs.length) (h44 : asc l 44 = ii (0 : Nat)) (hH : H = [cP ins regs cv ov]) :
    ∃ l', (z = some (.exit 0 (fr 72 l') H) ∧ asc l' 1 = .ptr 0 0 ∧ outs.all (fun r => decide (0 ≤ r ∧ r < regs)) = true) ∨
      (z = some (.ret (fr 72 l') H) ∧ asc l' 2 = ii (-1) ∧ asc l' 3 = ii 80 ∧ outs.all (fun r => decide (0 ≤ r ∧ r < regs)) = false) := by
  subst hH
  subst hz
  refine loop_nat outs.length (fun k l H => loopR Tryd.prog tab kf none LB23_4 23 72 [1, 42, 43, 44] 1 k l H)
    (fun i l H => asc l 1 = .ptr 0 0 ∧ asc l 42 = sI outs nl cap ∧ asc l 43 = ii outs.length ∧ asc l 44 = ii i ∧ (∀ j, (h : j < i) → ∀ h2 : j < outs.length, 0 ≤ outs[j] ∧ outs[j] < regs) ∧ H = [cP ins regs cv ov])
    (fun z => ∃ l', (z = some (.exit 0 (fr 72 l') [cP ins regs cv ov]) ∧ asc l' 1 = .ptr 0 0 ∧ outs.all (fun r => decide (0 ≤ r ∧ r < regs)) = true) ∨
      (z = some (.ret (fr 72 l') [cP ins regs cv ov]) ∧ asc l' 2 = ii (-1) ∧ asc l' 3 = ii 80 ∧ outs.all (fun r => decide (0 ≤ r ∧ r < regs)) = false)) ?_ outs.length 0 k l _ (by omega) hk ⟨h1, h42, h43, h44, fun j h => absurd h (by omega), rfl⟩
  clear h1 h42 h43 h44 hk
  rintro i k l H hi ⟨h1, h42, h43, h44, hp, rfl⟩
  by_cases hc : i < outs.length
  · have hc' : ((i : Int) < outs.length) := by omega
    have hc0 : (0 : Int) ≤ i := by omega
    have hx := encInts_get hc
    have hw := wrap_succ hc hlen
    have hall : ¬ (0 ≤ outs[i] ∧ outs[i] < regs) → outs.all (fun r => decide (0 ≤ r ∧ r < regs)) = false := fun h => by
      rw [List.all_eq_false]; exact ⟨outs[i], List.getElem_mem hc, by simpa using h⟩
    by_cases hr : outs[i] < 0
    · refine .inl ?_
      simp only [h1, h42, h43, h44, hc', hc0, hx, hr, loopR_succ, loopOf, findLoop, firstRegion, Option.some_or, Option.none_or, Option.getD_some, Option.some.injEq, Tryd.f23, EVb, EVc, Int.reduceEq, Int.reduceToNat, Int.reduceLE, Int.reduceLT, Int.reduceAdd, Int.reduceMul, Int.reduceSub, Int.reduceNeg, Nat.reduceAdd, Nat.reduceSub, Nat.reduceMul, Nat.reduceLT, Nat.reduceBEq, Nat.reduceEqDiff, Nat.reduceLeDiff, FACTS]
      exact ⟨_, .inr ⟨rfl, (by rfl), (by rfl), hall (by omega)⟩⟩
    · by_cases hr2 : regs ≤ outs[i]
      · refine .inl ?_
        simp only [h1, h42, h43, h44, hc', hc0, hx, hr, hr2, loopR_succ, loopOf, findLoop, firstRegion, Option.some_or, Option.none_or, Option.getD_some, Option.some.injEq, Tryd.f23, EVb, EVc, Int.reduceEq, Int.reduceToNat, Int.reduceLE, Int.reduceLT, Int.reduceAdd, Int.reduceMul, Int.reduceSub, Int.reduceNeg, Nat.reduceAdd, Nat.reduceSub, Nat.reduceMul, Nat.reduceLT, Nat.reduceBEq, Nat.reduceEqDiff, Nat.reduceLeDiff, FACTS]
        exact ⟨_, .inr ⟨rfl, (by rfl), (by rfl), hall (by omega)⟩⟩
      · refine .inr ?_
        simp only [h1, h42, h43, h44, hc', hc0, hx, hr, hr2, hw, loopR_succ, loopOf, findLoop, firstRegion, Option.some_or, Option.none_or, Option.getD_some, Option.some.injEq, Tryd.f23, EVb, EVc, Int.reduceEq, Int.reduceToNat, Int.reduceLE, Int.reduceLT, Int.reduceAdd, Int.reduceMul, Int.reduceSub, Int.reduceNeg, Nat.reduceAdd, Nat.reduceSub, Nat.reduceMul, Nat.reduceLT, Nat.reduceBEq, Nat.reduceEqDiff, Nat.reduceLeDiff, FACTS]
        refine ⟨_, _, hc, rfl, (by rfl), (by rfl), (by rfl), (by rfl), fun j hj h2 => ?_, rfl⟩
        by_cases e : j = i
        · subst e; omega
        · exact hp j (by omega) h2
  · have hc' : ¬ ((i : Int) < outs.length) := by omega
    refine .inl ?_
    simp only [h1, h42, h43, h44, hc', loopR_succ, loopOf, findLoop, firstRegion, Option.some_or, Option.none_or, Option.getD_some, Option.some.injEq, Tryd.f23, EVb, EVc, Int.reduceEq, Int.reduceToNat, Int.reduceLE, Int.reduceLT, Int.reduceAdd, Int.reduceMul, Int.reduceSub, Int.reduceNeg, Nat.reduceAdd, Nat.reduceSub, Nat.reduceMul, Nat.reduceLT, Nat.reduceBEq, Nat.reduceEqDiff, Nat.reduceLeDiff, FACTS]
    refine ⟨_, .inl ⟨rfl, (by rfl), ?_⟩⟩
    rw [List.all_eq_true]
    intro x hx
    obtain ⟨j, hj, rfl⟩ := List.getElem_of_mem hx
    simpa using hp j (by omega) hj
end
end Go.Proofs.Sw
namespace Go.Proofs.Sw
open Go.Ab
variable [Globals]
theorem all_of {α : Type} {l : List α} {p : α → Bool} (h : ∀ j, (h : j < l.length) → p l[j] = true) : l.all p = true := by
  rw [List.all_eq_true]
  intro x hx
  obtain ⟨j, hj, rfl⟩ := List.getElem_of_mem hx
  exact h j hj
theorem all_not {α : Type} {l : List α} {p : α → Bool} {i : Nat} (h : i < l.length) (hp : p l[i] = false) : l.all p = false := by
  rw [List.all_eq_false]; exact ⟨l[i], List.getElem_mem h, by simp [hp]⟩
theorem loop_Check_10 (kf : Nat) (hkf : 4 ≤ kf) (ins regs : Int) (ov : IV) (code : List Ins) (nl : Bool) (cap : Option Nat) (hlen : code.length ≤ 4611686018427387904) (k : Nat) (l : Ass) (H : Heap) (z : Option Out)
    (hz : loopR Tryd.prog tab kf none LB23_10 23 72 [1, 58, 59, 60] 1 k l H = z) (hk : code.length < k)
    (h1 : asc l 1 = .ptr 0 0) (h58 : asc l 58 = sC code nl cap) (h59 : asc l 59 = ii code.length) (h60 : asc l 60 = ii (0 : Nat)) (hH : H = [cP ins regs (sC code nl cap) (.c ov)]) :
    ∃ l' H', (z = some (.exit 2 (fr 72 l') H') ∧ code.all (fun i => mayM i regs) = true) ∨
      (z = some (.ret (fr 72 l') H') ∧ (∃ n, asc l' 2 = ii n) ∧ asc l' 3 = ii 80 ∧ code.all (fun i => mayM i regs) = false) := by
  subst hz
  obtain ⟨kf, rfl⟩ : ∃ j, kf = j + 4 := ⟨kf - 4, by omega⟩
  refine loop_nat code.length (fun k l H => loopR Tryd.prog tab (kf + 4) none LB23_10 23 72 [1, 58, 59, 60] 1 k l H)
    (fun i l H => asc l 1 = .ptr 0 0 ∧ asc l 58 = sC code nl cap ∧ asc l 59 = ii code.length ∧ asc l 60 = ii i ∧ (∀ j, (h : j < i) → ∀ h2 : j < code.length, mayM code[j] regs = true) ∧ H.take 1 = [cP ins regs (sC code nl cap) (.c ov)])
    (fun z => ∃ l' H', (z = some (.exit 2 (fr 72 l') H') ∧ code.all (fun i => mayM i regs) = true) ∨
      (z = some (.ret (fr 72 l') H') ∧ (∃ n, asc l' 2 = ii n) ∧ asc l' 3 = ii 80 ∧ code.all (fun i => mayM i regs) = false)) ?_ code.length 0 k l H (by omega) hk ⟨h1, h58, h59, h60, fun j h => absurd h (by omega), by rw [hH]; rfl⟩
  clear h1 h58 h59 h60 hk hH
  rintro i k l H hi ⟨h1, h58, h59, h60, hp, hH⟩
  have ht : trim 1 (fr 72 (keep l [1, 58, 59, 60])) H = [cP ins regs (sC code nl cap) (.c ov)] := by
    rw [trim_fr (by simp only [h1, h58, h59, h60, EVb, EVc, Int.reduceEq, Int.reduceToNat, Int.reduceLE, Int.reduceLT, Int.reduceAdd, Int.reduceMul, Int.reduceSub, Int.reduceNeg, Nat.reduceAdd, Nat.reduceSub, Nat.reduceMul, Nat.reduceLT, Nat.reduceBEq, Nat.reduceEqDiff, Nat.reduceLeDiff]) (by rw [hH]; simp only [EVb, EVc, Int.reduceEq, Int.reduceToNat, Int.reduceLE, Int.reduceLT, Int.reduceAdd, Int.reduceMul, Int.reduceSub, Int.reduceNeg, Nat.reduceAdd, Nat.reduceSub, Nat.reduceMul, Nat.reduceLT, Nat.reduceBEq, Nat.reduceEqDiff, Nat.reduceLeDiff]), hH]
  by_cases hc : i < code.length
  · have hc' : ((i : Int) < code.length) := by omega
    have hc0 : (0 : Int) ≤ i := by omega
    have hx := encCode_get hc
    have hw := wrap_succ hc hlen
    obtain ⟨x, hX⟩ : ∃ x, x = code[i] := ⟨_, rfl⟩
    rw [← hX] at hx
    have hm := may_ev kf x.op x.to x.a x.b x.c regs
    simp only [run, aI, ii, bb] at hm
    cases hd : mayM x regs with
    | false =>
      rw [show mayM ⟨x.op, x.to, x.a, x.b, x.c⟩ regs = false from hd] at hm
      refine .inl ?_
      simp only [loopR_succ, ht]
      simp only [h1, h58, h59, h60, hc', hc0, hx, hm, loopR_succ, loopOf, findLoop, firstRegion, Option.some_or, Option.none_or, Option.getD_some, Option.some.injEq, Tryd.f23, FT, Int.reduceEq, Int.reduceToNat, Int.reduceLE, Int.reduceLT, Int.reduceAdd, Int.reduceMul, Int.reduceSub, Int.reduceNeg, Nat.reduceAdd, Nat.reduceSub, Nat.reduceMul, Nat.reduceLT, Nat.reduceBEq, Nat.reduceEqDiff, Nat.reduceLeDiff]
      exact ⟨_, _, .inr ⟨rfl, ⟨_, rfl⟩, (by rfl), all_not hc (by rw [← hX]; exact hd)⟩⟩
    | true =>
      rw [show mayM ⟨x.op, x.to, x.a, x.b, x.c⟩ regs = true from hd] at hm
      refine .inr ?_
      simp only [loopR_succ, ht]
      simp only [h1, h58, h59, h60, hc', hc0, hx, hm, hw, loopR_succ, loopOf, findLoop, firstRegion, Option.some_or, Option.none_or, Option.getD_some, Option.some.injEq, Tryd.f23, FT, Int.reduceEq, Int.reduceToNat, Int.reduceLE, Int.reduceLT, Int.reduceAdd, Int.reduceMul, Int.reduceSub, Int.reduceNeg, Nat.reduceAdd, Nat.reduceSub, Nat.reduceMul, Nat.reduceLT, Nat.reduceBEq, Nat.reduceEqDiff, Nat.reduceLeDiff]
      refine ⟨_, _, hc, rfl, (by rfl), (by rfl), (by rfl), (by rfl), fun j hj h2 => ?_, (by rfl)⟩
      by_cases e : j = i
      · subst e; rw [← hX]; exact hd
      · exact hp j (by omega) h2
  · have hc' : ¬ ((i : Int) < code.length) := by omega
    refine .inl ?_
    simp only [loopR_succ, ht]
    simp only [h1, h58, h59, h60, hc', loopR_succ, loopOf, findLoop, firstRegion, Option.some_or, Option.none_or, Option.getD_some, Option.some.injEq, Tryd.f23, FT, Int.reduceEq, Int.reduceToNat, Int.reduceLE, Int.reduceLT, Int.reduceAdd, Int.reduceMul, Int.reduceSub, Int.reduceNeg, Nat.reduceAdd, Nat.reduceSub, Nat.reduceMul, Nat.reduceLT, Nat.reduceBEq, Nat.reduceEqDiff, Nat.reduceLeDiff]
    exact ⟨_, _, .inl ⟨rfl, all_of fun j hj => hp j (by omega) hj⟩⟩
theorem check_ev (k : Nat) (p : Pg) (nl : Bool) (cap : Option Nat) (nl2 : Bool) (cap2 : Option Nat) (hk : p.outs.length + p.code.length + 10 ≤ k) :
    ∃ n, run (k+1) 23 [aP p nl cap nl2 cap2] = some (.tup [ii n, ii (checkE p)]) := by
  obtain ⟨ins, regs, code, outs⟩ := p
  simp only at hk
  rw [run, ev23, ans_trim]
  simp only [Tryd.f23, aP, ii, bb, EVb, condO_ite, Int.reduceEq, Int.reduceToNat, Int.reduceLE, Int.reduceLT, Int.reduceAdd, Int.reduceMul, Int.reduceSub, Int.reduceNeg, Nat.reduceAdd, Nat.reduceSub, Nat.reduceMul, Nat.reduceLT, Nat.reduceBEq, Nat.reduceEqDiff, Nat.reduceLeDiff, FACTS, TYPES]
  by_cases hm : headM ⟨ins, regs, code, outs⟩ = true
  · have hm' := hm
    simp only [headM, decide_eq_true_eq] at hm'
    have q1 : ¬ ins < 1 := by omega
    have q2 : ¬ regs < ins := by omega
    have q3 : ¬ 128 < regs := by omega
    have q4 : ¬ (16384 : Int) < code.length := by omega
    have q5 : ¬ (outs.length : Int) < 1 := by omega
    have q6 : ¬ (128 : Int) < outs.length := by omega
    simp only [q1, q2, q3, q4, q5, q6, FT, Int.reduceEq, Int.reduceToNat, Int.reduceLE, Int.reduceLT, Int.reduceAdd, Int.reduceMul, Int.reduceSub, Int.reduceNeg, Nat.reduceAdd, Nat.reduceSub, Nat.reduceMul, Nat.reduceLT, Nat.reduceBEq, Nat.reduceEqDiff, Nat.reduceLeDiff]
    rw [evalCode_loopB LB23_4 lp23_4]; rotate_left; rfl; rfl; rfl
    generalize hz : loopR _ _ _ _ _ _ _ _ _ _ _ _ = z
    obtain ⟨l1, ⟨rfl, g1, ho⟩ | ⟨rfl, g1, g2, ho⟩⟩ := loop_Check_4 k ins regs (sC code nl cap) (sI outs nl2 cap2) outs nl2 cap2 (by omega) _ _ _ z hz (by omega) (by rfl) (by rfl) (by rfl) (by rfl) (by rfl)
    · simp only [g1, FT, Int.reduceEq, Int.reduceToNat, Int.reduceLE, Int.reduceLT, Int.reduceAdd, Int.reduceMul, Int.reduceSub, Int.reduceNeg, Nat.reduceAdd, Nat.reduceSub, Nat.reduceMul, Nat.reduceLT, Nat.reduceBEq, Nat.reduceEqDiff, Nat.reduceLeDiff]
      clear hz
      rw [evalCode_loopB LB23_10 lp23_10]; rotate_left; rfl; rfl; rfl
      generalize hz : loopR _ _ _ _ _ _ _ _ _ _ _ _ = z
      obtain ⟨l2, H2, ⟨rfl, hc⟩ | ⟨rfl, ⟨n, g2⟩, g3, hc⟩⟩ := loop_Check_10 k (by omega) ins regs (.slice (encInts outs) outs.length nl2 cap2) code nl cap (by omega) _ _ _ z hz (by omega) (by exact g1) (by rfl) (by rfl) (by rfl) (by rfl)
      · refine ⟨0, ?_⟩
        simp only [FT, Int.reduceEq, Int.reduceToNat, Int.reduceLE, Int.reduceLT, Int.reduceAdd, Int.reduceMul, Int.reduceSub, Int.reduceNeg, Nat.reduceAdd, Nat.reduceSub, Nat.reduceMul, Nat.reduceLT, Nat.reduceBEq, Nat.reduceEqDiff, Nat.reduceLeDiff]
        simp [checkE, rightM, hm, show outsM ⟨ins, regs, code, outs⟩ = _ from ho, show codeM ⟨ins, regs, code, outs⟩ = _ from hc]
      · refine ⟨n, ?_⟩
        simp only [g2, g3, FT, Int.reduceEq, Int.reduceToNat, Int.reduceLE, Int.reduceLT, Int.reduceAdd, Int.reduceMul, Int.reduceSub, Int.reduceNeg, Nat.reduceAdd, Nat.reduceSub, Nat.reduceMul, Nat.reduceLT, Nat.reduceBEq, Nat.reduceEqDiff, Nat.reduceLeDiff]
        simp [checkE, rightM, hm, show outsM ⟨ins, regs, code, outs⟩ = _ from ho, show codeM ⟨ins, regs, code, outs⟩ = _ from hc]
    · refine ⟨-1, ?_⟩
      simp only [g1, g2, FT, Int.reduceEq, Int.reduceToNat, Int.reduceLE, Int.reduceLT, Int.reduceAdd, Int.reduceMul, Int.reduceSub, Int.reduceNeg, Nat.reduceAdd, Nat.reduceSub, Nat.reduceMul, Nat.reduceLT, Nat.reduceBEq, Nat.reduceEqDiff, Nat.reduceLeDiff]
      simp [checkE, rightM, hm, show outsM ⟨ins, regs, code, outs⟩ = _ from ho]
  · refine ⟨-1, ?_⟩
    have hr : checkE ⟨ins, regs, code, outs⟩ = 80 := by simp [checkE, rightM, hm]
    rw [hr]
    simp only [headM, decide_eq_true_eq] at hm
    repeat' (first
    | (rw [condO_dec]; split <;> simp only [*, FT, Int.reduceEq, Int.reduceToNat, Int.reduceLE, Int.reduceLT, Int.reduceAdd, Int.reduceMul, Int.reduceSub, Int.reduceNeg, Nat.reduceAdd, Nat.reduceSub, Nat.reduceMul, Nat.reduceLT, Nat.reduceBEq, Nat.reduceEqDiff, Nat.reduceLeDiff])
    | (rw [condO_ite]; split <;> simp only [*, FT, Int.reduceEq, Int.reduceToNat, Int.reduceLE, Int.reduceLT, Int.reduceAdd, Int.reduceMul, Int.reduceSub, Int.reduceNeg, Nat.reduceAdd, Nat.reduceSub, Nat.reduceMul, Nat.reduceLT, Nat.reduceBEq, Nat.reduceEqDiff, Nat.reduceLeDiff])
    | (split <;> simp only [*, FT, Int.reduceEq, Int.reduceToNat, Int.reduceLE, Int.reduceLT, Int.reduceAdd, Int.reduceMul, Int.reduceSub, Int.reduceNeg, Nat.reduceAdd, Nat.reduceSub, Nat.reduceMul, Nat.reduceLT, Nat.reduceBEq, Nat.reduceEqDiff, Nat.reduceLeDiff]))
    all_goals first
      | rfl
      | (exfalso; omega)
end Go.Proofs.Sw
namespace Go.Proofs.Sw
open Go.Ab
variable [Globals]
def mark (l : List Bool) (b : Bool) : List Int → List Bool
  | [] => l
  | r :: rs => mark (l.set r.toNat b) b rs
end Go.Proofs.Sw
namespace Go.Proofs.Sw
open Go.Ab
variable [Globals]
def nothing (i : Ins) : Bool := decide (i.op = 1 ∧ i.to = i.a)
theorem clone_raw (k : Nat) (outs : List Int) (cap : Option Nat) (hl : 0 < outs.length) (ho : outs.length ≤ 1000000) : evalT Tryd.prog (mkHints tab) (k+1) (.fn 39) [sI outs false cap] [] = some (.hsl 0 0 outs.length outs.length 1, [.row false 3 (encInts outs)]) := by
  have hl2 := encInts_length outs
  have hap : ∀ o : AObj, apO 3 1 8 none (.hsl 0 0 0 0 1) [.row false 3 []] (some (encInts outs, outs.length)) = some (.hsl 0 0 outs.length outs.length 1, [.row false 3 (encInts outs)]) := by
    intro _
    have := apO_row (sl := none) (e := 3) (sz := 1) (by_ := 8) (m := outs.length) (len := 0) (id := 0) (H := [.row false 3 []]) (cells := []) (cs := encInts outs) hl (Nat.le_trans (Nat.mul_le_mul_right 8 (show 0 + outs.length ≤ 1000000 by omega)) (by decide)) (by omega) rfl rfl
    simpa using this
  have htk : (encInts outs).take outs.length = encInts outs := by rw [← hl2, List.take_length]
  have hle : outs.length ≤ outs.length := by omega
  rw [ev39]
  simp only [Tryd.f39, sI, FT, Int.reduceEq, Int.reduceToNat, Int.reduceLE, Int.reduceLT, Int.reduceAdd, Int.reduceMul, Int.reduceSub, Int.reduceNeg, Nat.reduceAdd, Nat.reduceSub, Nat.reduceMul, Nat.reduceLT, Nat.reduceBEq, Nat.reduceEqDiff, Nat.reduceLeDiff]
  simp only [hap (.dead), hl2, htk, hle, FT, Int.reduceEq, Int.reduceToNat, Int.reduceLE, Int.reduceLT, Int.reduceAdd, Int.reduceMul, Int.reduceSub, Int.reduceNeg, Nat.reduceAdd, Nat.reduceSub, Nat.reduceMul, Nat.reduceLT, Nat.reduceBEq, Nat.reduceEqDiff, Nat.reduceLeDiff]
end Go.Proofs.Sw
namespace Go.Proofs.Sw
open Go.Ab
variable [Globals]
abbrev hI (id n : Nat) : AV := .hsl id 0 n n 1
theorem mayM_facts {i : Ins} {regs : Int} (h : mayM i regs = true) : (1 ≤ i.op ∧ i.op ≤ 8) ∧ (0 ≤ i.to ∧ i.to < regs) ∧ (0 ≤ i.a ∧ i.a < regs) ∧ (i.op = 3 ∨ i.op = 4 → 0 ≤ i.b ∧ i.b < regs) := by
  simp only [mayM, Bool.and_eq_true, decide_eq_true_eq] at h
  obtain ⟨⟨⟨⟨m1, m2, m3, m4, m5⟩, _⟩, m6⟩, m7⟩ := h
  exact ⟨⟨m1, m2⟩, ⟨m3, m4⟩, m6, m7⟩
end Go.Proofs.Sw
namespace Go.Proofs.Sw
open Go.Ab
def powM (c : Int) : Int := if c = 2 then 1 else if c = 4 then 2 else if c = 8 then 3 else if c = 16 then 4 else if c = 32 then 5 else if c = 64 then 6 else if c = 128 then 7 else if c = 256 then 8 else if c = 512 then 9 else 0
theorem pow_cases {c : Int} (h : powM c ≠ 0) : c = 2 ∨ c = 4 ∨ c = 8 ∨ c = 16 ∨ c = 32 ∨ c = 64 ∨ c = 128 ∨ c = 256 ∨ c = 512 := by
  unfold powM at h
  repeat' (split at h <;> simp_all)
def plainM (i : Ins) : Ins :=
  if i.op = 3 then (if i.a = i.b then ⟨7, i.to, i.a, 0, 1⟩ else i)
  else if i.op = 5 ∨ i.op = 6 then
    (if i.c = 1 then ⟨1, i.to, i.a, 0, 0⟩ else if i.c = -1 then ⟨2, i.to, i.a, 0, 0⟩
     else if powM i.c ≠ 0 then ⟨if i.op = 5 then 7 else 8, i.to, i.a, 0, powM i.c⟩ else i)
  else i
def fits (c : Int) : Bool := decide (-512 ≤ c ∧ c ≤ 512)
def together (f c s d : Int) : Option (Int × Int) :=
  if f = 1 then some (s, d)
  else if f = 2 then (if s = 1 then some (2, 0) else if s = 2 then some (1, 0) else if s = 5 ∨ s = 6 then some (s, -d) else none)
  else if f = 5 then (if s = 2 then some (5, -c) else if s = 5 ∧ fits (c * d) = true then some (5, c * d) else if s = 6 ∧ c.tmod d = 0 then some (5, c.tdiv d) else if s = 6 ∧ d.tmod c = 0 then some (6, d.tdiv c) else none)
  else if f = 6 then (if s = 2 then some (6, -c) else if s = 6 ∧ fits (c * d) = true then some (6, c * d) else none)
  else if f = 7 then (if s = 7 ∧ c + d ≤ 64 then some (7, c + d) else if s ≠ 8 then none else if c = d then some (1, 0) else if d < c then some (7, c - d) else some (8, d - c))
  else if f = 8 then (if s = 8 ∧ c + d ≤ 64 then some (8, c + d) else none)
  else none
theorem small_mul {c d : Int} (h1 : -512 ≤ c) (h2 : c ≤ 512) (h3 : -512 ≤ d) (h4 : d ≤ 512) : -262144 ≤ c * d ∧ c * d ≤ 262144 := by
  have h5 : (c * d).natAbs = c.natAbs * d.natAbs := Int.natAbs_mul c d
  have h6 : c.natAbs * d.natAbs ≤ 512 * 512 := Nat.mul_le_mul (by omega) (by omega)
  omega
theorem small_div {c d : Int} (h1 : -512 ≤ c) (h2 : c ≤ 512) : -512 ≤ c.tdiv d ∧ c.tdiv d ≤ 512 := by
  have h5 : (c.tdiv d).natAbs = c.natAbs / d.natAbs := Int.natAbs_tdiv c d
  have h6 : c.natAbs / d.natAbs ≤ c.natAbs := Nat.div_le_self _ _
  omega
def meltM (a b : Ins) : Option Ins :=
  if b.op = 3 ∨ b.op = 4 ∨ b.a ≠ a.to ∨ b.to ≠ a.to then none else (together a.op a.c b.op b.c).map fun x => plainM ⟨x.1, b.to, a.a, 0, x.2⟩
theorem pow_small {c : Int} (h : powM c ≠ 0) : 1 ≤ powM c ∧ powM c ≤ 64 := by
  rcases pow_cases h with rfl | rfl | rfl | rfl | rfl | rfl | rfl | rfl | rfl <;> decide
theorem may_iff (i : Ins) (regs : Int) : mayM i regs = true ↔ (1 ≤ i.op ∧ i.op ≤ 8 ∧ 0 ≤ i.to ∧ i.to < regs ∧ (i.op = 3 ∨ i.op = 4 ∨ i.b = 0)) ∧ constant i = true ∧ (0 ≤ i.a ∧ i.a < regs) ∧ ((i.op = 3 ∨ i.op = 4) → 0 ≤ i.b ∧ i.b < regs) := by
  simp only [mayM, Bool.and_eq_true, decide_eq_true_eq, and_assoc]
theorem const_iff (i : Ins) : constant i = true ↔ ((i.op = 5 ∨ i.op = 6) → i.c ≠ 0 ∧ -512 ≤ i.c ∧ i.c ≤ 512) ∧ ((i.op = 7 ∨ i.op = 8) → 1 ≤ i.c ∧ i.c ≤ 64) ∧ ((i.op ≠ 5 ∧ i.op ≠ 6 ∧ i.op ≠ 7 ∧ i.op ≠ 8) → i.c = 0) := by
  unfold constant
  split
  · simp only [decide_eq_true_eq]; omega
  · split
    · simp only [decide_eq_true_eq]; omega
    · simp only [decide_eq_true_eq]; omega
theorem plain_may {i : Ins} {regs : Int} (h : mayM i regs = true) : mayM (plainM i) regs = true := by
  have h' := (may_iff _ _).1 h
  obtain ⟨h1, h2, h3, h4⟩ := h'
  unfold plainM
  split
  · split
    · rw [may_iff]; simp [constant]; omega
    · exact h
  · split
    · split
      · rw [may_iff]; simp [constant]; omega
      · split
        · rw [may_iff]; simp [constant]; omega
        · split
          · rename_i hp
            have := pow_small hp
            rw [may_iff]
            split <;> simp [constant] <;> omega
          · exact h
    · exact h
theorem mul_ne {c d : Int} (h1 : c ≠ 0) (h2 : d ≠ 0) : c * d ≠ 0 := Int.mul_ne_zero h1 h2
theorem div_ne {c d : Int} (h1 : c ≠ 0) (h : c.tmod d = 0) : c.tdiv d ≠ 0 := by
  intro h2
  have := Int.tmod_add_mul_tdiv c d
  rw [h, h2] at this
  simp at this
  exact h1 this.symm
theorem small {regs a o t c : Int} (h1 : 1 ≤ o ∧ o ≤ 8) (ht : 0 ≤ t ∧ t < regs) (ha : 0 ≤ a ∧ a < regs) (ho : o ≠ 3 ∧ o ≠ 4) (hc : constant ⟨o, t, a, 0, c⟩ = true) : mayM ⟨o, t, a, 0, c⟩ regs = true := by
  rw [may_iff]
  exact ⟨⟨h1.1, h1.2, ht.1, ht.2, .inr (.inr rfl)⟩, hc, ha, fun h => by rcases h with h | h <;> (dsimp only at h; omega)⟩
theorem together_const {f c s d o x : Int} (hf : constant ⟨f, 0, 0, 0, c⟩ = true) (hs : constant ⟨s, 0, 0, 0, d⟩ = true) (f1 : 1 ≤ f ∧ f ≤ 8) (s1 : 1 ≤ s ∧ s ≤ 8) (s3 : s ≠ 3) (s4 : s ≠ 4) (h : together f c s d = some (o, x)) :
    (1 ≤ o ∧ o ≤ 8 ∧ o ≠ 3 ∧ o ≠ 4) ∧ ((o = 5 ∨ o = 6) → x ≠ 0 ∧ -512 ≤ x ∧ x ≤ 512) ∧ ((o = 7 ∨ o = 8) → 1 ≤ x ∧ x ≤ 64) ∧ ((o = 1 ∨ o = 2) → x = 0) := by
  have m0 := @mul_ne c d
  have d0 := @div_ne c d
  have d1 := @div_ne d c
  have fo : f = 1 ∨ f = 2 ∨ f = 3 ∨ f = 4 ∨ f = 5 ∨ f = 6 ∨ f = 7 ∨ f = 8 := by omega
  have so : s = 1 ∨ s = 2 ∨ s = 5 ∨ s = 6 ∨ s = 7 ∨ s = 8 := by omega
  unfold together fits at h
  rcases fo with rfl | rfl | rfl | rfl | rfl | rfl | rfl | rfl <;> rcases so with rfl | rfl | rfl | rfl | rfl | rfl <;> simp [constant] at hf hs h
  all_goals (try (repeat' (split at h)))
  all_goals (try simp at h)
  all_goals (try (obtain ⟨rfl, rfl⟩ := h))
  all_goals first
    | omega
    | (have q1 := @small_div c d (by omega) (by omega); have q2 := @small_div d c (by omega) (by omega); have d0' := d0 (by omega); have d1' := d1 (by omega); omega)
    | skip
theorem melt_may {y x z : Ins} {regs : Int} (hy : mayM y regs = true) (hx : mayM x regs = true) (h : meltM y x = some z) : mayM z regs = true := by
  unfold meltM at h
  split at h
  · cases h
  · rename_i hne
    simp only [not_or, ne_eq, Classical.not_not] at hne
    obtain ⟨n1, n2, n3, n4⟩ := hne
    obtain ⟨⟨o, c⟩, ht, rfl⟩ := Option.map_eq_some_iff.1 h
    apply plain_may
    have y' := (may_iff _ _).1 hy
    have x' := (may_iff _ _).1 hx
    obtain ⟨y1, y2, y3, y4⟩ := y'
    obtain ⟨x1, x2, x3, x4⟩ := x'
    obtain ⟨a1, a2, a3, a4⟩ := together_const (f := y.op) (c := y.c) (s := x.op) (d := x.c) y2 x2 ⟨y1.1, y1.2.1⟩ ⟨x1.1, x1.2.1⟩ n1 n2 ht
    refine small ⟨a1.1, a1.2.1⟩ ⟨x1.2.2.1, x1.2.2.2.1⟩ y3 ⟨a1.2.2.1, a1.2.2.2⟩ ?_
    rw [const_iff]
    exact ⟨a2, a3, fun h => a4 (by dsimp only at h; omega)⟩
def push : List Ins → Ins → List Ins
  | [], b => if nothing b = true then [] else [b]
  | x :: st, b => if nothing b = true then x :: st else match meltM x b with
    | some y => push st y
    | none => b :: x :: st
def foldC (code : List Ins) : List Ins := (code.foldl (fun st i => push st (plainM i)) []).reverse
def foldP (p : Pg) : Pg := ⟨p.ins, p.regs, foldC p.code, p.outs⟩
theorem push_nothing {st : List Ins} {x : Ins} (h : nothing x = true) : push st x = st := by cases st <;> rw [push, if_pos h]
theorem push_nil {x : Ins} (h : nothing x = false) : push [] x = [x] := by rw [push, if_neg (by rw [h]; decide)]
theorem push_some {st : List Ins} {x y w : Ins} (h : nothing x = false) (hm : meltM y x = some w) : push (y :: st) x = push st w := by
  rw [push, if_neg (by rw [h]; decide), hm]
theorem push_none {st : List Ins} {x y : Ins} (h : nothing x = false) (hm : meltM y x = none) : push (y :: st) x = x :: y :: st := by
  rw [push, if_neg (by rw [h]; decide), hm]
theorem push_mem {regs : Int} : ∀ (st : List Ins) (x : Ins), (∀ i ∈ st, mayM i regs = true) → mayM x regs = true → ∀ i ∈ push st x, mayM i regs = true
  | [], x, hst, hx => by
    cases hn : nothing x with
    | true => rw [push_nothing hn]; exact hst
    | false => rw [push_nil hn]; intro i hi; rw [List.mem_singleton.1 hi]; exact hx
  | y :: st, x, hst, hx => by
    cases hn : nothing x with
    | true => rw [push_nothing hn]; exact hst
    | false =>
      cases hm : meltM y x with
      | none => rw [push_none hn hm]; intro i hi; rcases List.mem_cons.1 hi with rfl | hi; exact hx; exact hst i hi
      | some w => rw [push_some hn hm]; exact push_mem st w (fun i hi => hst i (by simp [hi])) (melt_may (hst y (by simp)) hx hm)
theorem push_len : ∀ (st : List Ins) (x : Ins), (push st x).length ≤ st.length + 1
  | [], x => by
    cases hn : nothing x with
    | true => rw [push_nothing hn]; omega
    | false => rw [push_nil hn]; simp
  | y :: st, x => by
    cases hn : nothing x with
    | true => rw [push_nothing hn]; omega
    | false =>
      cases hm : meltM y x with
      | none => rw [push_none hn hm]; simp
      | some w => rw [push_some hn hm]; have := push_len st w; simp; omega
theorem fold_mem {regs : Int} : ∀ (code st : List Ins), (∀ i ∈ code, mayM i regs = true) → (∀ i ∈ st, mayM i regs = true) → ∀ i ∈ code.foldl (fun st i => push st (plainM i)) st, mayM i regs = true
  | [], _, _, h => h
  | x :: code, st, hc, h => fold_mem code _ (fun j hj => hc j (by simp [hj])) (push_mem st _ h (plain_may (hc x (by simp))))
theorem fold_len : ∀ (code st : List Ins), (code.foldl (fun st i => push st (plainM i)) st).length ≤ st.length + code.length
  | [], st => by simp
  | x :: code, st => by
    have h1 := fold_len code (push st (plainM x))
    have h2 := push_len st (plainM x)
    simp only [List.foldl_cons, List.length_cons]
    omega
theorem foldC_len (code : List Ins) : (foldC code).length ≤ code.length := by
  have := fold_len code []
  simpa [foldC] using this
theorem foldP_right {p : Pg} (h : rightM p = true) : rightM (foldP p) = true := by
  simp only [rightM, headM, codeM, outsM, Bool.and_eq_true, decide_eq_true_eq, List.all_eq_true] at h ⊢
  obtain ⟨⟨h1, h2⟩, h3⟩ := h
  refine ⟨⟨?_, h2⟩, ?_⟩
  · have := foldC_len p.code
    show _ ∧ _ ∧ _ ∧ (foldC p.code).length ≤ 16384 ∧ _
    exact ⟨h1.1, h1.2.1, h1.2.2.1, by omega, h1.2.2.2.2⟩
  · intro x hx
    exact fold_mem p.code [] h3 (fun i hi => (nomatch hi)) x (List.mem_reverse.1 hx)
end Go.Proofs.Sw
namespace Go.Proofs.Sw
open Go.Ab
variable [Globals]
structure Sem (α : Type) where
  f : Int → Int → α → α → Option α
  d : α
  G : α → Prop
  one : ∀ c a b, f 1 c a b = some a
  two : ∀ o c a b b', o ≠ 3 → o ≠ 4 → f o c a b = f o c a b'
  comm : ∀ c a b, G a → G b → f 3 c a b = f 3 c b a
  good : ∀ o c a b v, G a → G b → f o c a b = some v → G v
  gd : G d
section
variable {α : Type} (M : Sem α)
def stepE (R : List α) (x : Ins) : Option (List α) := (M.f x.op x.c (R.getD x.a.toNat M.d) (R.getD x.b.toNat M.d)).map fun v => R.set x.to.toNat v
def runE : List Ins → List α → Option (List α)
  | [], R => some R
  | x :: l, R => match stepE M R x with
    | some Q => runE l Q
    | none => none
theorem runE_append : ∀ (a b : List Ins) (R : List α), runE M (a ++ b) R = (runE M a R).bind (runE M b)
  | [], b, R => rfl
  | x :: a, b, R => by
    rw [List.cons_append, runE, runE]
    cases stepE M R x with
    | none => rfl
    | some Q => exact runE_append a b Q
theorem runE_snoc (a : List Ins) (x : Ins) (R : List α) : runE M (a ++ [x]) R = (runE M a R).bind (fun Q => stepE M Q x) := by
  rw [runE_append]
  cases runE M a R with
  | none => rfl
  | some Q =>
    show runE M [x] Q = stepE M Q x
    rw [runE]
    cases stepE M Q x <;> rfl
theorem getDA_set {l : List α} {i k : Nat} {v d : α} (hi : i < l.length) : (l.set i v).getD k d = if k = i then v else l.getD k d := by
  rw [List.getD_eq_getElem?_getD, List.getD_eq_getElem?_getD, List.getElem?_set]
  by_cases h : i = k
  · subst h; simp [hi]
  · simp [h, show ¬ k = i from fun e => h e.symm]
theorem set_getD {l : List α} {i : Nat} {d : α} (hi : i < l.length) : l.set i (l.getD i d) = l := by
  rw [List.getD_eq_getElem?_getD, List.getElem?_eq_getElem hi]
  exact List.set_getElem_self hi
end
end Go.Proofs.Sw
namespace Go.Proofs.Sw
open Go.Ab
variable [Globals]
def pw2 (c : Int) : Int := ((2 ^ c.toNat : Nat) : Int)
theorem pw2_ne (c : Int) : pw2 c ≠ 0 := by
  unfold pw2
  have : 0 < 2 ^ c.toNat := Nat.pow_pos (by omega)
  omega
theorem pw2_add {c d : Int} (h1 : 0 ≤ c) (h2 : 0 ≤ d) : pw2 (c + d) = pw2 c * pw2 d := by
  unfold pw2
  rw [show (c + d).toNat = c.toNat + d.toNat by omega, Nat.pow_add, Int.natCast_mul]
theorem pw2_pow {c : Int} (h : powM c ≠ 0) : pw2 (powM c) = c := by
  rcases pow_cases h with rfl | rfl | rfl | rfl | rfl | rfl | rfl | rfl | rfl <;> decide
structure Lin {α : Type} (M : Sem α) where
  mul : Int → α → α
  div : Int → α → Option α
  f2 : ∀ c a b, M.f 2 c a b = some (mul (-1) a)
  f3 : ∀ c a, M.f 3 c a a = some (mul 2 a)
  f5 : ∀ c a b, M.f 5 c a b = some (mul c a)
  f7 : ∀ c a b, M.f 7 c a b = some (mul (pw2 c) a)
  f6 : ∀ c a b, c ≠ 0 → M.f 6 c a b = div c a
  f8 : ∀ c a b, M.f 8 c a b = div (pw2 c) a
  m1 : ∀ a, mul 1 a = a
  mm : ∀ c d a, mul c (mul d a) = mul (c * d) a
  d1 : ∀ a, div 1 a = some a
  dn : ∀ a, div (-1) a = some (mul (-1) a)
  dd : ∀ c d a, c ≠ 0 → d ≠ 0 → (div c a).bind (div d) = div (c * d) a
  dmc : ∀ c d a, c ≠ 0 → d ≠ 0 → div (c * d) (mul c a) = div d a
  md : ∀ c a, c ≠ 0 → (div c a).map (mul (-1)) = div (-c) a
section
variable {α : Type} {M : Sem α} (L : Lin M)
include L
theorem Lin.dm {c d : Int} (a : α) (hd : d ≠ 0) : L.div d (L.mul (d * c) a) = some (L.mul c a) := by
  rw [← L.mm]
  have := L.dmc d 1 (L.mul c a) hd (by decide)
  rw [Int.mul_one, L.d1] at this
  exact this
theorem Lin.dneg {c : Int} (a : α) (hc : c ≠ 0) : L.div c (L.mul (-1) a) = L.div (-c) a := by
  have := L.dmc (-1) (-c) a (by decide) (by omega)
  rw [show (-1 : Int) * -c = c by omega] at this
  exact this
theorem together_sem {f c s d o x : Int} (hf : constant ⟨f, 0, 0, 0, c⟩ = true) (hs : constant ⟨s, 0, 0, 0, d⟩ = true) (f1 : 1 ≤ f ∧ f ≤ 8) (s1 : 1 ≤ s ∧ s ≤ 8) (s3 : s ≠ 3) (s4 : s ≠ 4) (h : together f c s d = some (o, x)) (a b b' b2 : α) :
    ((M.f f c a b).bind fun v => M.f s d v b') = M.f o x a b2 := by
  have so : s = 1 ∨ s = 2 ∨ s = 5 ∨ s = 6 ∨ s = 7 ∨ s = 8 := by omega
  have hs' := (const_iff _).1 hs
  have hf' := (const_iff _).1 hf
  obtain ⟨hs5, hs7, hs1⟩ := hs'
  obtain ⟨hf5, hf7, hf1⟩ := hf'
  simp only at hs5 hs7 hs1 hf5 hf7 hf1
  have fo : f = 1 ∨ f = 2 ∨ f = 3 ∨ f = 4 ∨ f = 5 ∨ f = 6 ∨ f = 7 ∨ f = 8 := by omega
  unfold together at h
  rcases fo with rfl | rfl | rfl | rfl | rfl | rfl | rfl | rfl
  · simp only [if_true, Option.some.injEq, Prod.mk.injEq] at h
    obtain ⟨rfl, rfl⟩ := h
    rw [M.one, Option.bind_some]
    exact M.two _ _ _ _ _ s3 s4
  · rcases so with rfl | rfl | rfl | rfl | rfl | rfl <;> simp at h
    · obtain ⟨rfl, rfl⟩ := h
      simp only [L.f2, Option.bind_some, M.one]
    · obtain ⟨rfl, rfl⟩ := h
      simp only [L.f2, Option.bind_some, M.one, L.mm]
      rw [show (-1 : Int) * -1 = 1 by decide, L.m1]
    · obtain ⟨rfl, rfl⟩ := h
      simp only [L.f2, Option.bind_some, L.f5, L.mm]
      rw [show d * -1 = -d by omega]
    · obtain ⟨rfl, rfl⟩ := h
      have hd := (hs5 (.inr rfl)).1
      rw [L.f2, Option.bind_some, L.f6 _ _ _ hd, L.f6 _ _ _ (by omega), L.dneg _ hd]
  · simp at h
  · simp at h
  · have hc := (hf5 (.inl rfl)).1
    rcases so with rfl | rfl | rfl | rfl | rfl | rfl <;> simp at h
    · obtain ⟨rfl, rfl⟩ := h
      simp only [L.f2, L.f5, Option.bind_some, L.mm]
      rw [show (-1 : Int) * c = -c by omega]
    · obtain ⟨_, rfl, rfl⟩ := h
      simp only [L.f5, Option.bind_some, L.mm]
      rw [Int.mul_comm]
    · have hd := (hs5 (.inr rfl)).1
      rw [L.f5, Option.bind_some, L.f6 _ _ _ hd]
      split at h
      · rename_i hq
        simp only [Option.some.injEq, Prod.mk.injEq] at h
        obtain ⟨rfl, rfl⟩ := h
        have e : c = d * c.tdiv d := by have := Int.tmod_add_mul_tdiv c d; rw [hq, Int.zero_add] at this; exact this.symm
        rw [L.f5]
        have e2 := L.dm (c := c.tdiv d) a hd
        rw [← e] at e2
        exact e2
      · simp only [Option.ite_none_right_eq_some, Option.some.injEq, Prod.mk.injEq] at h
        obtain ⟨hq, rfl, rfl⟩ := h
        have e : d = c * d.tdiv c := by have := Int.tmod_add_mul_tdiv d c; rw [hq, Int.zero_add] at this; exact this.symm
        have hne : d.tdiv c ≠ 0 := fun h0 => by rw [h0, Int.mul_zero] at e; exact hd e
        rw [L.f6 _ _ _ hne]
        have e2 := L.dmc c (d.tdiv c) a hc hne
        rw [← e] at e2
        exact e2
  · have hc := (hf5 (.inr rfl)).1
    rcases so with rfl | rfl | rfl | rfl | rfl | rfl <;> simp at h
    · obtain ⟨rfl, rfl⟩ := h
      rw [L.f6 _ _ _ hc, L.f6 _ _ _ (by omega)]
      have := L.md c a hc
      rw [← this]
      cases L.div c a <;> simp [L.f2]
    · obtain ⟨_, rfl, rfl⟩ := h
      have hd := (hs5 (.inr rfl)).1
      rw [L.f6 _ _ _ hc, L.f6 _ _ _ (Int.mul_ne_zero hc hd), ← L.dd c d a hc hd]
      congr 1
      funext v
      exact L.f6 _ _ _ hd
  · have hc := hf7 (.inl rfl)
    rcases so with rfl | rfl | rfl | rfl | rfl | rfl <;> simp at h
    · obtain ⟨_, rfl, rfl⟩ := h
      have hd := hs7 (.inl rfl)
      simp only [L.f7, Option.bind_some, L.mm]
      rw [Int.mul_comm, pw2_add (by omega) (by omega)]
    · have hd := hs7 (.inr rfl)
      rw [L.f7, Option.bind_some, L.f8]
      split at h
      · rename_i hq
        subst hq
        simp only [Option.some.injEq, Prod.mk.injEq] at h
        obtain ⟨rfl, rfl⟩ := h
        have e2 := L.dm (c := 1) a (pw2_ne c)
        rw [Int.mul_one, L.m1] at e2
        rw [e2, M.one]
      · split at h
        · rename_i hq
          simp only [Option.some.injEq, Prod.mk.injEq] at h
          obtain ⟨rfl, rfl⟩ := h
          have e2 := L.dm (c := pw2 (c - d)) a (pw2_ne d)
          rw [← pw2_add (by omega) (by omega), show d + (c - d) = c by omega] at e2
          rw [e2, L.f7]
        · simp only [Option.some.injEq, Prod.mk.injEq] at h
          obtain ⟨rfl, rfl⟩ := h
          have e2 := L.dmc (pw2 c) (pw2 (d - c)) a (pw2_ne c) (pw2_ne _)
          rw [← pw2_add (by omega) (by omega), show c + (d - c) = d by omega] at e2
          rw [e2, L.f8]
  · have hc := hf7 (.inr rfl)
    rcases so with rfl | rfl | rfl | rfl | rfl | rfl <;> simp at h
    obtain ⟨_, rfl, rfl⟩ := h
    have hd := hs7 (.inr rfl)
    rw [L.f8, L.f8, pw2_add (by omega) (by omega), ← L.dd _ _ a (pw2_ne c) (pw2_ne d)]
    congr 1
    funext v
    exact L.f8 _ _ _
theorem plain_step {x : Ins} {n : Nat} (hx : mayM x n = true) (R : List α) : stepE M R (plainM x) = stepE M R x := by
  obtain ⟨⟨o1, o2⟩, _, _, _⟩ := mayM_facts hx
  have hc := ((may_iff _ _).1 hx).2.1
  obtain ⟨c5, _, _⟩ := (const_iff _).1 hc
  unfold plainM
  split
  · rename_i h3
    split
    · rename_i hab
      unfold stepE
      simp only
      rw [h3, ← hab, L.f3, L.f7, show pw2 1 = 2 from rfl]
    · rfl
  · split
    · rename_i h56
      have hc5 := c5 h56
      split
      · rename_i h1
        unfold stepE
        simp only
        rw [h1, M.one]
        rcases h56 with h | h <;> rw [h]
        · rw [L.f5, L.m1]
        · rw [L.f6 _ _ _ (by decide), L.d1]
      · split
        · rename_i h1
          unfold stepE
          simp only
          rw [h1, L.f2]
          rcases h56 with h | h <;> rw [h]
          · rw [L.f5]
          · rw [L.f6 _ _ _ (by decide), L.dn]
        · split
          · rename_i hp
            unfold stepE
            simp only
            rcases h56 with h | h <;> rw [h]
            · rw [if_pos rfl, L.f7, L.f5, pw2_pow hp]
            · rw [if_neg (by decide), L.f8, L.f6 _ _ _ hc5.1, pw2_pow hp]
          · rfl
    · rfl
theorem nothing_step {x : Ins} {n : Nat} (hx : mayM x n = true) (h : nothing x = true) {R : List α} (hR : R.length = n) : stepE M R x = some R := by
  simp only [nothing, decide_eq_true_eq] at h
  obtain ⟨_, ⟨t0, t1⟩, _, _⟩ := mayM_facts hx
  unfold stepE
  rw [h.1, M.one, Option.map_some, ← h.2, set_getD (by omega)]
theorem melt_step {y x z : Ins} {n : Nat} (hy : mayM y n = true) (hx : mayM x n = true) (h : meltM y x = some z) {R : List α} (hR : R.length = n) :
    ((stepE M R y).bind fun Q => stepE M Q x) = stepE M R z := by
  unfold meltM at h
  split at h
  · cases h
  · rename_i hne
    simp only [not_or, ne_eq, Classical.not_not] at hne
    obtain ⟨n1, n2, n3, n4⟩ := hne
    obtain ⟨⟨o, c⟩, ht, rfl⟩ := Option.map_eq_some_iff.1 h
    have y' := (may_iff _ _).1 hy
    have x' := (may_iff _ _).1 hx
    obtain ⟨y1, y2, y3, y4⟩ := y'
    obtain ⟨x1, x2, x3, x4⟩ := x'
    obtain ⟨a1, a2, a3, a4⟩ := together_const (f := y.op) (c := y.c) (s := x.op) (d := x.c) y2 x2 ⟨y1.1, y1.2.1⟩ ⟨x1.1, x1.2.1⟩ n1 n2 ht
    have hz : mayM ⟨o, x.to, y.a, 0, c⟩ n = true := by
      refine small ⟨a1.1, a1.2.1⟩ ⟨x1.2.2.1, x1.2.2.2.1⟩ y3 ⟨a1.2.2.1, a1.2.2.2⟩ ?_
      rw [const_iff]
      exact ⟨a2, a3, fun h => a4 (by dsimp only at h; omega)⟩
    rw [plain_step L hz]
    unfold stepE
    simp only
    rw [← together_sem L (f := y.op) (c := y.c) (s := x.op) (d := x.c) y2 x2 ⟨y1.1, y1.2.1⟩ ⟨x1.1, x1.2.1⟩ n1 n2 ht (R.getD y.a.toNat M.d) (R.getD y.b.toNat M.d) M.d (R.getD (0 : Int).toNat M.d)]
    cases hv : M.f y.op y.c (R.getD y.a.toNat M.d) (R.getD y.b.toNat M.d) with
    | none => rfl
    | some v =>
      simp only [Option.map_some, Option.bind_some]
      have ht : y.to.toNat < R.length := by omega
      rw [n3, getDA_set ht, if_pos rfl, n4, M.two _ _ _ _ M.d n1 n2]
      congr 1
      funext w
      rw [List.set_set]
theorem stepE_len {R Q : List α} {x : Ins} (h : stepE M R x = some Q) : Q.length = R.length := by
  unfold stepE at h
  obtain ⟨v, _, rfl⟩ := Option.map_eq_some_iff.1 h
  exact List.length_set ..
theorem runE_len : ∀ (code : List Ins) (R Q : List α), runE M code R = some Q → Q.length = R.length
  | [], R, Q, h => by obtain rfl := Option.some.inj h; rfl
  | x :: code, R, Q, h => by
    rw [runE] at h
    cases e : stepE M R x with
    | none => rw [e] at h; cases h
    | some S => rw [e] at h; rw [runE_len code S Q h, stepE_len L e]
theorem push_run {n : Nat} : ∀ (st : List Ins) (x : Ins) (R : List α), (∀ i ∈ st, mayM i n = true) → mayM x n = true → R.length = n → runE M (push st x).reverse R = (runE M st.reverse R).bind fun Q => stepE M Q x
  | [], x, R, hst, hx, hR => by
    cases hn : nothing x with
    | true => rw [push_nothing hn]; simp only [List.reverse_nil, runE, Option.bind_some]; rw [nothing_step L hx hn hR]
    | false => rw [push_nil hn]; simp only [List.reverse_nil, runE, Option.bind_some, List.reverse_singleton]; cases stepE M R x <;> rfl
  | y :: st, x, R, hst, hx, hR => by
    cases hn : nothing x with
    | true =>
      rw [push_nothing hn]
      cases hq : runE M (y :: st).reverse R with
      | none => rfl
      | some Q => rw [Option.bind_some, nothing_step L hx hn (by rw [runE_len L _ _ _ hq, hR])]
    | false =>
      cases hm : meltM y x with
      | none => rw [push_none hn hm, List.reverse_cons, runE_snoc]
      | some w =>
        have hy := hst y (by simp)
        rw [push_some hn hm, push_run st w R (fun i hi => hst i (by simp [hi])) (melt_may hy hx hm) hR, List.reverse_cons, runE_snoc, Option.bind_assoc]
        cases hq : runE M st.reverse R with
        | none => rfl
        | some Q => simp only [Option.bind_some]; exact (melt_step L hy hx hm (by rw [runE_len L _ _ _ hq, hR])).symm
theorem fold_run {n : Nat} : ∀ (code st : List Ins) (R : List α), (∀ i ∈ code, mayM i n = true) → (∀ i ∈ st, mayM i n = true) → R.length = n → runE M (code.foldl (fun st i => push st (plainM i)) st).reverse R = runE M (st.reverse ++ code) R
  | [], st, R, _, _, _ => by rw [List.foldl_nil, List.append_nil]
  | x :: code, st, R, hc, hst, hR => by
    have hx := hc x (by simp)
    rw [List.foldl_cons, fold_run code _ R (fun i hi => hc i (by simp [hi])) (push_mem st _ hst (plain_may hx)) hR, runE_append, push_run L st _ R hst (plain_may hx) hR, show st.reverse ++ x :: code = (st.reverse ++ [x]) ++ code by simp, runE_append, runE_snoc]
    congr 2
    funext Q
    exact plain_step L hx Q
theorem foldC_run {n : Nat} {code : List Ins} (h : ∀ i ∈ code, mayM i n = true) {R : List α} (hR : R.length = n) : runE M (foldC code) R = runE M code R := by
  have := fold_run L code [] R h (fun i hi => (nomatch hi)) hR
  simpa [foldC] using this
end
end Go.Proofs.Sw
namespace Go.Proofs.Sw.W
def vd : List Nat → Nat
  | [] => 0
  | d :: l => d + 4294967296 * vd l
def okD (l : List Nat) : Prop := ∀ d ∈ l, d < 4294967296
theorem okD_nil : okD [] := fun _ h => by cases h
theorem okD_cons {d : Nat} {l : List Nat} : okD (d :: l) ↔ d < 4294967296 ∧ okD l := by
  constructor
  · intro h; exact ⟨h d (by simp), fun x hx => h x (by simp [hx])⟩
  · rintro ⟨h1, h2⟩ x hx
    rcases List.mem_cons.1 hx with rfl | hx
    · exact h1
    · exact h2 x hx
theorem okD_append {a b : List Nat} : okD (a ++ b) ↔ okD a ∧ okD b := by
  constructor
  · intro h; exact ⟨fun x hx => h x (by simp [hx]), fun x hx => h x (by simp [hx])⟩
  · rintro ⟨h1, h2⟩ x hx
    rcases List.mem_append.1 hx with hx | hx
    · exact h1 x hx
    · exact h2 x hx
theorem vd_append : ∀ (a b : List Nat), vd (a ++ b) = vd a + 4294967296 ^ a.length * vd b
  | [], b => by simp [vd]
  | d :: a, b => by
    rw [List.cons_append, vd, vd, vd_append a b, List.length_cons, Nat.pow_succ, Nat.mul_add]
    rw [show 4294967296 * (4294967296 ^ a.length * vd b) = 4294967296 ^ a.length * 4294967296 * vd b by rw [Nat.mul_comm (4294967296 ^ a.length) 4294967296, Nat.mul_assoc]]
    omega
theorem vd_lt : ∀ {l : List Nat}, okD l → vd l < 4294967296 ^ l.length
  | [], _ => by simp [vd]
  | d :: l, h => by
    obtain ⟨h1, h2⟩ := okD_cons.1 h
    have := vd_lt h2
    rw [vd, List.length_cons, Nat.pow_succ]
    have h3 : 4294967296 * (vd l + 1) ≤ 4294967296 * 4294967296 ^ l.length := Nat.mul_le_mul_left _ this
    rw [Nat.mul_comm (4294967296 ^ l.length) 4294967296]
    omega
theorem vd_snoc (a : List Nat) (x : Nat) : vd (a ++ [x]) = vd a + 4294967296 ^ a.length * x := by
  rw [vd_append]; simp [vd]
def trimD : List Nat → List Nat
  | [] => []
  | d :: l => if trimD l = [] ∧ d = 0 then [] else d :: trimD l
theorem vd_trim : ∀ l, vd (trimD l) = vd l
  | [] => rfl
  | d :: l => by
    have ih := vd_trim l
    rw [trimD]
    split
    · rename_i h
      rw [h.1] at ih
      simp only [vd] at ih ⊢
      omega
    · rw [vd, vd, ih]
theorem trim_take : ∀ l, trimD l = l.take (trimD l).length
  | [] => rfl
  | d :: l => by
    have ih := trim_take l
    rw [trimD]
    split
    · rfl
    · rw [List.length_cons, List.take_succ_cons, ← ih]
theorem trim_len (l : List Nat) : (trimD l).length ≤ l.length := by
  rw [trim_take l]; simp; omega
theorem trim_ok {l : List Nat} (h : okD l) : okD (trimD l) := by
  rw [trim_take l]; exact fun d hd => h d (List.mem_of_mem_take hd)
theorem trim_zero : ∀ {l : List Nat} {i : Nat}, (trimD l).length ≤ i → i < l.length → l.getD i 0 = 0
  | [], i, _, h => by simp at h
  | d :: l, i, h1, h2 => by
    rw [trimD] at h1
    split at h1
    · rename_i h
      cases i with
      | zero => simpa using h.2
      | succ i =>
        have := trim_zero (l := l) (i := i) (by rw [h.1]; simp) (by simpa using h2)
        simpa using this
    · cases i with
      | zero => simp at h1
      | succ i =>
        have := trim_zero (l := l) (i := i) (by simpa using h1) (by simpa using h2)
        simpa using this
theorem trim_last : ∀ {l : List Nat}, trimD l ≠ [] → (trimD l).getD ((trimD l).length - 1) 0 ≠ 0
  | [], h => absurd rfl h
  | d :: l, h => by
    rw [trimD] at h ⊢
    split at h
    · exact absurd rfl h
    · rename_i hc
      rw [if_neg hc]
      by_cases hl : trimD l = []
      · rw [hl]
        simpa using fun e => hc ⟨hl, e⟩
      · have ih := trim_last hl
        have hp : 0 < (trimD l).length := List.length_pos_iff.2 hl
        obtain ⟨m, hm⟩ : ∃ m, (trimD l).length = m + 1 := ⟨(trimD l).length - 1, by omega⟩
        rw [List.length_cons, hm]
        rw [hm] at ih
        simpa using ih
theorem trim_app0 : ∀ (l : List Nat), trimD (l ++ [0]) = trimD l
  | [] => rfl
  | d :: l => by rw [List.cons_append, trimD, trimD, trim_app0 l]
theorem trim_trim (l : List Nat) : trimD (trimD l) = trimD l := by
  induction l with
  | nil => rfl
  | cons d l ih =>
    rw [trimD]
    split
    · rfl
    · rename_i h
      rw [trimD, ih, if_neg h]
structure Can (l : List Nat) : Prop where
  ok : okD l
  tr : trimD l = l
theorem can_trim {l : List Nat} (h : okD l) : Can (trimD l) := ⟨trim_ok h, trim_trim l⟩
theorem can_nil : Can [] := ⟨okD_nil, rfl⟩
theorem can_tail {d : Nat} {l : List Nat} (h : Can (d :: l)) : Can l := by
  refine ⟨(okD_cons.1 h.ok).2, ?_⟩
  have := h.tr
  rw [trimD] at this
  split at this
  · cases this
  · exact (List.cons.inj this).2
theorem can_zero {l : List Nat} (h : Can l) (h0 : vd l = 0) : l = [] := by
  induction l with
  | nil => rfl
  | cons d l ih =>
    rw [vd] at h0
    have hl := ih (can_tail h) (by omega)
    have := h.tr
    rw [trimD, hl, if_pos ⟨rfl, by omega⟩] at this
    cases this
theorem can_inj : ∀ {a b : List Nat}, Can a → Can b → vd a = vd b → a = b
  | [], b, _, hb, h => (can_zero hb h.symm).symm
  | x :: a, [], ha, _, h => can_zero ha h
  | x :: a, y :: b, ha, hb, h => by
    have h1 := (okD_cons.1 ha.ok).1
    have h2 := (okD_cons.1 hb.ok).1
    rw [vd, vd] at h
    have e1 : x = y := by omega
    have e2 : vd a = vd b := by omega
    rw [e1, can_inj (can_tail ha) (can_tail hb) e2]
def digF : Nat → Nat → List Nat
  | 0, _ => []
  | f + 1, n => if n = 0 then [] else n % 4294967296 :: digF f (n / 4294967296)
def dig (n : Nat) : List Nat := digF n n
theorem digF_spec : ∀ (f n : Nat), n ≤ f → vd (digF f n) = n ∧ Can (digF f n)
  | 0, n, h => by
    have : n = 0 := by omega
    subst this
    exact ⟨rfl, can_nil⟩
  | f + 1, n, h => by
    rw [digF]
    split
    · rename_i h0; subst h0; exact ⟨rfl, can_nil⟩
    · rename_i h0
      obtain ⟨h1, h2⟩ := digF_spec f (n / 4294967296) (by omega)
      refine ⟨by rw [vd, h1]; omega, okD_cons.2 ⟨by omega, h2.ok⟩, ?_⟩
      rw [trimD, h2.tr, if_neg]
      rintro ⟨h3, h4⟩
      rw [h3] at h1
      simp only [vd] at h1
      omega
theorem vd_dig (n : Nat) : vd (dig n) = n := (digF_spec n n (Nat.le_refl _)).1
theorem can_dig (n : Nat) : Can (dig n) := (digF_spec n n (Nat.le_refl _)).2
theorem dig_of {l : List Nat} (h : okD l) : trimD l = dig (vd l) := can_inj (can_trim h) (can_dig _) (by rw [vd_trim, vd_dig])
theorem dig_zero : dig 0 = [] := rfl
theorem dig_pos {n : Nat} (h : 0 < n) : dig n ≠ [] := fun e => by
  have := vd_dig n
  rw [e] at this
  simp only [vd] at this
  omega
theorem dig_nil {n : Nat} : dig n = [] ↔ n = 0 := by
  constructor
  · intro h
    by_cases h0 : n = 0
    · exact h0
    · exact absurd h (dig_pos (by omega))
  · rintro rfl; rfl
theorem dig_len {n k : Nat} (h : n < 4294967296 ^ k) : (dig n).length ≤ k := by
  by_cases hk : (dig n).length ≤ k
  · exact hk
  · exfalso
    have hc := can_dig n
    have hv := vd_dig n
    obtain ⟨l, x, hx⟩ : ∃ l x, dig n = l ++ [x] := by
      have hne : dig n ≠ [] := fun e => by rw [e] at hk; simp at hk
      exact ⟨(dig n).dropLast, (dig n).getLast hne, (List.dropLast_concat_getLast hne).symm⟩
    have hx0 : x ≠ 0 := fun e => by
      subst e
      have := hc.tr
      rw [hx, trim_app0] at this
      have h2 := trim_len l
      have h3 := congrArg List.length this
      simp at h3
      omega
    rw [hx] at hv hk
    rw [vd_snoc] at hv
    rw [List.length_append] at hk
    simp only [List.length_cons, List.length_nil] at hk
    have h1 : 4294967296 ^ k ≤ 4294967296 ^ l.length := Nat.pow_le_pow_right (by omega) (by omega)
    have h2 : 4294967296 ^ l.length * 1 ≤ 4294967296 ^ l.length * x := Nat.mul_le_mul_left _ (by omega)
    omega
theorem okD_get {l : List Nat} (h : okD l) (i : Nat) : l.getD i 0 < 4294967296 := by
  by_cases hi : i < l.length
  · rw [List.getD_eq_getElem?_getD, List.getElem?_eq_getElem hi]
    exact h _ (List.getElem_mem hi)
  · rw [List.getD_eq_getElem?_getD, List.getElem?_eq_none (by omega)]; simp
theorem vd_take (l : List Nat) (i : Nat) : vd (l.take (i + 1)) = vd (l.take i) + 4294967296 ^ i * l.getD i 0 := by
  by_cases h : i < l.length
  · rw [List.take_succ_eq_append_getElem h, vd_snoc, List.length_take, List.getD_eq_getElem?_getD, List.getElem?_eq_getElem h]
    rw [show min i l.length = i by omega]; rfl
  · rw [List.take_of_length_le (by omega), List.take_of_length_le (by omega), List.getD_eq_getElem?_getD, List.getElem?_eq_none (by omega)]; simp
theorem getD_out {l : List Nat} {i : Nat} (h : l.length ≤ i) : l.getD i 0 = 0 := by
  rw [List.getD_eq_getElem?_getD, List.getElem?_eq_none h]; rfl
theorem vd_ge {b : List Nat} (hb : Can b) (h : b ≠ []) : 4294967296 ^ (b.length - 1) ≤ vd b := by
  obtain ⟨l, x, hx⟩ : ∃ l x, b = l ++ [x] := ⟨b.dropLast, b.getLast h, (List.dropLast_concat_getLast h).symm⟩
  have hx0 : x ≠ 0 := fun e => by
    subst e
    have := hb.tr
    rw [hx, trim_app0] at this
    have h2 := trim_len l
    have h3 := congrArg List.length this
    simp at h3
    omega
  rw [hx, vd_snoc, List.length_append]
  simp only [List.length_cons, List.length_nil, Nat.zero_add, Nat.add_sub_cancel]
  have : 4294967296 ^ l.length * 1 ≤ 4294967296 ^ l.length * x := Nat.mul_le_mul_left _ (by omega)
  omega
theorem can_len {a b : List Nat} (ha : okD a) (hb : Can b) (h : a.length < b.length) : vd a < vd b := by
  have h1 := vd_lt ha
  have h2 := vd_ge hb (fun e => by rw [e] at h; simp at h)
  have h3 : 4294967296 ^ a.length ≤ 4294967296 ^ (b.length - 1) := Nat.pow_le_pow_right (by omega) (by omega)
  omega
theorem vd_split (l : List Nat) (j : Nat) (h : j < l.length) : vd l = vd (l.take j) + 4294967296 ^ j * (l.getD j 0 + 4294967296 * vd (l.drop (j + 1))) := by
  have h1 : l = l.take j ++ l.drop j := (List.take_append_drop j l).symm
  have h2 : l.drop j = l.getD j 0 :: l.drop (j + 1) := by
    rw [List.drop_eq_getElem_cons h, List.getD_eq_getElem?_getD, List.getElem?_eq_getElem h]; rfl
  have h3 : (l.take j).length = j := by rw [List.length_take]; omega
  calc vd l = vd (l.take j ++ l.drop j) := by rw [← h1]
    _ = _ := by rw [vd_append, h3, h2, vd]
theorem vd_lt_at {a b : List Nat} (ha : okD a) {j : Nat} (hja : j < a.length) (hjb : j < b.length) (hd : a.drop (j + 1) = b.drop (j + 1)) (h : a.getD j 0 < b.getD j 0) : vd a < vd b := by
  have h1 : vd (a.take j) < 4294967296 ^ j := by
    have := vd_lt (l := a.take j) (fun d hd => ha d (List.mem_of_mem_take hd))
    rwa [List.length_take, show min j a.length = j by omega] at this
  rw [vd_split a j hja, vd_split b j hjb, hd]
  have h2 : 4294967296 ^ j * (a.getD j 0 + 4294967296 * vd (b.drop (j + 1)) + 1) ≤ 4294967296 ^ j * (b.getD j 0 + 4294967296 * vd (b.drop (j + 1))) := Nat.mul_le_mul_left _ (by omega)
  rw [Nat.mul_add, Nat.mul_one] at h2
  omega
theorem vd_set : ∀ (l : List Nat) (k v : Nat), k < l.length → vd (l.set k v) + 4294967296 ^ k * l.getD k 0 = vd l + 4294967296 ^ k * v
  | [], k, v, h => by simp at h
  | d :: l, 0, v, _ => by simp [vd]; omega
  | d :: l, k + 1, v, h => by
    have ih := vd_set l k v (by simpa using h)
    rw [List.set_cons_succ, vd, vd, Nat.pow_succ]
    have e1 : (d :: l).getD (k + 1) 0 = l.getD k 0 := by simp
    rw [e1, Nat.mul_comm (4294967296 ^ k) 4294967296, Nat.mul_assoc, Nat.mul_assoc]
    omega
theorem okD_set {l : List Nat} {k v : Nat} (h : okD l) (hv : v < 4294967296) : okD (l.set k v) := fun d hd => by
  rcases List.mem_or_eq_of_mem_set hd with hd | rfl
  · exact h d hd
  · exact hv
theorem vd_rep (L : Nat) : vd (List.replicate L 0) = 0 := by
  induction L with
  | zero => rfl
  | succ n ih => rw [List.replicate_succ, vd, ih]
theorem dig_len_mono {m n : Nat} (h : m ≤ n) : (dig m).length ≤ (dig n).length := by
  by_cases hlt : (dig n).length < (dig m).length
  · have := can_len (can_dig n).ok (can_dig m) hlt
    rw [vd_dig, vd_dig] at this
    omega
  · omega
def cmpN (m n : Nat) : Int := if m < n then -1 else if n < m then 1 else 0
end Go.Proofs.Sw.W
namespace Go.Proofs.Sw
def vd : List Nat → Nat
  | [] => 0
  | d :: l => d + 65536 * vd l
def okD (l : List Nat) : Prop := ∀ d ∈ l, d < 65536
theorem okD_nil : okD [] := fun _ h => by cases h
theorem okD_cons {d : Nat} {l : List Nat} : okD (d :: l) ↔ d < 65536 ∧ okD l := by
  constructor
  · intro h; exact ⟨h d (by simp), fun x hx => h x (by simp [hx])⟩
  · rintro ⟨h1, h2⟩ x hx
    rcases List.mem_cons.1 hx with rfl | hx
    · exact h1
    · exact h2 x hx
theorem okD_append {a b : List Nat} : okD (a ++ b) ↔ okD a ∧ okD b := by
  constructor
  · intro h; exact ⟨fun x hx => h x (by simp [hx]), fun x hx => h x (by simp [hx])⟩
  · rintro ⟨h1, h2⟩ x hx
    rcases List.mem_append.1 hx with hx | hx
    · exact h1 x hx
    · exact h2 x hx
theorem vd_append : ∀ (a b : List Nat), vd (a ++ b) = vd a + 65536 ^ a.length * vd b
  | [], b => by simp [vd]
  | d :: a, b => by
    rw [List.cons_append, vd, vd, vd_append a b, List.length_cons, Nat.pow_succ, Nat.mul_add]
    rw [show 65536 * (65536 ^ a.length * vd b) = 65536 ^ a.length * 65536 * vd b by rw [Nat.mul_comm (65536 ^ a.length) 65536, Nat.mul_assoc]]
    omega
theorem vd_lt : ∀ {l : List Nat}, okD l → vd l < 65536 ^ l.length
  | [], _ => by simp [vd]
  | d :: l, h => by
    obtain ⟨h1, h2⟩ := okD_cons.1 h
    have := vd_lt h2
    rw [vd, List.length_cons, Nat.pow_succ]
    have h3 : 65536 * (vd l + 1) ≤ 65536 * 65536 ^ l.length := Nat.mul_le_mul_left _ this
    rw [Nat.mul_comm (65536 ^ l.length) 65536]
    omega
theorem vd_snoc (a : List Nat) (x : Nat) : vd (a ++ [x]) = vd a + 65536 ^ a.length * x := by
  rw [vd_append]; simp [vd]
def trimD : List Nat → List Nat
  | [] => []
  | d :: l => if trimD l = [] ∧ d = 0 then [] else d :: trimD l
theorem vd_trim : ∀ l, vd (trimD l) = vd l
  | [] => rfl
  | d :: l => by
    have ih := vd_trim l
    rw [trimD]
    split
    · rename_i h
      rw [h.1] at ih
      simp only [vd] at ih ⊢
      omega
    · rw [vd, vd, ih]
theorem trim_take : ∀ l, trimD l = l.take (trimD l).length
  | [] => rfl
  | d :: l => by
    have ih := trim_take l
    rw [trimD]
    split
    · rfl
    · rw [List.length_cons, List.take_succ_cons, ← ih]
theorem trim_len (l : List Nat) : (trimD l).length ≤ l.length := by
  rw [trim_take l]; simp; omega
theorem trim_ok {l : List Nat} (h : okD l) : okD (trimD l) := by
  rw [trim_take l]; exact fun d hd => h d (List.mem_of_mem_take hd)
theorem trim_zero : ∀ {l : List Nat} {i : Nat}, (trimD l).length ≤ i → i < l.length → l.getD i 0 = 0
  | [], i, _, h => by simp at h
  | d :: l, i, h1, h2 => by
    rw [trimD] at h1
    split at h1
    · rename_i h
      cases i with
      | zero => simpa using h.2
      | succ i =>
        have := trim_zero (l := l) (i := i) (by rw [h.1]; simp) (by simpa using h2)
        simpa using this
    · cases i with
      | zero => simp at h1
      | succ i =>
        have := trim_zero (l := l) (i := i) (by simpa using h1) (by simpa using h2)
        simpa using this
theorem trim_last : ∀ {l : List Nat}, trimD l ≠ [] → (trimD l).getD ((trimD l).length - 1) 0 ≠ 0
  | [], h => absurd rfl h
  | d :: l, h => by
    rw [trimD] at h ⊢
    split at h
    · exact absurd rfl h
    · rename_i hc
      rw [if_neg hc]
      by_cases hl : trimD l = []
      · rw [hl]
        simpa using fun e => hc ⟨hl, e⟩
      · have ih := trim_last hl
        have hp : 0 < (trimD l).length := List.length_pos_iff.2 hl
        obtain ⟨m, hm⟩ : ∃ m, (trimD l).length = m + 1 := ⟨(trimD l).length - 1, by omega⟩
        rw [List.length_cons, hm]
        rw [hm] at ih
        simpa using ih
theorem trim_app0 : ∀ (l : List Nat), trimD (l ++ [0]) = trimD l
  | [] => rfl
  | d :: l => by rw [List.cons_append, trimD, trimD, trim_app0 l]
theorem trim_trim (l : List Nat) : trimD (trimD l) = trimD l := by
  induction l with
  | nil => rfl
  | cons d l ih =>
    rw [trimD]
    split
    · rfl
    · rename_i h
      rw [trimD, ih, if_neg h]
structure Can (l : List Nat) : Prop where
  ok : okD l
  tr : trimD l = l
theorem can_trim {l : List Nat} (h : okD l) : Can (trimD l) := ⟨trim_ok h, trim_trim l⟩
theorem can_nil : Can [] := ⟨okD_nil, rfl⟩
theorem can_tail {d : Nat} {l : List Nat} (h : Can (d :: l)) : Can l := by
  refine ⟨(okD_cons.1 h.ok).2, ?_⟩
  have := h.tr
  rw [trimD] at this
  split at this
  · cases this
  · exact (List.cons.inj this).2
theorem can_zero {l : List Nat} (h : Can l) (h0 : vd l = 0) : l = [] := by
  induction l with
  | nil => rfl
  | cons d l ih =>
    rw [vd] at h0
    have hl := ih (can_tail h) (by omega)
    have := h.tr
    rw [trimD, hl, if_pos ⟨rfl, by omega⟩] at this
    cases this
theorem can_inj : ∀ {a b : List Nat}, Can a → Can b → vd a = vd b → a = b
  | [], b, _, hb, h => (can_zero hb h.symm).symm
  | x :: a, [], ha, _, h => can_zero ha h
  | x :: a, y :: b, ha, hb, h => by
    have h1 := (okD_cons.1 ha.ok).1
    have h2 := (okD_cons.1 hb.ok).1
    rw [vd, vd] at h
    have e1 : x = y := by omega
    have e2 : vd a = vd b := by omega
    rw [e1, can_inj (can_tail ha) (can_tail hb) e2]
def digF : Nat → Nat → List Nat
  | 0, _ => []
  | f + 1, n => if n = 0 then [] else n % 65536 :: digF f (n / 65536)
def dig (n : Nat) : List Nat := digF n n
theorem digF_spec : ∀ (f n : Nat), n ≤ f → vd (digF f n) = n ∧ Can (digF f n)
  | 0, n, h => by
    have : n = 0 := by omega
    subst this
    exact ⟨rfl, can_nil⟩
  | f + 1, n, h => by
    rw [digF]
    split
    · rename_i h0; subst h0; exact ⟨rfl, can_nil⟩
    · rename_i h0
      obtain ⟨h1, h2⟩ := digF_spec f (n / 65536) (by omega)
      refine ⟨by rw [vd, h1]; omega, okD_cons.2 ⟨by omega, h2.ok⟩, ?_⟩
      rw [trimD, h2.tr, if_neg]
      rintro ⟨h3, h4⟩
      rw [h3] at h1
      simp only [vd] at h1
      omega
theorem vd_dig (n : Nat) : vd (dig n) = n := (digF_spec n n (Nat.le_refl _)).1
theorem can_dig (n : Nat) : Can (dig n) := (digF_spec n n (Nat.le_refl _)).2
theorem dig_of {l : List Nat} (h : okD l) : trimD l = dig (vd l) := can_inj (can_trim h) (can_dig _) (by rw [vd_trim, vd_dig])
theorem dig_zero : dig 0 = [] := rfl
theorem dig_pos {n : Nat} (h : 0 < n) : dig n ≠ [] := fun e => by
  have := vd_dig n
  rw [e] at this
  simp only [vd] at this
  omega
theorem dig_nil {n : Nat} : dig n = [] ↔ n = 0 := by
  constructor
  · intro h
    by_cases h0 : n = 0
    · exact h0
    · exact absurd h (dig_pos (by omega))
  · rintro rfl; rfl
theorem dig_len {n k : Nat} (h : n < 65536 ^ k) : (dig n).length ≤ k := by
  by_cases hk : (dig n).length ≤ k
  · exact hk
  · exfalso
    have hc := can_dig n
    have hv := vd_dig n
    obtain ⟨l, x, hx⟩ : ∃ l x, dig n = l ++ [x] := by
      have hne : dig n ≠ [] := fun e => by rw [e] at hk; simp at hk
      exact ⟨(dig n).dropLast, (dig n).getLast hne, (List.dropLast_concat_getLast hne).symm⟩
    have hx0 : x ≠ 0 := fun e => by
      subst e
      have := hc.tr
      rw [hx, trim_app0] at this
      have h2 := trim_len l
      have h3 := congrArg List.length this
      simp at h3
      omega
    rw [hx] at hv hk
    rw [vd_snoc] at hv
    rw [List.length_append] at hk
    simp only [List.length_cons, List.length_nil] at hk
    have h1 : 65536 ^ k ≤ 65536 ^ l.length := Nat.pow_le_pow_right (by omega) (by omega)
    have h2 : 65536 ^ l.length * 1 ≤ 65536 ^ l.length * x := Nat.mul_le_mul_left _ (by omega)
    omega
end Go.Proofs.Sw
namespace Go.Ab
variable [Globals]
theorem scalar_frzs {H : Heap} : ∀ {cs : List AV}, cs.all AV.scalar0 = true → ∃ l, frzs H cs = some (l, H) ∧ l.map AV.c = cs
  | [], _ => ⟨[], rfl, rfl⟩
  | x :: cs, h => by
    rw [List.all_cons, Bool.and_eq_true] at h
    obtain ⟨l, h1, h2⟩ := scalar_frzs (H := H) h.2
    cases x with
    | c x => exact ⟨x :: l, by rw [frzs, frz, Option.bind_some]; simp only [h1, Option.bind_some], by rw [List.map_cons, h2]⟩
    | _ => cases h.1
theorem scalar_frzV {H : Heap} {x : AV} (h : x.scalar1 = true) : frzV H x = some (x, H) := by
  cases x with
  | c x => rfl
  | agg cs =>
    obtain ⟨l, h1, h2⟩ := scalar_frzs (H := H) (cs := cs) h
    rw [frzV_agg, h1, Option.map_some, h2]
  | _ => cases h
theorem scalar_frzTup {H : Heap} : ∀ {cs : List AV}, cs.all AV.scalar1 = true → frzTup H cs = some (cs, H)
  | [], _ => rfl
  | x :: cs, h => by
    rw [List.all_cons, Bool.and_eq_true] at h
    rw [frzTup, scalar_frzV h.1, Option.bind_some]
    simp only [scalar_frzTup (H := H) h.2, Option.bind_some]
theorem scalar_frzR {H : Heap} {x : AV} (h : x.scalar = true) : frzR H x = some (x, H) := by
  cases x with
  | tup vs => rw [frzR, scalar_frzTup h]; rfl
  | c x => exact scalar_frzV (x := .c x) h
  | agg cs => exact scalar_frzV (x := .agg cs) h
  | _ => cases h
theorem doCallS_or {P : Program} {tab : Tab} {kf f r i : Nat} {ar : Option Nat} {g : FuncId} {args bs : List AV} {H H1 : Heap} {v : AV} (hf : inB tab.frames g = false) (hk : keepB tab.keeps f r i = false) (ha : args.all AV.pure = false) (hz : frzTup H args = some (bs, H1)) (hv : ans (evalT P (mkHints tab) kf (.fn g) bs []) = some v) :
    doCallS (cxG P (mkHints tab) kf f ar) r i g args H = some (v, H) ∨ doCallS (cxG P (mkHints tab) kf f ar) r i g args H = some (v, H1) := by
  unfold doCallS doCall pureCall
  rw [if_neg (by rw [show (cxG P (mkHints tab) kf f ar).hints.framed g = false from hf]; simp), if_neg (by rw [show (cxG P (mkHints tab) kf f ar).hints.raw (cxG P (mkHints tab) kf f ar).fn r i = false from rawB_of hk]; simp), if_neg (by rw [show (cxG P (mkHints tab) kf f ar).hints.keep (cxG P (mkHints tab) kf f ar).fn r i = false from hk]; simp), if_neg (by rw [ha]; simp), hz]
  simp only [Option.bind_some]
  rw [show (cxG P (mkHints tab) kf f ar).call g bs [] = evalT P (mkHints tab) kf (.fn g) bs [] from rfl]
  cases he : evalT P (mkHints tab) kf (.fn g) bs [] with
  | none => rw [he] at hv; cases hv
  | some q =>
    rw [he] at hv
    simp only [Option.bind_some]
    by_cases hs : q.1.scalar = true
    · rw [if_pos hs]
      have h1 : (frzR q.2 q.1).map (fun s => s.1) = some v := hv
      rw [scalar_frzR hs] at h1
      injection h1 with h1
      simp only at h1
      rw [h1]
      exact .inl rfl
    · rw [if_neg hs]
      have h1 : (frzR q.2 q.1).map (fun s => s.1) = some v := hv
      obtain ⟨s, h2, h3⟩ := Option.map_eq_some_iff.1 h1
      rw [h2]
      refine .inr ?_
      rw [Option.map_some, h3]
end Go.Ab
namespace Go.Proofs.Sw
open Go.Ab
variable [Globals]
def encD (l : List Nat) : List IV := l.map fun (d : Nat) => .int .u32 (d : Int)
abbrev sD (l : List Nat) (nl : Bool) (cap : Option Nat) : AV := .c (.slice (encD l) l.length nl cap)
abbrev rD (l : List Nat) : AObj := .row false 117 (encD l)
theorem encD_length (l : List Nat) : (encD l).length = l.length := by simp [encD]
theorem encD_get {l : List Nat} {i : Nat} (h : i < l.length) : (encD l)[i]? = some (.int .u32 (l.getD i 0 : Nat)) := by
  simp [encD, h]
theorem encD_append (a b : List Nat) : encD (a ++ b) = encD a ++ encD b := by simp [encD]
theorem encD_take (l : List Nat) (n : Nat) : (encD l).take n = encD (l.take n) := by simp [encD, List.map_take]
theorem encD_set {l : List Nat} {i : Nat} {d : Nat} : (encD l).set i (.int .u32 (d : Int)) = encD (l.set i d) := by simp [encD, List.map_set]
theorem okD_get {l : List Nat} (h : okD l) (i : Nat) : l.getD i 0 < 65536 := by
  by_cases hi : i < l.length
  · rw [List.getD_eq_getElem?_getD, List.getElem?_eq_getElem hi]
    exact h _ (List.getElem_mem hi)
  · rw [List.getD_eq_getElem?_getD, List.getElem?_eq_none (by omega)]; simp
theorem wrap32 {n : Int} (h0 : 0 ≤ n) (h : n < 4294967296) : IntKind.wrap .u32 n = n := by
  have e : IntKind.wrap .u32 n = n % 4294967296 := rfl
  rw [e]
  exact Int.emod_eq_of_lt h0 h
theorem wrapu64 {n : Int} (h0 : 0 ≤ n) (h : n < 18446744073709551616) : IntKind.wrap .u64 n = n := by
  have e : IntKind.wrap .u64 n = n % 18446744073709551616 := rfl
  rw [e]
  exact Int.emod_eq_of_lt h0 h
theorem wr32 {n : Nat} (h : n < 4294967296) : IntKind.wrap .u32 ((n : Nat) : Int) = ((n : Nat) : Int) := wrap32 (by omega) (by omega)
theorem wr64 {n : Nat} (h : n < 18446744073709551616) : IntKind.wrap .u64 ((n : Nat) : Int) = ((n : Nat) : Int) := wrapu64 (by omega) (by omega)
structure RI where
  v : Int
  nl : Bool
  cap : Option Nat
def sgn (neg : Bool) (n : Nat) : Int := if neg = true then -(n : Int) else n
theorem sgn_abs (neg : Bool) (n : Nat) : (sgn neg n).natAbs = n := by unfold sgn; split <;> omega
theorem strict_slice {a : List IV} {b : Nat} {c : Bool} {d : Option Nat} : IV.strict (.slice a b c d) = false := rfl
end Go.Proofs.Sw
namespace Go.Proofs.Sw.W
open Go.Ab
variable [Globals]
theorem sliceMD {a : List Nat} {nl : Bool} {n : Nat} (hn : n ≤ a.length) : sliceM 1 (encD a) a.length nl none (some (.c (.int .i64 (n : Int)))) (.c (.int .i64 (n : Int))) = some (sD (a.take n) nl (some n)) := by
  have h1 : (a.take n).length = n := by rw [List.length_take]; omega
  have hb : boundA 0 (some (.c (.int .i64 (n : Int)))) = some n := by simp [boundA]
  unfold sliceM
  rw [hb]
  simp only [Option.bind_some, boundA]
  rw [if_pos ⟨Nat.zero_le _, Nat.le_refl _, hn, rfl, .inl (by rw [encD_length, Nat.mul_one])⟩]
  simp only [Nat.zero_mul, List.drop_zero, Nat.sub_zero, Nat.mul_one]
  rw [encD_take, sD, h1]
theorem loop_trim (kf : Nat) (a : List Nat) (nl : Bool) (cap : Option Nat) (hl : a.length ≤ 1000000) (k : Nat) (l : Ass) (z : Option Out) (hz : loopR Tryd.prog tab kf none LB106_2 106 22 [0, 3] 0 k l ([]) = z) (hk : a.length - (trimD a).length < k) (a0 : asc l 0 = sD a nl cap) (a3 : asc l 3 = ii ((a.length - 0 : Nat) : Int)) :
    ∃ l', z = some (.exit 0 (fr 22 l') []) ∧ asc l' 0 = sD a nl cap ∧ asc l' 3 = ii (trimD a).length := by
  subst hz
  refine loop_nat (a.length - (trimD a).length) (fun k l H => loopR Tryd.prog tab kf none LB106_2 106 22 [0, 3] 0 k l H)
    (fun i l H => asc l 0 = sD a nl cap ∧ asc l 3 = ii ((a.length - i : Nat) : Int) ∧ ∃ G, H = ([]) ++ G)
    (fun z => ∃ l', z = some (.exit 0 (fr 22 l') []) ∧ asc l' 0 = sD a nl cap ∧ asc l' 3 = ii (trimD a).length) ?_ (a.length - (trimD a).length) 0 k l _ (by omega) hk ⟨a0, a3, [], by rw [List.append_nil]⟩
  clear hk a0 a3
  rintro i k l H hi ⟨a0, a3, G, rfl⟩
  have ht : trim 0 (fr 22 (keep l [0, 3])) (([]) ++ H) = ([]) := trim_app (by simp) (by simp only [a0, a3, EVb, EVc, Int.reduceEq, Int.reduceToNat, Int.reduceLE, Int.reduceLT, Int.reduceAdd, Int.reduceMul, Int.reduceSub, Int.reduceNeg, Nat.reduceAdd, Nat.reduceSub, Nat.reduceMul, Nat.reduceLT, Nat.reduceBEq, Nat.reduceEqDiff, Nat.reduceLeDiff]) (by simp only [EVb, EVc, Int.reduceEq, Int.reduceToNat, Int.reduceLE, Int.reduceLT, Int.reduceAdd, Int.reduceMul, Int.reduceSub, Int.reduceNeg, Nat.reduceAdd, Nat.reduceSub, Nat.reduceMul, Nat.reduceLT, Nat.reduceBEq, Nat.reduceEqDiff, Nat.reduceLeDiff])
  by_cases hc : i < (a.length - (trimD a).length)
  · have hc' : (i : Int) < ((a.length - (trimD a).length : Nat) : Int) := by omega
    have hc0 : (0 : Int) ≤ i := by omega
    have hw : IntKind.wrap .i64 ((i : Int) + 1) = ((i + 1 : Nat) : Int) := by rw [wrap64 (by omega) (by omega)]; omega
    have htl := trim_len a
    obtain ⟨j, hj⟩ : ∃ j, a.length - i = j + 1 := ⟨a.length - i - 1, by omega⟩
    have e1 : a.length - (i + 1) = j := by omega
    have hz := trim_zero (l := a) (i := j) (by omega) (by omega)
    have hx := encD_get (l := a) (i := j) (by omega)
    rw [hz] at hx
    rw [hj] at a3
    rw [e1]
    have hp1 : (0 : Int) < ((j + 1 : Nat) : Int) := by omega
    have hw1 : IntKind.wrap .i64 (((j + 1 : Nat) : Int) - 1) = (j : Int) := by rw [wrap64 (by omega) (by omega)]; omega
    have hj0 : (0 : Int) ≤ j := by omega
    have hj1 : (j : Int) < a.length := by omega
    simp only [loopR_succ, ht]
    simp only [a0, a3, hc', hc0, hw, hx, hp1, hw1, hj0, hj1, loopR_succ, loopOf, findLoop, firstRegion, Option.some_or, Option.none_or, Option.getD_some, Option.some.injEq, Tryd.f106, FT, Int.reduceEq, Int.reduceToNat, Int.reduceLE, Int.reduceLT, Int.reduceAdd, Int.reduceMul, Int.reduceSub, Int.reduceNeg, Nat.reduceAdd, Nat.reduceSub, Nat.reduceMul, Nat.reduceLT, Nat.reduceBEq, Nat.reduceEqDiff, Nat.reduceLeDiff]
    exact .inr ⟨_, _, hc, rfl, (by rfl), (by rfl), ⟨[], by rfl⟩⟩
  · refine .inl ?_
    obtain rfl : i = (a.length - (trimD a).length) := by omega
    have hc' : ¬ ((((a.length - (trimD a).length) : Nat) : Int) < (((a.length - (trimD a).length) : Nat) : Int)) := by omega
    have htl := trim_len a
    have e1 : a.length - (a.length - (trimD a).length) = (trimD a).length := by omega
    rw [e1] at a3
    by_cases h0 : (trimD a).length = 0
    · rw [h0] at a3 ⊢
      simp only [loopR_succ, ht]
      simp only [a0, a3, loopR_succ, loopOf, findLoop, firstRegion, Option.some_or, Option.none_or, Option.getD_some, Option.some.injEq, Tryd.f106, FT, Int.reduceEq, Int.reduceToNat, Int.reduceLE, Int.reduceLT, Int.reduceAdd, Int.reduceMul, Int.reduceSub, Int.reduceNeg, Nat.reduceAdd, Nat.reduceSub, Nat.reduceMul, Nat.reduceLT, Nat.reduceBEq, Nat.reduceEqDiff, Nat.reduceLeDiff]
      exact ⟨_, rfl, (by rfl), (by rfl)⟩
    · obtain ⟨j, hj⟩ : ∃ j, (trimD a).length = j + 1 := ⟨(trimD a).length - 1, by omega⟩
      have hlast := trim_last (l := a) (fun e => h0 (by rw [e]; rfl))
      have hx := encD_get (l := a) (i := j) (by omega)
      have hg : a.getD j 0 = (trimD a).getD j 0 := by
        rw [trim_take a, List.getD_eq_getElem?_getD, List.getD_eq_getElem?_getD, List.getElem?_take, if_pos (by omega)]
      rw [hj, show j + 1 - 1 = j by omega, ← hg] at hlast
      obtain ⟨y, hy⟩ : ∃ y, y = a.getD j 0 := ⟨_, rfl⟩
      rw [← hy] at hlast hx
      have hne : ¬ (y : Int) = 0 := by omega
      rw [hj] at a3 ⊢
      have hp1 : (0 : Int) < ((j + 1 : Nat) : Int) := by omega
      have hw1 : IntKind.wrap .i64 (((j + 1 : Nat) : Int) - 1) = (j : Int) := by rw [wrap64 (by omega) (by omega)]; omega
      have hj0 : (0 : Int) ≤ j := by omega
      have hj1 : (j : Int) < a.length := by omega
      simp only [loopR_succ, ht]
      simp only [a0, a3, hx, hp1, hw1, hj0, hj1, hne, loopR_succ, loopOf, findLoop, firstRegion, Option.some_or, Option.none_or, Option.getD_some, Option.some.injEq, Tryd.f106, FT, Int.reduceEq, Int.reduceToNat, Int.reduceLE, Int.reduceLT, Int.reduceAdd, Int.reduceMul, Int.reduceSub, Int.reduceNeg, Nat.reduceAdd, Nat.reduceSub, Nat.reduceMul, Nat.reduceLT, Nat.reduceBEq, Nat.reduceEqDiff, Nat.reduceLeDiff]
      exact ⟨_, rfl, (by rfl), (by rfl)⟩
theorem trim_ev (k : Nat) (a : List Nat) (nl : Bool) (cap : Option Nat) (hl : a.length ≤ 1000000) (hk : a.length < k) : run (k+1) 106 [sD a nl cap] = some (sD (trimD a) nl (some (trimD a).length)) := by
  have htl := trim_len a
  have htk := trim_take a
  have h0 : (0 : Int) ≤ (trimD a).length := by omega
  rw [run, ev106, ans_trim]
  simp only [Tryd.f106, ii, FT, Int.reduceEq, Int.reduceToNat, Int.reduceLE, Int.reduceLT, Int.reduceAdd, Int.reduceMul, Int.reduceSub, Int.reduceNeg, Nat.reduceAdd, Nat.reduceSub, Nat.reduceMul, Nat.reduceLT, Nat.reduceBEq, Nat.reduceEqDiff, Nat.reduceLeDiff]
  rw [evalCode_loopB LB106_2 lp106_2]; rotate_left; rfl; rfl; rfl
  generalize hz : loopR _ _ _ _ _ _ _ _ _ _ _ _ = z
  obtain ⟨l', rfl, e0, e3⟩ := loop_trim k a nl cap hl _ _ z hz (by omega) (by rfl) (by rfl)
  clear hz
  have hsl := sliceMD (a := a) (nl := nl) htl
  rw [← htk] at hsl
  simp only [e0, e3, ii, hsl, FT, Int.reduceEq, Int.reduceToNat, Int.reduceLE, Int.reduceLT, Int.reduceAdd, Int.reduceMul, Int.reduceSub, Int.reduceNeg, Nat.reduceAdd, Nat.reduceSub, Nat.reduceMul, Nat.reduceLT, Nat.reduceBEq, Nat.reduceEqDiff, Nat.reduceLeDiff]
theorem trim_call {k f r i id : Nat} {a : List Nat} {H : Heap} (h : H[id]? = some (rD a)) (hl : a.length ≤ 1000000) (hk : a.length < k) (hkp : keepB tab.keeps f r i = false := by rfl) :
    ∃ H2, doCallS (cxG Tryd.prog (mkHints tab) (k+1) f none) r i 106 [.hsl id 0 a.length a.length 1] H = some (sD (trimD a) false (some (trimD a).length), H2) ∧ H2.length = H.length ∧ ∀ j, j ≠ id → H2[j]? = H[j]? := by
  have hz : frzTup H [.hsl id 0 a.length a.length 1] = some ([sD a false none], H.set id (.row true 117 (encD a))) := by
    have hr : rowOf H id a.length = some (117, encD a) := rowOf_eq h (encD_length a)
    rw [frzTup, frzV_hsl, frz_hsl, hr]
    simp only [Option.bind_some, Nat.zero_add, Nat.mul_one, Nat.le_refl, if_true, List.drop_zero, Option.map_some, frzTup]
    rw [List.take_of_length_le (by rw [encD_length]; exact Nat.le_refl _)]
  have hv := trim_ev k a false none hl hk
  rcases doCallS_or (P := Tryd.prog) (tab := tab) (kf := k + 1) (f := f) (r := r) (i := i) (ar := none) (g := 106) (by rfl) hkp (by rfl) hz hv with e | e
  · exact ⟨_, e, rfl, fun _ _ => rfl⟩
  · exact ⟨_, e, by simp, fun j hj => by rw [List.getElem?_set_ne (fun h => hj h.symm)]⟩
theorem loop_cmp (kf : Nat) (a b : List Nat) (nl nl2 : Bool) (cap cap2 : Option Nat) (ha : okD a) (hb : okD b) (hlab : b.length = a.length) (hla : a.length ≤ 100000) (k : Nat) (l : Ass) (z : Option Out) (hz : loopR Tryd.prog tab kf none LB85_7 85 49 [0, 1, 5] 0 k l ([]) = z) (hk : a.length < k) (a0 : asc l 0 = sD a nl cap) (a1 : asc l 1 = sD b nl2 cap2) (a5 : asc l 5 = ii ((a.length : Int) - 1 - 0)) :
    ∃ l', (z = some (.exit 1 (fr 49 l') []) ∧ a = b) ∨ (z = some (.ret (fr 49 l') []) ∧ asc l' 4 = ii (cmpN (vd a) (vd b))) := by
  subst hz
  refine loop_nat a.length (fun k l H => loopR Tryd.prog tab kf none LB85_7 85 49 [0, 1, 5] 0 k l H)
    (fun i l H => asc l 0 = sD a nl cap ∧ asc l 1 = sD b nl2 cap2 ∧ asc l 5 = ii ((a.length : Int) - 1 - i) ∧ (a.drop (a.length - i) = b.drop (a.length - i)) ∧ ∃ G, H = ([]) ++ G)
    (fun z => ∃ l', (z = some (.exit 1 (fr 49 l') []) ∧ a = b) ∨ (z = some (.ret (fr 49 l') []) ∧ asc l' 4 = ii (cmpN (vd a) (vd b)))) ?_ a.length 0 k l _ (by omega) hk ⟨a0, a1, a5, by simp [hlab], [], by rw [List.append_nil]⟩
  clear hk a0 a1 a5
  rintro i k l H hi ⟨a0, a1, a5, hp, G, rfl⟩
  have ht : trim 0 (fr 49 (keep l [0, 1, 5])) (([]) ++ H) = ([]) := trim_app (by simp) (by simp only [a0, a1, a5, EVb, EVc, Int.reduceEq, Int.reduceToNat, Int.reduceLE, Int.reduceLT, Int.reduceAdd, Int.reduceMul, Int.reduceSub, Int.reduceNeg, Nat.reduceAdd, Nat.reduceSub, Nat.reduceMul, Nat.reduceLT, Nat.reduceBEq, Nat.reduceEqDiff, Nat.reduceLeDiff]) (by simp only [EVb, EVc, Int.reduceEq, Int.reduceToNat, Int.reduceLE, Int.reduceLT, Int.reduceAdd, Int.reduceMul, Int.reduceSub, Int.reduceNeg, Nat.reduceAdd, Nat.reduceSub, Nat.reduceMul, Nat.reduceLT, Nat.reduceBEq, Nat.reduceEqDiff, Nat.reduceLeDiff])
  by_cases hc : i < a.length
  · have hc' : (i : Int) < ((a.length : Nat) : Int) := by omega
    have hc0 : (0 : Int) ≤ i := by omega
    have hw : IntKind.wrap .i64 ((i : Int) + 1) = ((i + 1 : Nat) : Int) := by rw [wrap64 (by omega) (by omega)]; omega
    obtain ⟨j, hj⟩ : ∃ j, a.length = j + 1 + i := ⟨a.length - 1 - i, by omega⟩
    have e1 : a.length - i = j + 1 := by omega
    have e2 : a.length - (i + 1) = j := by omega
    have e3 : (a.length : Int) - 1 - (i : Int) = (j : Int) := by omega
    have e4 : (a.length : Int) - 1 - ((i + 1 : Nat) : Int) = (j : Int) - 1 := by omega
    rw [e3] at a5
    rw [e1] at hp
    rw [e2, e4]
    have hj0 : (0 : Int) ≤ j := by omega
    have hj1 : (j : Int) < a.length := by omega
    have hj2 : (j : Int) < b.length := by omega
    have hx := encD_get (l := a) (i := j) (by omega)
    have hy := encD_get (l := b) (i := j) (by omega)
    have hw2 : IntKind.wrap .i64 ((j : Int) - 1) = (j : Int) - 1 := by rw [wrap64 (by omega) (by omega)]
    by_cases h1 : a.getD j 0 < b.getD j 0
    · have h1' : ((a.getD j 0 : Nat) : Int) < ((b.getD j 0 : Nat) : Int) := by omega
      have hv := vd_lt_at ha (show j < a.length by omega) (show j < b.length by omega) hp h1
      have hcm : cmpN (vd a) (vd b) = -1 := if_pos hv
      refine .inl ?_
      simp only [loopR_succ, ht]
      simp only [a0, a1, a5, hc', hc0, hw, hj0, loopR_succ, loopOf, findLoop, firstRegion, Option.some_or, Option.none_or, Option.getD_some, Option.some.injEq, Tryd.f85, FT, Int.reduceEq, Int.reduceToNat, Int.reduceLE, Int.reduceLT, Int.reduceAdd, Int.reduceMul, Int.reduceSub, Int.reduceNeg, Nat.reduceAdd, Nat.reduceSub, Nat.reduceMul, Nat.reduceLT, Nat.reduceBEq, Nat.reduceEqDiff, Nat.reduceLeDiff]
      rw [evalCode_drawn Tryd.f85 9 dr85_9]; rotate_left; rfl
      simp only [a0, a1, a5, hc', hc0, hw, hj0, hj1, hj2, hx, hy, h1', EVd, List.getElem?_nil, Nat.reducePow, Nat.reduceDiv, Nat.reduceMod, FT, Int.reduceEq, Int.reduceToNat, Int.reduceLE, Int.reduceLT, Int.reduceAdd, Int.reduceMul, Int.reduceSub, Int.reduceNeg, Nat.reduceAdd, Nat.reduceSub, Nat.reduceMul, Nat.reduceLT, Nat.reduceBEq, Nat.reduceEqDiff, Nat.reduceLeDiff]
      rw [hcm]
      exact ⟨_, .inr ⟨rfl, (by rfl)⟩⟩
    · have h1' : ¬ ((a.getD j 0 : Nat) : Int) < ((b.getD j 0 : Nat) : Int) := by omega
      by_cases h2 : b.getD j 0 < a.getD j 0
      · have h2' : ((b.getD j 0 : Nat) : Int) < ((a.getD j 0 : Nat) : Int) := by omega
        have hv := vd_lt_at hb (show j < b.length by omega) (show j < a.length by omega) hp.symm h2
        have hcm : cmpN (vd a) (vd b) = 1 := by unfold cmpN; rw [if_neg (by omega), if_pos hv]
        refine .inl ?_
        simp only [loopR_succ, ht]
        simp only [a0, a1, a5, hc', hc0, hw, hj0, loopR_succ, loopOf, findLoop, firstRegion, Option.some_or, Option.none_or, Option.getD_some, Option.some.injEq, Tryd.f85, FT, Int.reduceEq, Int.reduceToNat, Int.reduceLE, Int.reduceLT, Int.reduceAdd, Int.reduceMul, Int.reduceSub, Int.reduceNeg, Nat.reduceAdd, Nat.reduceSub, Nat.reduceMul, Nat.reduceLT, Nat.reduceBEq, Nat.reduceEqDiff, Nat.reduceLeDiff]
        rw [evalCode_drawn Tryd.f85 9 dr85_9]; rotate_left; rfl
        simp only [a0, a1, a5, hc', hc0, hw, hj0, hj1, hj2, hx, hy, h1', EVd, List.getElem?_nil, Nat.reducePow, Nat.reduceDiv, Nat.reduceMod, FT, Int.reduceEq, Int.reduceToNat, Int.reduceLE, Int.reduceLT, Int.reduceAdd, Int.reduceMul, Int.reduceSub, Int.reduceNeg, Nat.reduceAdd, Nat.reduceSub, Nat.reduceMul, Nat.reduceLT, Nat.reduceBEq, Nat.reduceEqDiff, Nat.reduceLeDiff]
        rw [evalCode_drawn Tryd.f85 11 dr85_11]; rotate_left; rfl
        simp only [a0, a1, a5, hc', hc0, hw, hj0, hj1, hj2, hx, hy, h2', EVd, List.getElem?_nil, Nat.reducePow, Nat.reduceDiv, Nat.reduceMod, FT, Int.reduceEq, Int.reduceToNat, Int.reduceLE, Int.reduceLT, Int.reduceAdd, Int.reduceMul, Int.reduceSub, Int.reduceNeg, Nat.reduceAdd, Nat.reduceSub, Nat.reduceMul, Nat.reduceLT, Nat.reduceBEq, Nat.reduceEqDiff, Nat.reduceLeDiff]
        rw [hcm]
        exact ⟨_, .inr ⟨rfl, (by rfl)⟩⟩
      · have h2' : ¬ ((b.getD j 0 : Nat) : Int) < ((a.getD j 0 : Nat) : Int) := by omega
        have hp2 : a.drop j = b.drop j := by
          rw [List.drop_eq_getElem_cons (show j < a.length by omega), List.drop_eq_getElem_cons (show j < b.length by omega), hp]
          have e5 : a.getD j 0 = a[j] := by rw [List.getD_eq_getElem?_getD, List.getElem?_eq_getElem (show j < a.length by omega)]; rfl
          have e6 : b.getD j 0 = b[j] := by rw [List.getD_eq_getElem?_getD, List.getElem?_eq_getElem (show j < b.length by omega)]; rfl
          congr 1
          omega
        simp only [loopR_succ, ht]
        simp only [a0, a1, a5, hc', hc0, hw, hj0, loopR_succ, loopOf, findLoop, firstRegion, Option.some_or, Option.none_or, Option.getD_some, Option.some.injEq, Tryd.f85, FT, Int.reduceEq, Int.reduceToNat, Int.reduceLE, Int.reduceLT, Int.reduceAdd, Int.reduceMul, Int.reduceSub, Int.reduceNeg, Nat.reduceAdd, Nat.reduceSub, Nat.reduceMul, Nat.reduceLT, Nat.reduceBEq, Nat.reduceEqDiff, Nat.reduceLeDiff]
        rw [evalCode_drawn Tryd.f85 9 dr85_9]; rotate_left; rfl
        simp only [a0, a1, a5, hc', hc0, hw, hj0, hj1, hj2, hx, hy, h1', EVd, List.getElem?_nil, Nat.reducePow, Nat.reduceDiv, Nat.reduceMod, FT, Int.reduceEq, Int.reduceToNat, Int.reduceLE, Int.reduceLT, Int.reduceAdd, Int.reduceMul, Int.reduceSub, Int.reduceNeg, Nat.reduceAdd, Nat.reduceSub, Nat.reduceMul, Nat.reduceLT, Nat.reduceBEq, Nat.reduceEqDiff, Nat.reduceLeDiff]
        rw [evalCode_drawn Tryd.f85 11 dr85_11]; rotate_left; rfl
        simp only [a0, a1, a5, hc', hc0, hw, hj0, hj1, hj2, hx, hy, h2', hw2, EVd, List.getElem?_nil, Nat.reducePow, Nat.reduceDiv, Nat.reduceMod, FT, Int.reduceEq, Int.reduceToNat, Int.reduceLE, Int.reduceLT, Int.reduceAdd, Int.reduceMul, Int.reduceSub, Int.reduceNeg, Nat.reduceAdd, Nat.reduceSub, Nat.reduceMul, Nat.reduceLT, Nat.reduceBEq, Nat.reduceEqDiff, Nat.reduceLeDiff]
        exact .inr ⟨_, _, hc, rfl, (by rfl), (by rfl), (by rfl), hp2, ⟨_, by rfl⟩⟩
  · refine .inl ?_
    obtain rfl : i = a.length := by omega
    have hc' : ¬ (((a.length : Nat) : Int) < ((a.length : Nat) : Int)) := by omega
    have hlt : ¬ ((0 : Int) ≤ (a.length : Int) - 1 - a.length) := by omega
    rw [Nat.sub_self, List.drop_zero, List.drop_zero] at hp
    simp only [loopR_succ, ht]
    simp only [a0, a1, a5, hlt, loopR_succ, loopOf, findLoop, firstRegion, Option.some_or, Option.none_or, Option.getD_some, Option.some.injEq, Tryd.f85, FT, Int.reduceEq, Int.reduceToNat, Int.reduceLE, Int.reduceLT, Int.reduceAdd, Int.reduceMul, Int.reduceSub, Int.reduceNeg, Nat.reduceAdd, Nat.reduceSub, Nat.reduceMul, Nat.reduceLT, Nat.reduceBEq, Nat.reduceEqDiff, Nat.reduceLeDiff]
    exact ⟨_, .inl ⟨rfl, hp⟩⟩
theorem cmp_can (k : Nat) (a b : List Nat) (nl nl2 : Bool) (cap cap2 : Option Nat) (ha : okD a) (hb : okD b) (hla : a.length ≤ 100000) (hlb : b.length ≤ 100000) (hk : a.length < k ∧ b.length < k) : run (k+2) 85 [sD a nl cap, sD b nl2 cap2] = some (ii (cmpN (vd a) (vd b))) := by
  have h1 := trim_ev k a nl cap (by omega) (by omega)
  have h2 := trim_ev k b nl2 cap2 (by omega) (by omega)
  have hva := vd_trim a
  have hvb := vd_trim b
  have hca := can_trim ha
  have hcb := can_trim hb
  have hta := trim_len a
  have htb := trim_len b
  obtain ⟨A, hA⟩ : ∃ A, A = trimD a := ⟨_, rfl⟩
  obtain ⟨B, hB⟩ : ∃ B, B = trimD b := ⟨_, rfl⟩
  rw [← hA] at h1 hva hca hta
  rw [← hB] at h2 hvb hcb htb
  rw [← hva, ← hvb]
  simp only [run] at h1 h2
  rw [run, ev85, ans_trim]
  by_cases hlt : A.length < B.length
  · have hlt' : (A.length : Int) < B.length := by omega
    have hcm : cmpN (vd A) (vd B) = -1 := if_pos (can_len hca.ok hcb hlt)
    rw [hcm]
    simp only [Tryd.f85, ii, h1, h2, hlt', FT, Int.reduceEq, Int.reduceToNat, Int.reduceLE, Int.reduceLT, Int.reduceAdd, Int.reduceMul, Int.reduceSub, Int.reduceNeg, Nat.reduceAdd, Nat.reduceSub, Nat.reduceMul, Nat.reduceLT, Nat.reduceBEq, Nat.reduceEqDiff, Nat.reduceLeDiff]
  · have hlt' : ¬ (A.length : Int) < B.length := by omega
    by_cases hgt : B.length < A.length
    · have hgt' : (B.length : Int) < A.length := by omega
      have hcm : cmpN (vd A) (vd B) = 1 := by
        have := can_len hcb.ok hca hgt
        unfold cmpN
        rw [if_neg (by omega), if_pos this]
      rw [hcm]
      simp only [Tryd.f85, ii, h1, h2, hlt', hgt', FT, Int.reduceEq, Int.reduceToNat, Int.reduceLE, Int.reduceLT, Int.reduceAdd, Int.reduceMul, Int.reduceSub, Int.reduceNeg, Nat.reduceAdd, Nat.reduceSub, Nat.reduceMul, Nat.reduceLT, Nat.reduceBEq, Nat.reduceEqDiff, Nat.reduceLeDiff]
    · have hgt' : ¬ (B.length : Int) < A.length := by omega
      have hw1 : IntKind.wrap .i64 ((A.length : Int) - 1) = (A.length : Int) - 1 := by rw [wrap64 (by omega) (by omega)]
      simp only [Tryd.f85, ii, h1, h2, hlt', hgt', hw1, FT, Int.reduceEq, Int.reduceToNat, Int.reduceLE, Int.reduceLT, Int.reduceAdd, Int.reduceMul, Int.reduceSub, Int.reduceNeg, Nat.reduceAdd, Nat.reduceSub, Nat.reduceMul, Nat.reduceLT, Nat.reduceBEq, Nat.reduceEqDiff, Nat.reduceLeDiff]
      rw [evalCode_loopB LB85_7 lp85_7]; rotate_left; rfl; rfl; rfl
      generalize hz : loopR _ _ _ _ _ _ _ _ _ _ _ _ = z
      obtain ⟨l', ⟨rfl, he⟩ | ⟨rfl, he⟩⟩ := loop_cmp (k + 1) A B nl nl2 (some A.length) (some B.length) hca.ok hcb.ok (by omega) (by omega) _ _ z hz (by omega) (by rfl) (by rfl) (by rw [show (A.length : Int) - 1 - 0 = (A.length : Int) - 1 by omega]; rfl)
      · clear hz
        have hcm : cmpN (vd A) (vd B) = 0 := by
          rw [he]
          unfold cmpN
          rw [if_neg (by omega), if_neg (by omega)]
        rw [hcm]
        simp only [FT, Int.reduceEq, Int.reduceToNat, Int.reduceLE, Int.reduceLT, Int.reduceAdd, Int.reduceMul, Int.reduceSub, Int.reduceNeg, Nat.reduceAdd, Nat.reduceSub, Nat.reduceMul, Nat.reduceLT, Nat.reduceBEq, Nat.reduceEqDiff, Nat.reduceLeDiff]
      · clear hz
        simp only [he, FT, Int.reduceEq, Int.reduceToNat, Int.reduceLE, Int.reduceLT, Int.reduceAdd, Int.reduceMul, Int.reduceSub, Int.reduceNeg, Nat.reduceAdd, Nat.reduceSub, Nat.reduceMul, Nat.reduceLT, Nat.reduceBEq, Nat.reduceEqDiff, Nat.reduceLeDiff]
end Go.Proofs.Sw.W
