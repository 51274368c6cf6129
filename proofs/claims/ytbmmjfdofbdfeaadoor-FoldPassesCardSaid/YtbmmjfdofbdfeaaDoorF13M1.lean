/- A part of the proof: what functions of the program answer, of whatever arguments, reckoned with letters by the interpreter's equations. Its conditions stand in each theorem. -/
import Derived.Test.YtbmmjfdofbdfeaaDoorF13Facts
import Derived.Test.YtbmmjfdofbdfeaaDoorF13Tab

namespace Go.Proofs.F13
set_option linter.unusedVariables false
set_option linter.unusedSimpArgs false
set_option linter.unusedSectionVars false
open Go.Ab
variable [Globals]
structure Ins where
  op : Int
  to : Int
  a : Int
  b : Int
  c : Int
  deriving DecidableEq
abbrev ii (n : Int) : AV := .c (.int .i64 n)
abbrev bb (n : Bool) : AV := .c (.bool n)
abbrev aI (o t a b c : Int) : AV := .agg [ii o, ii t, ii a, ii b, ii c]
abbrev encI (i : Ins) : AV := .agg [ii i.op, ii i.to, ii i.a, ii i.b, ii i.c]
noncomputable abbrev run (k f : Nat) (args : List AV) : Option AV := ans (evalT Tryd.prog (mkHints tab) k (.fn f) args [])
def two (op : Int) : Bool := decide (op = 3) || decide (op = 4)
theorem two_ev (k : Nat) (op : Int) : run (k+1) 51 [ii op] = some (bb (two op)) := by
  rw [run, evalT_fn 9 Tryd.func51 rfl (by decide) rfl]
  simp only [Tryd.f51, EVb, condO_ite, Int.reduceEq, Int.reduceToNat, Int.reduceLE, Int.reduceLT, Int.reduceAdd, Int.reduceMul, Int.reduceSub, Int.reduceNeg, Nat.reduceAdd, Nat.reduceSub, Nat.reduceMul, Nat.reduceLT, Nat.reduceBEq, Nat.reduceEqDiff, Nat.reduceLeDiff]
  unfold two
  split <;> simp_all only [EVb, condO_ite, Int.reduceEq, Int.reduceToNat, Int.reduceLE, Int.reduceLT, Int.reduceAdd, Int.reduceMul, Int.reduceSub, Int.reduceNeg, Nat.reduceAdd, Nat.reduceSub, Nat.reduceMul, Nat.reduceLT, Nat.reduceBEq, Nat.reduceEqDiff, Nat.reduceLeDiff] <;> simp
def constant (i : Ins) : Bool :=
  if i.op = 5 ∨ i.op = 6 then decide (i.c ≠ 0 ∧ -512 ≤ i.c ∧ i.c ≤ 512)
  else if i.op = 7 ∨ i.op = 8 then decide (1 ≤ i.c ∧ i.c ≤ 64)
  else decide (i.c = 0)
theorem constant_ev (k : Nat) (o t a b c : Int) : run (k+1) 52 [aI o t a b c] = some (bb (constant ⟨o, t, a, b, c⟩)) := by
  rw [run, evalT_fn 35 Tryd.func52 rfl (by decide) rfl]
  simp only [Tryd.f52, aI, ii, EVb, condO_ite, Int.reduceEq, Int.reduceToNat, Int.reduceLE, Int.reduceLT, Int.reduceAdd, Int.reduceMul, Int.reduceSub, Int.reduceNeg, Nat.reduceAdd, Nat.reduceSub, Nat.reduceMul, Nat.reduceLT, Nat.reduceBEq, Nat.reduceEqDiff, Nat.reduceLeDiff, FACTS, TYPES]
  repeat' (split <;> simp only [*, EVb, condO_ite, Int.reduceEq, Int.reduceToNat, Int.reduceLE, Int.reduceLT, Int.reduceAdd, Int.reduceMul, Int.reduceSub, Int.reduceNeg, Nat.reduceAdd, Nat.reduceSub, Nat.reduceMul, Nat.reduceLT, Nat.reduceBEq, Nat.reduceEqDiff, Nat.reduceLeDiff, FACTS])
  all_goals simp [constant, *]
def asksV (i : Ins) : AV :=
  if i.op = 3 ∨ i.op = 4 then .c (.slice [.int .i64 i.a, .int .i64 i.b] 2 false none)
  else if 1 ≤ i.op ∧ i.op ≤ 8 then .c (.slice [.int .i64 i.a] 1 false none)
  else .c (.slice [] 0 true (some 0))
theorem asks_ev (k : Nat) (o t a b c : Int) : run (k+1) 53 [aI o t a b c] = some (asksV ⟨o, t, a, b, c⟩) := by
  rw [run, evalT_fn 23 Tryd.func53 rfl (by decide) rfl]
  simp only [Tryd.f53, aI, ii, EVb, condO_ite, Int.reduceEq, Int.reduceToNat, Int.reduceLE, Int.reduceLT, Int.reduceAdd, Int.reduceMul, Int.reduceSub, Int.reduceNeg, Nat.reduceAdd, Nat.reduceSub, Nat.reduceMul, Nat.reduceLT, Nat.reduceBEq, Nat.reduceEqDiff, Nat.reduceLeDiff, FACTS, TYPES]
  repeat' (split <;> simp only [*, EVb, condO_ite, Int.reduceEq, Int.reduceToNat, Int.reduceLE, Int.reduceLT, Int.reduceAdd, Int.reduceMul, Int.reduceSub, Int.reduceNeg, Nat.reduceAdd, Nat.reduceSub, Nat.reduceMul, Nat.reduceLT, Nat.reduceBEq, Nat.reduceEqDiff, Nat.reduceLeDiff, FACTS])
  all_goals simp [asksV, *]
  all_goals (intros; omega)
def mayM (i : Ins) (regs : Int) : Bool :=
  decide (1 ≤ i.op ∧ i.op ≤ 8 ∧ 0 ≤ i.to ∧ i.to < regs ∧ (i.op = 3 ∨ i.op = 4 ∨ i.b = 0)) && constant i && decide (0 ≤ i.a ∧ i.a < regs) && decide ((i.op = 3 ∨ i.op = 4) → 0 ≤ i.b ∧ i.b < regs)
theorem may_ev (k : Nat) (o t a b c regs : Int) : run (k+4) 39 [aI o t a b c, ii regs] = some (bb (mayM ⟨o, t, a, b, c⟩ regs)) := by
  rw [run, evalT_fn 57 Tryd.func39 rfl (by decide) rfl]
  simp only [Tryd.f39, aI, ii, bb, EVb, condO_ite, Int.reduceEq, Int.reduceToNat, Int.reduceLE, Int.reduceLT, Int.reduceAdd, Int.reduceMul, Int.reduceSub, Int.reduceNeg, Nat.reduceAdd, Nat.reduceSub, Nat.reduceMul, Nat.reduceLT, Nat.reduceBEq, Nat.reduceEqDiff, Nat.reduceLeDiff, FACTS, TYPES, two_ev, constant_ev, asks_ev]
  repeat' (split <;> simp only [*, EVb, condO_ite, Int.reduceEq, Int.reduceToNat, Int.reduceLE, Int.reduceLT, Int.reduceAdd, Int.reduceMul, Int.reduceSub, Int.reduceNeg, Nat.reduceAdd, Nat.reduceSub, Nat.reduceMul, Nat.reduceLT, Nat.reduceBEq, Nat.reduceEqDiff, Nat.reduceLeDiff, FACTS, two_ev, constant_ev, asks_ev])
  all_goals first
    | (simp [mayM, two, *] at *; omega)
    | (simp [mayM, two, *] at *; done)
    | skip
  · rw [show asksV ⟨o, t, a, b, c⟩ = .c (.slice [.int .i64 a, .int .i64 b] 2 false none) by simp [two] at *; simp [asksV, *]]
    simp only [EVb, condO_ite, Int.reduceEq, Int.reduceToNat, Int.reduceLE, Int.reduceLT, Int.reduceAdd, Int.reduceMul, Int.reduceSub, Int.reduceNeg, Nat.reduceAdd, Nat.reduceSub, Nat.reduceMul, Nat.reduceLT, Nat.reduceBEq, Nat.reduceEqDiff, Nat.reduceLeDiff, FACTS]
    rw [evalCode_loopOf Tryd.f39 4 lp39_4]; rotate_left; rfl; rfl
    simp only [loopL_succ, loopOf, findLoop, firstRegion, Option.some_or, Option.none_or, Option.getD_some, Option.some.injEq, Tryd.f39, EVb, condO_ite, Int.reduceEq, Int.reduceToNat, Int.reduceLE, Int.reduceLT, Int.reduceAdd, Int.reduceMul, Int.reduceSub, Int.reduceNeg, Nat.reduceAdd, Nat.reduceSub, Nat.reduceMul, Nat.reduceLT, Nat.reduceBEq, Nat.reduceEqDiff, Nat.reduceLeDiff, FACTS]
    repeat' (split <;> simp only [*, loopL_succ, EVb, condO_ite, Int.reduceEq, Int.reduceToNat, Int.reduceLE, Int.reduceLT, Int.reduceAdd, Int.reduceMul, Int.reduceSub, Int.reduceNeg, Nat.reduceAdd, Nat.reduceSub, Nat.reduceMul, Nat.reduceLT, Nat.reduceBEq, Nat.reduceEqDiff, Nat.reduceLeDiff, FACTS])
    all_goals (simp [mayM, two, *] at *; try omega)
  · rw [show asksV ⟨o, t, a, 0, c⟩ = .c (.slice [.int .i64 a] 1 false none) by simp [two] at *; simp [asksV, *]]
    simp only [EVb, condO_ite, Int.reduceEq, Int.reduceToNat, Int.reduceLE, Int.reduceLT, Int.reduceAdd, Int.reduceMul, Int.reduceSub, Int.reduceNeg, Nat.reduceAdd, Nat.reduceSub, Nat.reduceMul, Nat.reduceLT, Nat.reduceBEq, Nat.reduceEqDiff, Nat.reduceLeDiff, FACTS]
    rw [evalCode_loopOf Tryd.f39 4 lp39_4]; rotate_left; rfl; rfl
    simp only [loopL_succ, loopOf, findLoop, firstRegion, Option.some_or, Option.none_or, Option.getD_some, Option.some.injEq, Tryd.f39, EVb, condO_ite, Int.reduceEq, Int.reduceToNat, Int.reduceLE, Int.reduceLT, Int.reduceAdd, Int.reduceMul, Int.reduceSub, Int.reduceNeg, Nat.reduceAdd, Nat.reduceSub, Nat.reduceMul, Nat.reduceLT, Nat.reduceBEq, Nat.reduceEqDiff, Nat.reduceLeDiff, FACTS]
    repeat' (split <;> simp only [*, loopL_succ, EVb, condO_ite, Int.reduceEq, Int.reduceToNat, Int.reduceLE, Int.reduceLT, Int.reduceAdd, Int.reduceMul, Int.reduceSub, Int.reduceNeg, Nat.reduceAdd, Nat.reduceSub, Nat.reduceMul, Nat.reduceLT, Nat.reduceBEq, Nat.reduceEqDiff, Nat.reduceLeDiff, FACTS])
    all_goals (simp [mayM, two, *] at *; try omega)
end Go.Proofs.F13
namespace Go.Proofs.F13
set_option linter.unusedVariables false
set_option linter.unusedSimpArgs false
set_option linter.unusedSectionVars false
open Go.Ab
variable [Globals]
def encInts (l : List Int) : List IV := l.map (.int .i64)
def enc1 (i : Ins) : List IV := [.int .i64 i.op, .int .i64 i.to, .int .i64 i.a, .int .i64 i.b, .int .i64 i.c]
def encCode : List Ins → List IV
  | [] => []
  | i :: l => enc1 i ++ encCode l
theorem encInts_length (l : List Int) : (encInts l).length = l.length := by simp [encInts]
theorem encCode_length : ∀ (l : List Ins), (encCode l).length = l.length * 5
  | [] => rfl
  | i :: l => by rw [encCode, List.length_append, encCode_length l]; simp [enc1]; omega
theorem encCode_append : ∀ (l m : List Ins), encCode (l ++ m) = encCode l ++ encCode m
  | [], m => rfl
  | i :: l, m => by rw [List.cons_append, encCode, encCode, encCode_append l m, List.append_assoc]
theorem encInts_at (pre rest : List Int) (r : Int) : (encInts (pre ++ r :: rest))[((pre.length : Int).toNat * 1)]? = some (.int .i64 r) := by
  simp [encInts]
theorem encCode_at (pre rest : List Ins) (i : Ins) : takeCells (encCode (pre ++ i :: rest)) ((pre.length : Int).toNat * 5) 5 = some (enc1 i) := by
  have h := encCode_length pre
  rw [takeCells_eq, if_pos (by rw [encCode_length]; simp; omega), encCode_append, encCode, Int.toNat_natCast, ← h, List.drop_left]
  simp [enc1]
abbrev H25 (ins regs : Int) (cv ov : IV) : Heap := [.cells 25 [ii ins, ii regs, .c cv, .c ov]]
theorem loop23_4 (kf : Nat) (b : Code) (hb : loopOf Tryd.f23 4 = b) (ins regs : Int) (cv : IV) (nl : Bool) (cap : Option Nat) (outs : List Int) (hlen : outs.length < 2 ^ 62) :
    ∀ (rest pre : List Int) (k : Nat) (l : Ass), outs = pre ++ rest → rest.length < k → asc l 1 = .ptr 0 0 → asc l 42 = .c (.slice (encInts outs) outs.length nl cap) → asc l 43 = ii outs.length → asc l 44 = ii pre.length →
    ∃ l', loopL Tryd.prog tab kf 23 b 72 [1, 42, 43, 44] 1 k l (H25 ins regs cv (.slice (encInts outs) outs.length nl cap)) =
      some (if rest.all (fun r => decide (0 ≤ r ∧ r < regs)) = true then .exit 0 (fr 72 l') (H25 ins regs cv (.slice (encInts outs) outs.length nl cap)) else .ret (fr 72 l') (H25 ins regs cv (.slice (encInts outs) outs.length nl cap))) ∧
      asc l' 1 = .ptr 0 0 ∧ (rest.all (fun r => decide (0 ≤ r ∧ r < regs)) = false → asc l' 2 = ii (-1) ∧ asc l' 3 = ii 80) := by
  intro rest
  have hev : ∀ F H, evalCode Tryd.prog (cxF Tryd.prog (mkHints tab) kf 23) b F H = evalCode Tryd.prog (cxF Tryd.prog (mkHints tab) kf 23) (loopOf Tryd.f23 4) F H := fun _ _ => by rw [hb]
  induction rest with
  | nil =>
    intro pre k l he hk h1 h42 h43 h44
    obtain ⟨k, rfl⟩ : ∃ j, k = j + 1 := ⟨k - 1, by simp at hk; omega⟩
    have hc : ¬ ((pre.length : Int) < outs.length) := by rw [he]; simp
    simp only [loopL_succ, hev]
    simp only [h1, h42, h43, h44, hc, loopL_succ, loopOf, findLoop, firstRegion, Option.some_or, Option.none_or, Option.getD_some, Option.some.injEq, Tryd.f23, EVb, condO_ite, Int.reduceEq, Int.reduceToNat, Int.reduceLE, Int.reduceLT, Int.reduceAdd, Int.reduceMul, Int.reduceSub, Int.reduceNeg, Nat.reduceAdd, Nat.reduceSub, Nat.reduceMul, Nat.reduceLT, Nat.reduceBEq, Nat.reduceEqDiff, Nat.reduceLeDiff, FACTS]
    refine ⟨_, rfl, ?_⟩
    simp only [EVb, condO_ite, Int.reduceEq, Int.reduceToNat, Int.reduceLE, Int.reduceLT, Int.reduceAdd, Int.reduceMul, Int.reduceSub, Int.reduceNeg, Nat.reduceAdd, Nat.reduceSub, Nat.reduceMul, Nat.reduceLT, Nat.reduceBEq, Nat.reduceEqDiff, Nat.reduceLeDiff]
    exact fun h => h.elim
  | cons r rest ih =>
    intro pre k l he hk h1 h42 h43 h44
    obtain ⟨k, rfl⟩ : ∃ j, k = j + 1 := ⟨k - 1, by simp at hk; omega⟩
    have hc : ((pre.length : Int) < outs.length) := by rw [he]; simp; omega
    have hc0 : (0 : Int) ≤ pre.length := by omega
    have hx := encInts_at pre rest r
    rw [← he] at hx
    have hw : IntKind.wrap .i64 ((pre.length : Int) + 1) = ((pre ++ [r]).length : Int) := by rw [wrap64 (by omega) (by omega)]; simp
    simp only [loopL_succ, hev]
    simp only [h1, h42, h43, h44, hc, hc0, hx, loopL_succ, loopOf, findLoop, firstRegion, Option.some_or, Option.none_or, Option.getD_some, Option.some.injEq, Tryd.f23, EVb, condO_ite, Int.reduceEq, Int.reduceToNat, Int.reduceLE, Int.reduceLT, Int.reduceAdd, Int.reduceMul, Int.reduceSub, Int.reduceNeg, Nat.reduceAdd, Nat.reduceSub, Nat.reduceMul, Nat.reduceLT, Nat.reduceBEq, Nat.reduceEqDiff, Nat.reduceLeDiff, FACTS]
    by_cases hr : r < 0
    · have hd : decide (0 ≤ r ∧ r < regs) = false := by simp; omega
      simp only [hr, hd, EVb, condO_ite, Int.reduceEq, Int.reduceToNat, Int.reduceLE, Int.reduceLT, Int.reduceAdd, Int.reduceMul, Int.reduceSub, Int.reduceNeg, Nat.reduceAdd, Nat.reduceSub, Nat.reduceMul, Nat.reduceLT, Nat.reduceBEq, Nat.reduceEqDiff, Nat.reduceLeDiff, FACTS]
      refine ⟨_, rfl, ?_⟩
      simp only [EVb, condO_ite, Int.reduceEq, Int.reduceToNat, Int.reduceLE, Int.reduceLT, Int.reduceAdd, Int.reduceMul, Int.reduceSub, Int.reduceNeg, Nat.reduceAdd, Nat.reduceSub, Nat.reduceMul, Nat.reduceLT, Nat.reduceBEq, Nat.reduceEqDiff, Nat.reduceLeDiff]
      exact fun _ => trivial
    · by_cases hr2 : regs ≤ r
      · have hd : decide (0 ≤ r ∧ r < regs) = false := by simp; omega
        simp only [hr, hr2, hd, EVb, condO_ite, Int.reduceEq, Int.reduceToNat, Int.reduceLE, Int.reduceLT, Int.reduceAdd, Int.reduceMul, Int.reduceSub, Int.reduceNeg, Nat.reduceAdd, Nat.reduceSub, Nat.reduceMul, Nat.reduceLT, Nat.reduceBEq, Nat.reduceEqDiff, Nat.reduceLeDiff, FACTS]
        refine ⟨_, rfl, ?_⟩
        simp only [EVb, condO_ite, Int.reduceEq, Int.reduceToNat, Int.reduceLE, Int.reduceLT, Int.reduceAdd, Int.reduceMul, Int.reduceSub, Int.reduceNeg, Nat.reduceAdd, Nat.reduceSub, Nat.reduceMul, Nat.reduceLT, Nat.reduceBEq, Nat.reduceEqDiff, Nat.reduceLeDiff]
        exact fun _ => trivial
      · have hd : decide (0 ≤ r ∧ r < regs) = true := by simp; omega
        simp only [hr, hr2, hd, hw, EVb, condO_ite, Int.reduceEq, Int.reduceToNat, Int.reduceLE, Int.reduceLT, Int.reduceAdd, Int.reduceMul, Int.reduceSub, Int.reduceNeg, Nat.reduceAdd, Nat.reduceSub, Nat.reduceMul, Nat.reduceLT, Nat.reduceBEq, Nat.reduceEqDiff, Nat.reduceLeDiff, FACTS]
        exact ih (pre ++ [r]) k _ (by rw [he]; simp) (by simp at hk; omega) rfl rfl rfl rfl

theorem loop23_10 (kf : Nat) (hkf : 4 ≤ kf) (b : Code) (hb : loopOf Tryd.f23 10 = b) (ins regs : Int) (ov : IV) (nl : Bool) (cap : Option Nat) (code : List Ins) (hlen : code.length < 2 ^ 62) :
    ∀ (rest pre : List Ins) (k : Nat) (l : Ass) (H : Heap), code = pre ++ rest → rest.length < k → asc l 1 = .ptr 0 0 → asc l 58 = .c (.slice (encCode code) code.length nl cap) → asc l 59 = ii code.length → asc l 60 = ii pre.length →
    H.take 1 = H25 ins regs (.slice (encCode code) code.length nl cap) ov →
    ∃ l' H', loopL Tryd.prog tab kf 23 b 72 [1, 58, 59, 60] 1 k l H = some (if rest.all (fun i => mayM i regs) = true then .exit 2 (fr 72 l') H' else .ret (fr 72 l') H') ∧
      (rest.all (fun i => mayM i regs) = false → asc l' 2 = ii ((pre.length : Int) + (rest.takeWhile fun i => mayM i regs).length) ∧ asc l' 3 = ii 80) := by
  intro rest
  have hev : ∀ F H, evalCode Tryd.prog (cxF Tryd.prog (mkHints tab) kf 23) b F H = evalCode Tryd.prog (cxF Tryd.prog (mkHints tab) kf 23) (loopOf Tryd.f23 10) F H := fun _ _ => by rw [hb]
  obtain ⟨kf, rfl⟩ : ∃ j, kf = j + 4 := ⟨kf - 4, by omega⟩
  induction rest with
  | nil =>
    intro pre k l H he hk h1 h58 h59 h60 hH
    obtain ⟨k, rfl⟩ : ∃ j, k = j + 1 := ⟨k - 1, by simp at hk; omega⟩
    have hc : ¬ ((pre.length : Int) < code.length) := by rw [he]; simp
    have ht : trim 1 (fr 72 (keep l [1, 58, 59, 60])) H = H25 ins regs (.slice (encCode code) code.length nl cap) ov := by
      rw [trim_fr (by simp only [h1, h58, h59, h60, EVb, condO_ite, Int.reduceEq, Int.reduceToNat, Int.reduceLE, Int.reduceLT, Int.reduceAdd, Int.reduceMul, Int.reduceSub, Int.reduceNeg, Nat.reduceAdd, Nat.reduceSub, Nat.reduceMul, Nat.reduceLT, Nat.reduceBEq, Nat.reduceEqDiff, Nat.reduceLeDiff]) (by rw [hH]; simp only [EVb, condO_ite, Int.reduceEq, Int.reduceToNat, Int.reduceLE, Int.reduceLT, Int.reduceAdd, Int.reduceMul, Int.reduceSub, Int.reduceNeg, Nat.reduceAdd, Nat.reduceSub, Nat.reduceMul, Nat.reduceLT, Nat.reduceBEq, Nat.reduceEqDiff, Nat.reduceLeDiff]), hH]
    simp only [loopL_succ, hev, ht]
    simp only [h1, h58, h59, h60, hc, loopL_succ, loopOf, findLoop, firstRegion, Option.some_or, Option.none_or, Option.getD_some, Option.some.injEq, Tryd.f23, EVb, condO_ite, Int.reduceEq, Int.reduceToNat, Int.reduceLE, Int.reduceLT, Int.reduceAdd, Int.reduceMul, Int.reduceSub, Int.reduceNeg, Nat.reduceAdd, Nat.reduceSub, Nat.reduceMul, Nat.reduceLT, Nat.reduceBEq, Nat.reduceEqDiff, Nat.reduceLeDiff, FACTS]
    refine ⟨_, _, rfl, ?_⟩
    simp
  | cons r rest ih =>
    intro pre k l H he hk h1 h58 h59 h60 hH
    obtain ⟨k, rfl⟩ : ∃ j, k = j + 1 := ⟨k - 1, by simp at hk; omega⟩
    have hc : ((pre.length : Int) < code.length) := by rw [he]; simp; omega
    have hc0 : (0 : Int) ≤ pre.length := by omega
    have hx := encCode_at pre rest r
    rw [← he] at hx
    have hw : IntKind.wrap .i64 ((pre.length : Int) + 1) = ((pre ++ [r]).length : Int) := by rw [wrap64 (by omega) (by omega)]; simp
    have ht : trim 1 (fr 72 (keep l [1, 58, 59, 60])) H = H25 ins regs (.slice (encCode code) code.length nl cap) ov := by
      rw [trim_fr (by simp only [h1, h58, h59, h60, EVb, condO_ite, Int.reduceEq, Int.reduceToNat, Int.reduceLE, Int.reduceLT, Int.reduceAdd, Int.reduceMul, Int.reduceSub, Int.reduceNeg, Nat.reduceAdd, Nat.reduceSub, Nat.reduceMul, Nat.reduceLT, Nat.reduceBEq, Nat.reduceEqDiff, Nat.reduceLeDiff]) (by rw [hH]; simp only [EVb, condO_ite, Int.reduceEq, Int.reduceToNat, Int.reduceLE, Int.reduceLT, Int.reduceAdd, Int.reduceMul, Int.reduceSub, Int.reduceNeg, Nat.reduceAdd, Nat.reduceSub, Nat.reduceMul, Nat.reduceLT, Nat.reduceBEq, Nat.reduceEqDiff, Nat.reduceLeDiff]), hH]
    simp only [loopL_succ, hev, ht]
    simp only [h1, h58, h59, h60, hc, hc0, hx, enc1, may_ev, loopL_succ, loopOf, findLoop, firstRegion, Option.some_or, Option.none_or, Option.getD_some, Option.some.injEq, Tryd.f23, EVb, condO_ite, Int.reduceEq, Int.reduceToNat, Int.reduceLE, Int.reduceLT, Int.reduceAdd, Int.reduceMul, Int.reduceSub, Int.reduceNeg, Nat.reduceAdd, Nat.reduceSub, Nat.reduceMul, Nat.reduceLT, Nat.reduceBEq, Nat.reduceEqDiff, Nat.reduceLeDiff, FACTS, TYPES]
    obtain ⟨o, t, a, b', c⟩ := r
    by_cases hm : mayM ⟨o, t, a, b', c⟩ regs = true
    · simp only [hm, hw, EVb, condO_ite, Int.reduceEq, Int.reduceToNat, Int.reduceLE, Int.reduceLT, Int.reduceAdd, Int.reduceMul, Int.reduceSub, Int.reduceNeg, Nat.reduceAdd, Nat.reduceSub, Nat.reduceMul, Nat.reduceLT, Nat.reduceBEq, Nat.reduceEqDiff, Nat.reduceLeDiff, FACTS]
      refine Exists.imp (fun l' => Exists.imp fun H' x => ⟨x.1, fun hh => ?_⟩) (ih (pre ++ [⟨o, t, a, b', c⟩]) k _ _ (by rw [he]; simp) (by simp at hk; omega) (by rfl) (by rfl) (by rfl) (by rfl) (by rfl))
      obtain ⟨h2, h3⟩ := x.2 (by simpa [hm] using hh)
      refine ⟨?_, h3⟩
      rw [h2]
      simp [hm]
      omega
    · have hm' : mayM ⟨o, t, a, b', c⟩ regs = false := by simpa using hm
      simp only [hm', EVb, condO_ite, Int.reduceEq, Int.reduceToNat, Int.reduceLE, Int.reduceLT, Int.reduceAdd, Int.reduceMul, Int.reduceSub, Int.reduceNeg, Nat.reduceAdd, Nat.reduceSub, Nat.reduceMul, Nat.reduceLT, Nat.reduceBEq, Nat.reduceEqDiff, Nat.reduceLeDiff, FACTS]
      refine ⟨_, _, rfl, ?_⟩
      simp [hm', asc]

theorem loop23_4' {kf : Nat} {ins regs : Int} {cv : IV} {nl : Bool} {cap : Option Nat} {outs : List Int} {k : Nat} {l : Ass} {z : Option Out}
    (hz : loopL Tryd.prog tab kf 23 (loopOf Tryd.f23 4) 72 [1, 42, 43, 44] 1 k l (H25 ins regs cv (.slice (encInts outs) outs.length nl cap)) = z) (hlen : outs.length < 2 ^ 62) (hk : outs.length < k)
    (h1 : asc l 1 = .ptr 0 0) (h42 : asc l 42 = .c (.slice (encInts outs) outs.length nl cap)) (h43 : asc l 43 = ii outs.length) (h44 : asc l 44 = ii 0) :
    ∃ l', z = some (if outs.all (fun r => decide (0 ≤ r ∧ r < regs)) = true then .exit 0 (fr 72 l') (H25 ins regs cv (.slice (encInts outs) outs.length nl cap)) else .ret (fr 72 l') (H25 ins regs cv (.slice (encInts outs) outs.length nl cap))) ∧
      asc l' 1 = .ptr 0 0 ∧ (outs.all (fun r => decide (0 ≤ r ∧ r < regs)) = false → asc l' 2 = ii (-1) ∧ asc l' 3 = ii 80) := by
  subst hz
  exact loop23_4 kf _ rfl ins regs cv nl cap outs hlen outs [] k l rfl hk h1 h42 h43 h44
theorem loop23_10' {kf : Nat} {ins regs : Int} {ov : IV} {nl : Bool} {cap : Option Nat} {code : List Ins} {k : Nat} {l : Ass} {z : Option Out} {H : Heap}
    (hz : loopL Tryd.prog tab kf 23 (loopOf Tryd.f23 10) 72 [1, 58, 59, 60] 1 k l H = z) (hkf : 4 ≤ kf) (hlen : code.length < 2 ^ 62) (hk : code.length < k)
    (h1 : asc l 1 = .ptr 0 0) (h58 : asc l 58 = .c (.slice (encCode code) code.length nl cap)) (h59 : asc l 59 = ii code.length) (h60 : asc l 60 = ii 0) (hH : H.take 1 = H25 ins regs (.slice (encCode code) code.length nl cap) ov) :
    ∃ l' H', z = some (if code.all (fun i => mayM i regs) = true then .exit 2 (fr 72 l') H' else .ret (fr 72 l') H') ∧
      (code.all (fun i => mayM i regs) = false → asc l' 2 = ii ((code.takeWhile fun i => mayM i regs).length) ∧ asc l' 3 = ii 80) := by
  subst hz
  have := loop23_10 kf hkf _ rfl ins regs ov nl cap code hlen code [] k l H rfl hk h1 h58 h59 h60 hH
  simpa using this
end Go.Proofs.F13
namespace Go.Proofs.F13
set_option linter.unusedVariables false
set_option linter.unusedSimpArgs false
set_option linter.unusedSectionVars false
open Go.Ab
variable [Globals]
structure Pg where
  ins : Int
  regs : Int
  code : List Ins
  outs : List Int
  deriving DecidableEq
/-- A program's cells. -/
abbrev aP (p : Pg) (nl : Bool) (cap : Option Nat) (nl2 : Bool) (cap2 : Option Nat) : AV :=
  .agg [ii p.ins, ii p.regs, .c (.slice (encCode p.code) p.code.length nl cap), .c (.slice (encInts p.outs) p.outs.length nl2 cap2)]
def headM (p : Pg) : Bool := decide (1 ≤ p.ins ∧ p.ins ≤ p.regs ∧ p.regs ≤ 128 ∧ p.code.length ≤ 16384 ∧ 1 ≤ p.outs.length ∧ p.outs.length ≤ 128)
def outsM (p : Pg) : Bool := p.outs.all (fun r => decide (0 ≤ r ∧ r < p.regs))
def codeM (p : Pg) : Bool := p.code.all (fun i => mayM i p.regs)
def rightM (p : Pg) : Bool := headM p && outsM p && codeM p
def checkI (p : Pg) : Int := if headM p && outsM p then (if codeM p then 0 else (p.code.takeWhile fun i => mayM i p.regs).length) else -1
def checkE (p : Pg) : Int := if rightM p then 0 else 80
theorem check_ev (k : Nat) (p : Pg) (nl : Bool) (cap : Option Nat) (nl2 : Bool) (cap2 : Option Nat) (hk : p.outs.length + p.code.length + 10 ≤ k) :
    run (k+1) 23 [aP p nl cap nl2 cap2] = some (.tup [ii (checkI p), ii (checkE p)]) := by
  obtain ⟨ins, regs, code, outs⟩ := p
  rw [run, evalT_fn 72 Tryd.func23 rfl (by decide) rfl]
  simp only [Tryd.f23, aP, ii, bb, EVb, condO_ite, Int.reduceEq, Int.reduceToNat, Int.reduceLE, Int.reduceLT, Int.reduceAdd, Int.reduceMul, Int.reduceSub, Int.reduceNeg, Nat.reduceAdd, Nat.reduceSub, Nat.reduceMul, Nat.reduceLT, Nat.reduceBEq, Nat.reduceEqDiff, Nat.reduceLeDiff, FACTS, TYPES]
  repeat' (split <;> simp only [*, EVb, condO_ite, Int.reduceEq, Int.reduceToNat, Int.reduceLE, Int.reduceLT, Int.reduceAdd, Int.reduceMul, Int.reduceSub, Int.reduceNeg, Nat.reduceAdd, Nat.reduceSub, Nat.reduceMul, Nat.reduceLT, Nat.reduceBEq, Nat.reduceEqDiff, Nat.reduceLeDiff, FACTS])
  all_goals first
    | (simp [checkI, checkE, rightM, headM, *] at *; omega)
    | skip
  simp only at hk
  rw [evalCode_loopOf Tryd.f23 4 lp23_4]; rotate_left; rfl; rfl
  simp only [List.length_cons, List.length_nil, Nat.reduceAdd]
  have hm : headM ⟨ins, regs, code, outs⟩ = true := by simp [headM]; omega
  generalize hz : loopL _ _ _ _ _ _ _ _ _ _ _ = z
  obtain ⟨l1, rfl, g1, g2⟩ := loop23_4' hz (by omega) (by omega) (by rfl) (by rfl) (by rfl) (by rfl)
  by_cases ho : outsM ⟨ins, regs, code, outs⟩ = true
  · rw [if_pos (show (outs.all fun r => decide (0 ≤ r ∧ r < regs)) = true from ho)]
    simp only [g1, EVb, condO_ite, Int.reduceEq, Int.reduceToNat, Int.reduceLE, Int.reduceLT, Int.reduceAdd, Int.reduceMul, Int.reduceSub, Int.reduceNeg, Nat.reduceAdd, Nat.reduceSub, Nat.reduceMul, Nat.reduceLT, Nat.reduceBEq, Nat.reduceEqDiff, Nat.reduceLeDiff, FACTS]
    rw [evalCode_loopOf Tryd.f23 10 lp23_10]; rotate_left; rfl; rfl
    simp only [List.length_cons, List.length_nil, Nat.reduceAdd]
    generalize hz2 : loopL _ _ _ _ _ _ _ _ _ _ _ = z2
    obtain ⟨l2, H2, rfl, g3⟩ := loop23_10' (code := code) (ov := .slice (encInts outs) outs.length nl2 cap2) hz2 (by omega) (by omega) (by omega) (by exact g1) (by rfl) (by rfl) (by rfl) (by rfl)
    by_cases hc : codeM ⟨ins, regs, code, outs⟩ = true
    · rw [if_pos (show (code.all fun i => mayM i regs) = true from hc)]
      simp only [EVb, condO_ite, Int.reduceEq, Int.reduceToNat, Int.reduceLE, Int.reduceLT, Int.reduceAdd, Int.reduceMul, Int.reduceSub, Int.reduceNeg, Nat.reduceAdd, Nat.reduceSub, Nat.reduceMul, Nat.reduceLT, Nat.reduceBEq, Nat.reduceEqDiff, Nat.reduceLeDiff, FACTS]
      simp [checkI, checkE, rightM, hm, ho, hc]
    · rw [if_neg (show ¬ (code.all fun i => mayM i regs) = true from hc)]
      obtain ⟨g4, g5⟩ := g3 (by simpa [codeM] using hc)
      simp only [g4, g5, EVb, condO_ite, Int.reduceEq, Int.reduceToNat, Int.reduceLE, Int.reduceLT, Int.reduceAdd, Int.reduceMul, Int.reduceSub, Int.reduceNeg, Nat.reduceAdd, Nat.reduceSub, Nat.reduceMul, Nat.reduceLT, Nat.reduceBEq, Nat.reduceEqDiff, Nat.reduceLeDiff, FACTS]
      simp [checkI, checkE, rightM, hm, ho, hc]
  · rw [if_neg (show ¬ (outs.all fun r => decide (0 ≤ r ∧ r < regs)) = true from ho)]
    obtain ⟨g4, g5⟩ := g2 (by simpa [outsM] using ho)
    simp only [g4, g5, EVb, condO_ite, Int.reduceEq, Int.reduceToNat, Int.reduceLE, Int.reduceLT, Int.reduceAdd, Int.reduceMul, Int.reduceSub, Int.reduceNeg, Nat.reduceAdd, Nat.reduceSub, Nat.reduceMul, Nat.reduceLT, Nat.reduceBEq, Nat.reduceEqDiff, Nat.reduceLeDiff, FACTS]
    simp [checkI, checkE, rightM, hm, ho]
end Go.Proofs.F13
namespace Go.Proofs.F13
set_option linter.unusedVariables false
set_option linter.unusedSimpArgs false
set_option linter.unusedSectionVars false
open Go.Ab
theorem check1_ev (k : Nat) (o t a b c : Int) : run (k+13) 23 [.agg [ii 1, ii 128, .c (.slice [.int .i64 o, .int .i64 t, .int .i64 a, .int .i64 b, .int .i64 c] 1 false none), .c (.slice [.int .i64 0] 1 false none)]] = some (.tup [ii (if mayM ⟨o, t, a, b, c⟩ 128 = true then 0 else 0), ii (if mayM ⟨o, t, a, b, c⟩ 128 = true then 0 else 80)]) := by
  have h := check_ev (k+12) ⟨1, 128, [⟨o, t, a, b, c⟩], [0]⟩ false none false none (by simp)
  refine h.trans ?_
  simp [checkI, checkE, rightM, headM, outsM, codeM]
  by_cases hm : mayM ⟨o, t, a, b, c⟩ 128 = true <;> simp [hm]
theorem may33_ev (k : Nat) (o t a b c : Int) : run (k+14) 33 [aI o t a b c] = some (bb (mayM ⟨o, t, a, b, c⟩ 128)) := by
  rw [run, evalT_fn 15 Tryd.func33 rfl (by decide) rfl]
  simp only [Tryd.f33, aI, ii, bb, check1_ev, EVb, condO_ite, Int.reduceEq, Int.reduceToNat, Int.reduceLE, Int.reduceLT, Int.reduceAdd, Int.reduceMul, Int.reduceSub, Int.reduceNeg, Nat.reduceAdd, Nat.reduceSub, Nat.reduceMul, Nat.reduceLT, Nat.reduceBEq, Nat.reduceEqDiff, Nat.reduceLeDiff, FACTS, TYPES]
  by_cases hm : mayM ⟨o, t, a, b, c⟩ 128 = true <;> simp [hm]
def powM (c : Int) : Int := if c = 2 then 1 else if c = 4 then 2 else if c = 8 then 3 else if c = 16 then 4 else if c = 32 then 5 else if c = 64 then 6 else if c = 128 then 7 else if c = 256 then 8 else if c = 512 then 9 else 0
theorem pow_cases {c : Int} (h : powM c ≠ 0) : c = 2 ∨ c = 4 ∨ c = 8 ∨ c = 16 ∨ c = 32 ∨ c = 64 ∨ c = 128 ∨ c = 256 ∨ c = 512 := by
  unfold powM at h
  repeat' (split at h <;> simp_all)
theorem tz_ev (k : Nat) {c : Int} (h : powM c ≠ 0) : run (k+3) 64 [.c (.int .u64 (IntKind.wrap .u64 c))] = some (ii (powM c)) := by
  rcases pow_cases h with rfl | rfl | rfl | rfl | rfl | rfl | rfl | rfl | rfl <;> kernel_rfl
theorem and_pow : ∀ n : Nat, n < 511 → (IntKind.wrap .i64 (BitVec.ofInt (IntKind.bits .i64) (n + 2 : Int) &&& BitVec.ofInt (IntKind.bits .i64) (IntKind.wrap .i64 ((n + 2 : Int) - 1))).toNat = 0 ↔ powM (n + 2 : Int) ≠ 0) := by decide +kernel
theorem power_ev (k : Nat) (c : Int) (hc : c ≤ 512) : run (k+4) 48 [ii c] = some (.tup [ii (powM c), bb (decide (powM c ≠ 0))]) := by
  rw [run, evalT_fn 16 Tryd.func48 rfl (by decide) rfl]
  by_cases h2 : c < 2
  · have hp : powM c = 0 := by
      by_cases h : powM c ≠ 0
      · rcases pow_cases h with rfl | rfl | rfl | rfl | rfl | rfl | rfl | rfl | rfl <;> omega
      · simpa using h
    simp only [Tryd.f48, ii, bb, h2, hp, EVb, condO_ite, Int.reduceEq, Int.reduceToNat, Int.reduceLE, Int.reduceLT, Int.reduceAdd, Int.reduceMul, Int.reduceSub, Int.reduceNeg, Nat.reduceAdd, Nat.reduceSub, Nat.reduceMul, Nat.reduceLT, Nat.reduceBEq, Nat.reduceEqDiff, Nat.reduceLeDiff, FACTS, TYPES]
  · have ha := and_pow (c - 2).toNat (by omega)
    rw [show (((c - 2).toNat : Int) + 2) = c by omega] at ha
    by_cases hp : powM c ≠ 0
    · have ha' := ha.2 hp
      have ht := tz_ev k hp
      simp only [ii, run] at ht
      simp only [Tryd.f48, ii, bb, h2, ha', ht, EVb, condO_ite, Int.reduceEq, Int.reduceToNat, Int.reduceLE, Int.reduceLT, Int.reduceAdd, Int.reduceMul, Int.reduceSub, Int.reduceNeg, Nat.reduceAdd, Nat.reduceSub, Nat.reduceMul, Nat.reduceLT, Nat.reduceBEq, Nat.reduceEqDiff, Nat.reduceLeDiff, FACTS, TYPES]
      simp [hp]
    · have ha' : ¬ _ := fun h => hp (ha.1 h)
      simp only [Tryd.f48, ii, bb, h2, ha', EVb, condO_ite, Int.reduceEq, Int.reduceToNat, Int.reduceLE, Int.reduceLT, Int.reduceAdd, Int.reduceMul, Int.reduceSub, Int.reduceNeg, Nat.reduceAdd, Nat.reduceSub, Nat.reduceMul, Nat.reduceLT, Nat.reduceBEq, Nat.reduceEqDiff, Nat.reduceLeDiff, FACTS, TYPES]
      simp_all
end Go.Proofs.F13
namespace Go.Proofs.F13
set_option linter.unusedVariables false
set_option linter.unusedSimpArgs false
set_option linter.unusedSectionVars false
open Go.Ab
theorem one_ev (k : Nat) (o t a c : Int) : run (k+1) 49 [ii o, ii t, ii a, ii c] = some (aI o t a 0 c) := by
  rw [run, ev49]
  simp only [Tryd.f49, aI, ii, bb, EVb, condO_ite, Int.reduceEq, Int.reduceToNat, Int.reduceLE, Int.reduceLT, Int.reduceAdd, Int.reduceMul, Int.reduceSub, Int.reduceNeg, Nat.reduceAdd, Nat.reduceSub, Nat.reduceMul, Nat.reduceLT, Nat.reduceBEq, Nat.reduceEqDiff, Nat.reduceLeDiff, FACTS, TYPES]
def plainM (i : Ins) : Ins :=
  if i.op = 3 then (if i.a = i.b then ⟨7, i.to, i.a, 0, 1⟩ else i)
  else if i.op = 5 ∨ i.op = 6 then
    (if i.c = 1 then ⟨1, i.to, i.a, 0, 0⟩ else if i.c = -1 then ⟨2, i.to, i.a, 0, 0⟩
     else if powM i.c ≠ 0 then ⟨if i.op = 5 then 7 else 8, i.to, i.a, 0, powM i.c⟩ else i)
  else i
theorem plain_ev (k : Nat) (o t a b c : Int) (hc : c ≤ 512) : run (k+6) 28 [aI o t a b c] = some (encI (plainM ⟨o, t, a, b, c⟩)) := by
  rw [run, ev28]
  have hp := power_ev (k+1) c hc
  simp only [ii, bb, run] at hp
  simp only [Tryd.f28, aI, ii, bb, hp, one_ev, EVb, condO_ite, Int.reduceEq, Int.reduceToNat, Int.reduceLE, Int.reduceLT, Int.reduceAdd, Int.reduceMul, Int.reduceSub, Int.reduceNeg, Nat.reduceAdd, Nat.reduceSub, Nat.reduceMul, Nat.reduceLT, Nat.reduceBEq, Nat.reduceEqDiff, Nat.reduceLeDiff, FACTS, TYPES]
  repeat' (split <;> simp only [*, one_ev, aI, ii, EVb, condO_ite, Int.reduceEq, Int.reduceToNat, Int.reduceLE, Int.reduceLT, Int.reduceAdd, Int.reduceMul, Int.reduceSub, Int.reduceNeg, Nat.reduceAdd, Nat.reduceSub, Nat.reduceMul, Nat.reduceLT, Nat.reduceBEq, Nat.reduceEqDiff, Nat.reduceLeDiff, FACTS, TYPES])
  all_goals simp_all [plainM]

end Go.Proofs.F13
namespace Go.Proofs.F13
set_option linter.unusedVariables false
set_option linter.unusedSimpArgs false
set_option linter.unusedSectionVars false
open Go.Ab
abbrev zI : Ins := ⟨0, 0, 0, 0, 0⟩
theorem may_c {i : Ins} {regs : Int} (h : mayM i regs = true) : i.c ≤ 512 ∧ -512 ≤ i.c := by
  simp [mayM, constant] at h
  obtain ⟨⟨⟨h1, h2⟩, _⟩, _⟩ := h
  split at h2
  · omega
  · split at h2 <;> omega
theorem ne_ins (a b c d e a' b' c' d' e' : Int) : (!((a == a') && ((b == b') && ((c == c') && ((d == d') && (e == e')))))) = decide (Ins.mk a b c d e ≠ Ins.mk a' b' c' d' e') := by
  rw [Bool.eq_iff_iff]
  simp
theorem eq_ins (a b c d e a' b' c' d' e' : Int) : ((a == a') && ((b == b') && ((c == c') && ((d == d') && (e == e'))))) = decide (Ins.mk a b c d e = Ins.mk a' b' c' d' e') := by
  rw [Bool.eq_iff_iff]
  simp
theorem Plain_ev (k : Nat) (o t a b c : Int) : run (k+15) 16 [aI o t a b c] =
    some (.tup [encI (if mayM ⟨o, t, a, b, c⟩ 128 = true then plainM ⟨o, t, a, b, c⟩ else zI), bb (if mayM ⟨o, t, a, b, c⟩ 128 = true then decide (plainM ⟨o, t, a, b, c⟩ ≠ ⟨o, t, a, b, c⟩) else false)]) := by
  rw [run, ev16]
  by_cases hm : mayM ⟨o, t, a, b, c⟩ 128 = true
  · have hp := plain_ev (k+8) o t a b c (may_c hm).1
    simp only [aI, ii, bb, run, encI] at hp
    simp only [Tryd.f16, aI, ii, bb, hm, hp, may33_ev, EVb, condO_ite, Int.reduceEq, Int.reduceToNat, Int.reduceLE, Int.reduceLT, Int.reduceAdd, Int.reduceMul, Int.reduceSub, Int.reduceNeg, Nat.reduceAdd, Nat.reduceSub, Nat.reduceMul, Nat.reduceLT, Nat.reduceBEq, Nat.reduceEqDiff, Nat.reduceLeDiff, FACTS, TYPES]
    rw [evalCode_drawn Tryd.f16 4 dr16_4]; rotate_left; rfl
    simp only [EVd, Nat.reducePow, Nat.reduceDiv, Nat.reduceMod, EVb, condO_ite, Int.reduceEq, Int.reduceToNat, Int.reduceLE, Int.reduceLT, Int.reduceAdd, Int.reduceMul, Int.reduceSub, Int.reduceNeg, Nat.reduceAdd, Nat.reduceSub, Nat.reduceMul, Nat.reduceLT, Nat.reduceBEq, Nat.reduceEqDiff, Nat.reduceLeDiff, FACTS, TYPES]
    simp only [ne_ins]
  · simp only [Tryd.f16, aI, ii, bb, hm, may33_ev, EVb, condO_ite, Int.reduceEq, Int.reduceToNat, Int.reduceLE, Int.reduceLT, Int.reduceAdd, Int.reduceMul, Int.reduceSub, Int.reduceNeg, Nat.reduceAdd, Nat.reduceSub, Nat.reduceMul, Nat.reduceLT, Nat.reduceBEq, Nat.reduceEqDiff, Nat.reduceLeDiff, FACTS, TYPES]
end Go.Proofs.F13
namespace Go.Proofs.F13
set_option linter.unusedVariables false
set_option linter.unusedSimpArgs false
set_option linter.unusedSectionVars false
open Go.Ab
def fits (c : Int) : Bool := decide (-512 ≤ c ∧ c ≤ 512)
theorem fits65_ev (k : Nat) (c : Int) : run (k+1) 65 [ii c] = some (bb (fits c)) := by
  rw [run, ev65]
  simp only [Tryd.f65, ii, bb, EVb, condO_ite, Int.reduceEq, Int.reduceToNat, Int.reduceLE, Int.reduceLT, Int.reduceAdd, Int.reduceMul, Int.reduceSub, Int.reduceNeg, Nat.reduceAdd, Nat.reduceSub, Nat.reduceMul, Nat.reduceLT, Nat.reduceBEq, Nat.reduceEqDiff, Nat.reduceLeDiff, FACTS, TYPES]
  repeat' (split <;> simp only [*, EVb, condO_ite, Int.reduceEq, Int.reduceToNat, Int.reduceLE, Int.reduceLT, Int.reduceAdd, Int.reduceMul, Int.reduceSub, Int.reduceNeg, Nat.reduceAdd, Nat.reduceSub, Nat.reduceMul, Nat.reduceLT, Nat.reduceBEq, Nat.reduceEqDiff, Nat.reduceLeDiff, FACTS, TYPES])
  all_goals simp [fits, *]
theorem fits36_ev (k : Nat) (c : Int) : run (k+1) 36 [ii c] = some (bb (fits c)) := by
  rw [run, ev36]
  simp only [Tryd.f36, ii, bb, EVb, condO_ite, Int.reduceEq, Int.reduceToNat, Int.reduceLE, Int.reduceLT, Int.reduceAdd, Int.reduceMul, Int.reduceSub, Int.reduceNeg, Nat.reduceAdd, Nat.reduceSub, Nat.reduceMul, Nat.reduceLT, Nat.reduceBEq, Nat.reduceEqDiff, Nat.reduceLeDiff, FACTS, TYPES]
  repeat' (split <;> simp only [*, EVb, condO_ite, Int.reduceEq, Int.reduceToNat, Int.reduceLE, Int.reduceLT, Int.reduceAdd, Int.reduceMul, Int.reduceSub, Int.reduceNeg, Nat.reduceAdd, Nat.reduceSub, Nat.reduceMul, Nat.reduceLT, Nat.reduceBEq, Nat.reduceEqDiff, Nat.reduceLeDiff, FACTS, TYPES])
  all_goals simp [fits, *]
def together (f c s d : Int) : Option (Int × Int) :=
  if f = 1 then some (s, d)
  else if f = 2 then (if s = 1 then some (2, 0) else if s = 2 then some (1, 0) else if s = 5 ∨ s = 6 then some (s, -d) else none)
  else if f = 5 then (if s = 2 then some (5, -c) else if s = 5 ∧ fits (c * d) = true then some (5, c * d) else if s = 6 ∧ c.tmod d = 0 then some (5, c.tdiv d) else if s = 6 ∧ d.tmod c = 0 then some (6, d.tdiv c) else none)
  else if f = 6 then (if s = 2 then some (6, -c) else if s = 6 ∧ fits (c * d) = true then some (6, c * d) else none)
  else if f = 7 then (if s = 7 ∧ c + d ≤ 64 then some (7, c + d) else if s ≠ 8 then none else if c = d then some (1, 0) else if d < c then some (7, c - d) else some (8, d - c))
  else if f = 8 then (if s = 8 ∧ c + d ≤ 64 then some (8, c + d) else none)
  else none
def tri (x : Option (Int × Int)) : AV := match x with
  | some (o, c) => .tup [ii o, ii c, bb true]
  | none => .tup [ii 0, ii 0, bb false]
theorem tri_some {o c : Int} : tri (some (o, c)) = .tup [ii o, ii c, bb true] := rfl
theorem tri_none : tri none = .tup [ii 0, ii 0, bb false] := rfl
theorem small_mul {c d : Int} (h1 : -512 ≤ c) (h2 : c ≤ 512) (h3 : -512 ≤ d) (h4 : d ≤ 512) : -262144 ≤ c * d ∧ c * d ≤ 262144 := by
  have h5 : (c * d).natAbs = c.natAbs * d.natAbs := Int.natAbs_mul c d
  have h6 : c.natAbs * d.natAbs ≤ 512 * 512 := Nat.mul_le_mul (by omega) (by omega)
  omega
theorem small_div {c d : Int} (h1 : -512 ≤ c) (h2 : c ≤ 512) : -512 ≤ c.tdiv d ∧ c.tdiv d ≤ 512 := by
  have h5 : (c.tdiv d).natAbs = c.natAbs / d.natAbs := Int.natAbs_tdiv c d
  have h6 : c.natAbs / d.natAbs ≤ c.natAbs := Nat.div_le_self _ _
  omega
theorem together_ev (k : Nat) (f c s d : Int) (c1 : -512 ≤ c) (c2 : c ≤ 512) (d1 : -512 ≤ d) (d2 : d ≤ 512) (hd : s = 6 → d ≠ 0) (hc : f = 5 → c ≠ 0) :
    run (k+2) 50 [ii f, ii c, ii s, ii d] = some (tri (together f c s d)) := by
  have hm := small_mul c1 c2 d1 d2
  have q1 := small_div (d := d) c1 c2
  have q2 := small_div (d := c) d1 d2
  have w1 : IntKind.wrap .i64 (c * d) = c * d := wrap64 (by omega) (by omega)
  have w2 : IntKind.wrap .i64 (0 - c) = -c := by rw [wrap64 (by omega) (by omega)]; omega
  have w3 : IntKind.wrap .i64 (0 - d) = -d := by rw [wrap64 (by omega) (by omega)]; omega
  have w4 : IntKind.wrap .i64 (c + d) = c + d := wrap64 (by omega) (by omega)
  have w5 : IntKind.wrap .i64 (c - d) = c - d := wrap64 (by omega) (by omega)
  have w6 : IntKind.wrap .i64 (d - c) = d - c := wrap64 (by omega) (by omega)
  have w7 : IntKind.wrap .i64 (c.tdiv d) = c.tdiv d := wrap64 (by omega) (by omega)
  have w8 : IntKind.wrap .i64 (d.tdiv c) = d.tdiv c := wrap64 (by omega) (by omega)
  rw [run, ev50]
  simp only [Tryd.f50, ii, bb, fits65_ev, w1, w2, w3, w4, w5, w6, w7, w8, EVb, EVc, Int.reduceEq, Int.reduceToNat, Int.reduceLE, Int.reduceLT, Int.reduceAdd, Int.reduceMul, Int.reduceSub, Int.reduceNeg, Nat.reduceAdd, Nat.reduceSub, Nat.reduceMul, Nat.reduceLT, Nat.reduceBEq, Nat.reduceEqDiff, Nat.reduceLeDiff, FACTS, TYPES]
  clear hm q1 q2 c1 c2 d1 d2
  repeat' (first
    | (rw [evalCode_drawn Tryd.f50 19 dr50_19]; rotate_left; rfl; simp only [*,  w1, w2, w3, w4, w5, w6, w7, w8, fits65_ev, EVd, Nat.reducePow, Nat.reduceDiv, Nat.reduceMod, EVb, EVc, Int.reduceEq, Int.reduceToNat, Int.reduceLE, Int.reduceLT, Int.reduceAdd, Int.reduceMul, Int.reduceSub, Int.reduceNeg, Nat.reduceAdd, Nat.reduceSub, Nat.reduceMul, Nat.reduceLT, Nat.reduceBEq, Nat.reduceEqDiff, Nat.reduceLeDiff, FACTS, TYPES])
    | (rw [evalCode_drawn Tryd.f50 21 dr50_21]; rotate_left; rfl; simp only [*,  w1, w2, w3, w4, w5, w6, w7, w8, fits65_ev, EVd, Nat.reducePow, Nat.reduceDiv, Nat.reduceMod, EVb, EVc, Int.reduceEq, Int.reduceToNat, Int.reduceLE, Int.reduceLT, Int.reduceAdd, Int.reduceMul, Int.reduceSub, Int.reduceNeg, Nat.reduceAdd, Nat.reduceSub, Nat.reduceMul, Nat.reduceLT, Nat.reduceBEq, Nat.reduceEqDiff, Nat.reduceLeDiff, FACTS, TYPES])
    | (rw [condO_dec]; split <;> simp only [*,  w1, w2, w3, w4, w5, w6, w7, w8, fits65_ev, EVb, EVc, Int.reduceEq, Int.reduceToNat, Int.reduceLE, Int.reduceLT, Int.reduceAdd, Int.reduceMul, Int.reduceSub, Int.reduceNeg, Nat.reduceAdd, Nat.reduceSub, Nat.reduceMul, Nat.reduceLT, Nat.reduceBEq, Nat.reduceEqDiff, Nat.reduceLeDiff, FACTS, TYPES])
    | (rw [condO_ite]; split <;> simp only [*,  w1, w2, w3, w4, w5, w6, w7, w8, fits65_ev, EVb, EVc, Int.reduceEq, Int.reduceToNat, Int.reduceLE, Int.reduceLT, Int.reduceAdd, Int.reduceMul, Int.reduceSub, Int.reduceNeg, Nat.reduceAdd, Nat.reduceSub, Nat.reduceMul, Nat.reduceLT, Nat.reduceBEq, Nat.reduceEqDiff, Nat.reduceLeDiff, FACTS, TYPES])
    | (split <;> simp only [*,  w1, w2, w3, w4, w5, w6, w7, w8, fits65_ev, EVb, EVc, Int.reduceEq, Int.reduceToNat, Int.reduceLE, Int.reduceLT, Int.reduceAdd, Int.reduceMul, Int.reduceSub, Int.reduceNeg, Nat.reduceAdd, Nat.reduceSub, Nat.reduceMul, Nat.reduceLT, Nat.reduceBEq, Nat.reduceEqDiff, Nat.reduceLeDiff, FACTS, TYPES]))
  all_goals (first | (simp [together, tri, *]; done) | skip)

end Go.Proofs.F13
