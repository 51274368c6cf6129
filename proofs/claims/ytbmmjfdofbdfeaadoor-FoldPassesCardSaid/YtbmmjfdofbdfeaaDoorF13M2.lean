/- A part of the proof: what functions of the program answer, of whatever arguments, reckoned with letters by the interpreter's equations. Its conditions stand in each theorem. -/
import Derived.Test.YtbmmjfdofbdfeaaDoorF13M1

namespace Go.Proofs.F13
set_option linter.unusedVariables false
set_option linter.unusedSimpArgs false
set_option linter.unusedSectionVars false
open Go.Ab
theorem together_le {f c s d o x : Int} (c1 : -512 ≤ c) (c2 : c ≤ 512) (d1 : -512 ≤ d) (d2 : d ≤ 512) (h : together f c s d = some (o, x)) (e1 : f = 7 → 0 ≤ c ∧ (s = 8 → 0 ≤ d)) : x ≤ 512 := by
  have q1 := small_div (d := d) c1 c2
  have q2 := small_div (d := c) d1 d2
  unfold together fits at h
  repeat' (split at h <;> first | (simp only [Option.some.injEq, Prod.mk.injEq, reduceCtorEq] at h) | skip)
  all_goals (try simp only [decide_eq_true_eq] at *)
  all_goals omega
def meltM (a b : Ins) : Option Ins :=
  if b.op = 3 ∨ b.op = 4 ∨ b.a ≠ a.to ∨ b.to ≠ a.to then none else (together a.op a.c b.op b.c).map fun x => plainM ⟨x.1, b.to, a.a, 0, x.2⟩
def duo (x : Option Ins) : AV := match x with
  | some i => .tup [encI i, bb true]
  | none => .tup [encI zI, bb false]
/-- What two instructions must keep. -/
structure Two (a b : Ins) : Prop where
  c1 : -512 ≤ a.c
  c2 : a.c ≤ 512
  d1 : -512 ≤ b.c
  d2 : b.c ≤ 512
  hd : b.op = 6 → b.c ≠ 0
  hc : a.op = 5 → a.c ≠ 0
  e1 : a.op = 7 → 0 ≤ a.c ∧ (b.op = 8 → 0 ≤ b.c)
theorem melt_ev (k : Nat) (o t a b c o' t' a' b' c' : Int) (h : Two ⟨o, t, a, b, c⟩ ⟨o', t', a', b', c'⟩) :
    run (k+7) 29 [aI o t a b c, aI o' t' a' b' c'] = some (duo (meltM ⟨o, t, a, b, c⟩ ⟨o', t', a', b', c'⟩)) := by
  have ht := together_ev (k+4) o c o' c' h.c1 h.c2 h.d1 h.d2 h.hd h.hc
  have hl := @together_le o c o' c'
  rw [run, ev29]
  simp only [run, ii, bb] at ht
  cases hx : together o c o' c' with
  | none =>
    simp only [hx, tri, ii, bb] at ht
    simp only [Tryd.f29, aI, ii, bb, ht, EVb, EVc, Int.reduceEq, Int.reduceToNat, Int.reduceLE, Int.reduceLT, Int.reduceAdd, Int.reduceMul, Int.reduceSub, Int.reduceNeg, Nat.reduceAdd, Nat.reduceSub, Nat.reduceMul, Nat.reduceLT, Nat.reduceBEq, Nat.reduceEqDiff, Nat.reduceLeDiff, FACTS, TYPES]
    clear h hl
    repeat' (first
    | (rw [condO_dec]; split <;> simp only [*, ht, EVb, EVc, Int.reduceEq, Int.reduceToNat, Int.reduceLE, Int.reduceLT, Int.reduceAdd, Int.reduceMul, Int.reduceSub, Int.reduceNeg, Nat.reduceAdd, Nat.reduceSub, Nat.reduceMul, Nat.reduceLT, Nat.reduceBEq, Nat.reduceEqDiff, Nat.reduceLeDiff, FACTS, TYPES])
    | (rw [condO_ite]; split <;> simp only [*, ht, EVb, EVc, Int.reduceEq, Int.reduceToNat, Int.reduceLE, Int.reduceLT, Int.reduceAdd, Int.reduceMul, Int.reduceSub, Int.reduceNeg, Nat.reduceAdd, Nat.reduceSub, Nat.reduceMul, Nat.reduceLT, Nat.reduceBEq, Nat.reduceEqDiff, Nat.reduceLeDiff, FACTS, TYPES])
    | (split <;> simp only [*, ht, EVb, EVc, Int.reduceEq, Int.reduceToNat, Int.reduceLE, Int.reduceLT, Int.reduceAdd, Int.reduceMul, Int.reduceSub, Int.reduceNeg, Nat.reduceAdd, Nat.reduceSub, Nat.reduceMul, Nat.reduceLT, Nat.reduceBEq, Nat.reduceEqDiff, Nat.reduceLeDiff, FACTS, TYPES]))
    all_goals simp [meltM, duo, hx, *]
  | some x =>
    obtain ⟨z, y⟩ := x
    simp only [hx, tri, ii, bb] at ht
    have hp := fun w => plain_ev k z w a 0 y (hl h.c1 h.c2 h.d1 h.d2 hx h.e1)
    simp only [run, aI, ii, encI] at hp
    simp only [Tryd.f29, aI, ii, bb, ht, one_ev, hp, EVb, EVc, Int.reduceEq, Int.reduceToNat, Int.reduceLE, Int.reduceLT, Int.reduceAdd, Int.reduceMul, Int.reduceSub, Int.reduceNeg, Nat.reduceAdd, Nat.reduceSub, Nat.reduceMul, Nat.reduceLT, Nat.reduceBEq, Nat.reduceEqDiff, Nat.reduceLeDiff, FACTS, TYPES]
    clear h hl
    repeat' (first
    | (rw [condO_dec]; split <;> simp only [*, ht, one_ev, hp, EVb, EVc, Int.reduceEq, Int.reduceToNat, Int.reduceLE, Int.reduceLT, Int.reduceAdd, Int.reduceMul, Int.reduceSub, Int.reduceNeg, Nat.reduceAdd, Nat.reduceSub, Nat.reduceMul, Nat.reduceLT, Nat.reduceBEq, Nat.reduceEqDiff, Nat.reduceLeDiff, FACTS, TYPES])
    | (rw [condO_ite]; split <;> simp only [*, ht, one_ev, hp, EVb, EVc, Int.reduceEq, Int.reduceToNat, Int.reduceLE, Int.reduceLT, Int.reduceAdd, Int.reduceMul, Int.reduceSub, Int.reduceNeg, Nat.reduceAdd, Nat.reduceSub, Nat.reduceMul, Nat.reduceLT, Nat.reduceBEq, Nat.reduceEqDiff, Nat.reduceLeDiff, FACTS, TYPES])
    | (split <;> simp only [*, ht, one_ev, hp, EVb, EVc, Int.reduceEq, Int.reduceToNat, Int.reduceLE, Int.reduceLT, Int.reduceAdd, Int.reduceMul, Int.reduceSub, Int.reduceNeg, Nat.reduceAdd, Nat.reduceSub, Nat.reduceMul, Nat.reduceLT, Nat.reduceBEq, Nat.reduceEqDiff, Nat.reduceLeDiff, FACTS, TYPES]))
    all_goals simp [meltM, duo, hx, *]
end Go.Proofs.F13
namespace Go.Proofs.F13
set_option linter.unusedVariables false
set_option linter.unusedSimpArgs false
set_option linter.unusedSectionVars false
open Go.Ab
theorem two_of_may {a b : Ins} {r : Int} (ha : mayM a r = true) (hb : mayM b r = true) : Two a b := by
  have a1 := may_c ha
  have b1 := may_c hb
  simp only [mayM, constant, Bool.and_eq_true, decide_eq_true_eq] at ha hb
  obtain ⟨⟨⟨_, ha⟩, _⟩, _⟩ := ha
  obtain ⟨⟨⟨_, hb⟩, _⟩, _⟩ := hb
  refine ⟨a1.2, a1.1, b1.2, b1.1, fun h => ?_, fun h => ?_, fun h => ⟨?_, fun h2 => ?_⟩⟩
  · simp [h] at hb; omega
  · simp [h] at ha; omega
  · simp [h] at ha; omega
  · simp [h2] at hb; omega
theorem ins_eta (x : Ins) : Ins.mk x.op x.to x.a x.b x.c = x := rfl
def MeltM (a b : Ins) : Option Ins := if mayM a 128 = true ∧ mayM b 128 = true ∧ plainM a = a ∧ plainM b = b then meltM a b else none
theorem Melt_ev (k : Nat) (o t a b c o' t' a' b' c' : Int) :
    run (k+15) 17 [aI o t a b c, aI o' t' a' b' c'] = some (duo (MeltM ⟨o, t, a, b, c⟩ ⟨o', t', a', b', c'⟩)) := by
  rw [run, ev17]
  simp only [Tryd.f17, aI, ii, bb, EVb, EVc, Int.reduceEq, Int.reduceToNat, Int.reduceLE, Int.reduceLT, Int.reduceAdd, Int.reduceMul, Int.reduceSub, Int.reduceNeg, Nat.reduceAdd, Nat.reduceSub, Nat.reduceMul, Nat.reduceLT, Nat.reduceBEq, Nat.reduceEqDiff, Nat.reduceLeDiff, FACTS, TYPES]
  rw [evalCode_drawn Tryd.f17 1 dr17_1]; rotate_left; rfl
  by_cases ha : mayM ⟨o, t, a, b, c⟩ 128 = true
  · have pa := plain_ev (k+8) o t a b c (may_c ha).1
    simp only [run, aI, ii, encI] at pa
    by_cases hb : mayM ⟨o', t', a', b', c'⟩ 128 = true
    · have pb := plain_ev (k+8) o' t' a' b' c' (may_c hb).1
      have hm := melt_ev (k+7) o t a b c o' t' a' b' c' (two_of_may ha hb)
      simp only [run, aI, ii, encI] at pb hm
      by_cases e1 : plainM ⟨o, t, a, b, c⟩ = ⟨o, t, a, b, c⟩
      · by_cases e2 : plainM ⟨o', t', a', b', c'⟩ = ⟨o', t', a', b', c'⟩
        · rw [MeltM, if_pos ⟨ha, hb, e1, e2⟩]
          simp only [may33_ev, ha, hb, pa, pb, e1, e2, ne_ins, ins_eta, EVd, Nat.reducePow, Nat.reduceDiv, Nat.reduceMod, EVb, EVc, Int.reduceEq, Int.reduceToNat, Int.reduceLE, Int.reduceLT, Int.reduceAdd, Int.reduceMul, Int.reduceSub, Int.reduceNeg, Nat.reduceAdd, Nat.reduceSub, Nat.reduceMul, Nat.reduceLT, Nat.reduceBEq, Nat.reduceEqDiff, Nat.reduceLeDiff, FACTS, TYPES]
          simp only [hm]
          cases meltM ⟨o, t, a, b, c⟩ ⟨o', t', a', b', c'⟩ <;> simp only [duo, encI, aI, ii, bb, zI, EVb, EVc, Int.reduceEq, Int.reduceToNat, Int.reduceLE, Int.reduceLT, Int.reduceAdd, Int.reduceMul, Int.reduceSub, Int.reduceNeg, Nat.reduceAdd, Nat.reduceSub, Nat.reduceMul, Nat.reduceLT, Nat.reduceBEq, Nat.reduceEqDiff, Nat.reduceLeDiff, FACTS, TYPES]
        · rw [MeltM, if_neg (fun h => absurd h.2.2.2 e2)]
          simp only [may33_ev, ha, hb, pa, pb, e1, e2, ne_ins, ins_eta, duo, encI, zI, EVd, Nat.reducePow, Nat.reduceDiv, Nat.reduceMod, EVb, EVc, Int.reduceEq, Int.reduceToNat, Int.reduceLE, Int.reduceLT, Int.reduceAdd, Int.reduceMul, Int.reduceSub, Int.reduceNeg, Nat.reduceAdd, Nat.reduceSub, Nat.reduceMul, Nat.reduceLT, Nat.reduceBEq, Nat.reduceEqDiff, Nat.reduceLeDiff, FACTS, TYPES]
      · rw [MeltM, if_neg (fun h => absurd h.2.2.1 e1)]
        simp only [may33_ev, ha, hb, pa, pb, e1, ne_ins, ins_eta, duo, encI, zI, EVd, Nat.reducePow, Nat.reduceDiv, Nat.reduceMod, EVb, EVc, Int.reduceEq, Int.reduceToNat, Int.reduceLE, Int.reduceLT, Int.reduceAdd, Int.reduceMul, Int.reduceSub, Int.reduceNeg, Nat.reduceAdd, Nat.reduceSub, Nat.reduceMul, Nat.reduceLT, Nat.reduceBEq, Nat.reduceEqDiff, Nat.reduceLeDiff, FACTS, TYPES]
    · rw [MeltM, if_neg (fun h => absurd h.2.1 hb)]
      simp only [may33_ev, ha, hb, pa, duo, encI, zI, EVd, Nat.reducePow, Nat.reduceDiv, Nat.reduceMod, EVb, EVc, Int.reduceEq, Int.reduceToNat, Int.reduceLE, Int.reduceLT, Int.reduceAdd, Int.reduceMul, Int.reduceSub, Int.reduceNeg, Nat.reduceAdd, Nat.reduceSub, Nat.reduceMul, Nat.reduceLT, Nat.reduceBEq, Nat.reduceEqDiff, Nat.reduceLeDiff, FACTS, TYPES]
  · rw [MeltM, if_neg (fun h => absurd h.1 ha)]
    simp only [may33_ev, ha, duo, encI, zI, EVd, Nat.reducePow, Nat.reduceDiv, Nat.reduceMod, EVb, EVc, Int.reduceEq, Int.reduceToNat, Int.reduceLE, Int.reduceLT, Int.reduceAdd, Int.reduceMul, Int.reduceSub, Int.reduceNeg, Nat.reduceAdd, Nat.reduceSub, Nat.reduceMul, Nat.reduceLT, Nat.reduceBEq, Nat.reduceEqDiff, Nat.reduceLeDiff, FACTS, TYPES]
end Go.Proofs.F13
namespace Go.Proofs.F13
set_option linter.unusedVariables false
set_option linter.unusedSimpArgs false
set_option linter.unusedSectionVars false
open Go.Ab
theorem refpow_ev (k : Nat) (c : Int) (hc : c ≤ 512) : run (k+12) 34 [ii c] = some (ii (powM c)) := by
  rw [run, ev34]
  simp only [Tryd.f34, ii, bb, EVb, EVc, Int.reduceEq, Int.reduceToNat, Int.reduceLE, Int.reduceLT, Int.reduceAdd, Int.reduceMul, Int.reduceSub, Int.reduceNeg, Nat.reduceAdd, Nat.reduceSub, Nat.reduceMul, Nat.reduceLT, Nat.reduceBEq, Nat.reduceEqDiff, Nat.reduceLeDiff, FACTS, TYPES]
  rw [evalCode_loopOf Tryd.f34 2 lp34_2]; rotate_left; rfl; rfl
  simp only [loopL_succ, loopOf, findLoop, firstRegion, Option.some_or, Option.none_or, Option.getD_some, Option.some.injEq, Tryd.f34, EVb, EVc, Int.reduceEq, Int.reduceToNat, Int.reduceLE, Int.reduceLT, Int.reduceAdd, Int.reduceMul, Int.reduceSub, Int.reduceNeg, Nat.reduceAdd, Nat.reduceSub, Nat.reduceMul, Nat.reduceLT, Nat.reduceBEq, Nat.reduceEqDiff, Nat.reduceLeDiff, FACTS]
  repeat' (first
    | (rw [condO_dec]; split <;> simp only [*, loopL_succ, EVb, EVc, Int.reduceEq, Int.reduceToNat, Int.reduceLE, Int.reduceLT, Int.reduceAdd, Int.reduceMul, Int.reduceSub, Int.reduceNeg, Nat.reduceAdd, Nat.reduceSub, Nat.reduceMul, Nat.reduceLT, Nat.reduceBEq, Nat.reduceEqDiff, Nat.reduceLeDiff, FACTS, TYPES])
    | (rw [condO_ite]; split <;> simp only [*, loopL_succ, EVb, EVc, Int.reduceEq, Int.reduceToNat, Int.reduceLE, Int.reduceLT, Int.reduceAdd, Int.reduceMul, Int.reduceSub, Int.reduceNeg, Nat.reduceAdd, Nat.reduceSub, Nat.reduceMul, Nat.reduceLT, Nat.reduceBEq, Nat.reduceEqDiff, Nat.reduceLeDiff, FACTS, TYPES])
    | (split <;> simp only [*, loopL_succ, EVb, EVc, Int.reduceEq, Int.reduceToNat, Int.reduceLE, Int.reduceLT, Int.reduceAdd, Int.reduceMul, Int.reduceSub, Int.reduceNeg, Nat.reduceAdd, Nat.reduceSub, Nat.reduceMul, Nat.reduceLT, Nat.reduceBEq, Nat.reduceEqDiff, Nat.reduceLeDiff, FACTS, TYPES]))
  all_goals first
    | (exfalso; omega; done)
    | (simp [powM, *]; done)
    | (simp [powM]; omega; done)
    | skip
end Go.Proofs.F13
namespace Go.Proofs.F13
set_option linter.unusedVariables false
set_option linter.unusedSimpArgs false
set_option linter.unusedSectionVars false
open Go.Ab
theorem refMay_ev (k : Nat) (o t a b c regs : Int) : run (k+1) 18 [aI o t a b c, ii regs] = some (bb (mayM ⟨o, t, a, b, c⟩ regs)) := by
  rw [run, ev18]
  simp only [Tryd.f18, aI, ii, bb, EVb, EVc, Int.reduceEq, Int.reduceToNat, Int.reduceLE, Int.reduceLT, Int.reduceAdd, Int.reduceMul, Int.reduceSub, Int.reduceNeg, Nat.reduceAdd, Nat.reduceSub, Nat.reduceMul, Nat.reduceLT, Nat.reduceBEq, Nat.reduceEqDiff, Nat.reduceLeDiff, FACTS, TYPES]
  repeat' (first
    | (rw [condO_dec]; split <;> simp only [*, EVb, EVc, Int.reduceEq, Int.reduceToNat, Int.reduceLE, Int.reduceLT, Int.reduceAdd, Int.reduceMul, Int.reduceSub, Int.reduceNeg, Nat.reduceAdd, Nat.reduceSub, Nat.reduceMul, Nat.reduceLT, Nat.reduceBEq, Nat.reduceEqDiff, Nat.reduceLeDiff, FACTS, TYPES])
    | (rw [condO_ite]; split <;> simp only [*, EVb, EVc, Int.reduceEq, Int.reduceToNat, Int.reduceLE, Int.reduceLT, Int.reduceAdd, Int.reduceMul, Int.reduceSub, Int.reduceNeg, Nat.reduceAdd, Nat.reduceSub, Nat.reduceMul, Nat.reduceLT, Nat.reduceBEq, Nat.reduceEqDiff, Nat.reduceLeDiff, FACTS, TYPES])
    | (split <;> simp only [*, EVb, EVc, Int.reduceEq, Int.reduceToNat, Int.reduceLE, Int.reduceLT, Int.reduceAdd, Int.reduceMul, Int.reduceSub, Int.reduceNeg, Nat.reduceAdd, Nat.reduceSub, Nat.reduceMul, Nat.reduceLT, Nat.reduceBEq, Nat.reduceEqDiff, Nat.reduceLeDiff, FACTS, TYPES]))
  all_goals first
    | (simp [mayM, constant, *]; done)
    | (rw [Option.some.injEq, AV.c.injEq, IV.bool.injEq, Bool.eq_iff_iff]; simp [mayM, constant, *]; omega)
    | skip
theorem refPlain_ev (k : Nat) (o t a b c : Int) (hc : c ≤ 512) : run (k+13) 19 [aI o t a b c] = some (encI (plainM ⟨o, t, a, b, c⟩)) := by
  have hp := refpow_ev k c hc
  simp only [run, ii] at hp
  have h0 : powM c = 0 ∨ 0 < powM c := by
    by_cases h : powM c ≠ 0
    · right; rcases pow_cases h with rfl | rfl | rfl | rfl | rfl | rfl | rfl | rfl | rfl <;> decide
    · left; simpa using h
  rw [run, ev19]
  rcases h0 with h0 | h0
  · have h1 : ¬ 0 < powM c := by omega
    rw [h0] at hp
    simp only [Tryd.f19, aI, ii, bb, hp, EVb, EVc, Int.reduceEq, Int.reduceToNat, Int.reduceLE, Int.reduceLT, Int.reduceAdd, Int.reduceMul, Int.reduceSub, Int.reduceNeg, Nat.reduceAdd, Nat.reduceSub, Nat.reduceMul, Nat.reduceLT, Nat.reduceBEq, Nat.reduceEqDiff, Nat.reduceLeDiff, FACTS, TYPES]
    repeat' (first
    | (rw [evalCode_drawn Tryd.f19 7 dr19_7]; rotate_left; rfl; simp only [*,  hp, EVd, Nat.reducePow, Nat.reduceDiv, Nat.reduceMod, EVb, EVc, Int.reduceEq, Int.reduceToNat, Int.reduceLE, Int.reduceLT, Int.reduceAdd, Int.reduceMul, Int.reduceSub, Int.reduceNeg, Nat.reduceAdd, Nat.reduceSub, Nat.reduceMul, Nat.reduceLT, Nat.reduceBEq, Nat.reduceEqDiff, Nat.reduceLeDiff, FACTS, TYPES])
    | (rw [evalCode_drawn Tryd.f19 9 dr19_9]; rotate_left; rfl; simp only [*,  hp, EVd, Nat.reducePow, Nat.reduceDiv, Nat.reduceMod, EVb, EVc, Int.reduceEq, Int.reduceToNat, Int.reduceLE, Int.reduceLT, Int.reduceAdd, Int.reduceMul, Int.reduceSub, Int.reduceNeg, Nat.reduceAdd, Nat.reduceSub, Nat.reduceMul, Nat.reduceLT, Nat.reduceBEq, Nat.reduceEqDiff, Nat.reduceLeDiff, FACTS, TYPES])
    | (rw [condO_dec]; split <;> simp only [*,  hp, EVb, EVc, Int.reduceEq, Int.reduceToNat, Int.reduceLE, Int.reduceLT, Int.reduceAdd, Int.reduceMul, Int.reduceSub, Int.reduceNeg, Nat.reduceAdd, Nat.reduceSub, Nat.reduceMul, Nat.reduceLT, Nat.reduceBEq, Nat.reduceEqDiff, Nat.reduceLeDiff, FACTS, TYPES])
    | (rw [condO_ite]; split <;> simp only [*,  hp, EVb, EVc, Int.reduceEq, Int.reduceToNat, Int.reduceLE, Int.reduceLT, Int.reduceAdd, Int.reduceMul, Int.reduceSub, Int.reduceNeg, Nat.reduceAdd, Nat.reduceSub, Nat.reduceMul, Nat.reduceLT, Nat.reduceBEq, Nat.reduceEqDiff, Nat.reduceLeDiff, FACTS, TYPES])
    | (split <;> simp only [*,  hp, EVb, EVc, Int.reduceEq, Int.reduceToNat, Int.reduceLE, Int.reduceLT, Int.reduceAdd, Int.reduceMul, Int.reduceSub, Int.reduceNeg, Nat.reduceAdd, Nat.reduceSub, Nat.reduceMul, Nat.reduceLT, Nat.reduceBEq, Nat.reduceEqDiff, Nat.reduceLeDiff, FACTS, TYPES]))
    all_goals simp [plainM, *]
  · have h1 : ¬ powM c = 0 := by omega
    simp only [Tryd.f19, aI, ii, bb, hp, EVb, EVc, Int.reduceEq, Int.reduceToNat, Int.reduceLE, Int.reduceLT, Int.reduceAdd, Int.reduceMul, Int.reduceSub, Int.reduceNeg, Nat.reduceAdd, Nat.reduceSub, Nat.reduceMul, Nat.reduceLT, Nat.reduceBEq, Nat.reduceEqDiff, Nat.reduceLeDiff, FACTS, TYPES]
    repeat' (first
    | (rw [evalCode_drawn Tryd.f19 7 dr19_7]; rotate_left; rfl; simp only [*,  hp, EVd, Nat.reducePow, Nat.reduceDiv, Nat.reduceMod, EVb, EVc, Int.reduceEq, Int.reduceToNat, Int.reduceLE, Int.reduceLT, Int.reduceAdd, Int.reduceMul, Int.reduceSub, Int.reduceNeg, Nat.reduceAdd, Nat.reduceSub, Nat.reduceMul, Nat.reduceLT, Nat.reduceBEq, Nat.reduceEqDiff, Nat.reduceLeDiff, FACTS, TYPES])
    | (rw [evalCode_drawn Tryd.f19 9 dr19_9]; rotate_left; rfl; simp only [*,  hp, EVd, Nat.reducePow, Nat.reduceDiv, Nat.reduceMod, EVb, EVc, Int.reduceEq, Int.reduceToNat, Int.reduceLE, Int.reduceLT, Int.reduceAdd, Int.reduceMul, Int.reduceSub, Int.reduceNeg, Nat.reduceAdd, Nat.reduceSub, Nat.reduceMul, Nat.reduceLT, Nat.reduceBEq, Nat.reduceEqDiff, Nat.reduceLeDiff, FACTS, TYPES])
    | (rw [condO_dec]; split <;> simp only [*,  hp, EVb, EVc, Int.reduceEq, Int.reduceToNat, Int.reduceLE, Int.reduceLT, Int.reduceAdd, Int.reduceMul, Int.reduceSub, Int.reduceNeg, Nat.reduceAdd, Nat.reduceSub, Nat.reduceMul, Nat.reduceLT, Nat.reduceBEq, Nat.reduceEqDiff, Nat.reduceLeDiff, FACTS, TYPES])
    | (rw [condO_ite]; split <;> simp only [*,  hp, EVb, EVc, Int.reduceEq, Int.reduceToNat, Int.reduceLE, Int.reduceLT, Int.reduceAdd, Int.reduceMul, Int.reduceSub, Int.reduceNeg, Nat.reduceAdd, Nat.reduceSub, Nat.reduceMul, Nat.reduceLT, Nat.reduceBEq, Nat.reduceEqDiff, Nat.reduceLeDiff, FACTS, TYPES])
    | (split <;> simp only [*,  hp, EVb, EVc, Int.reduceEq, Int.reduceToNat, Int.reduceLE, Int.reduceLT, Int.reduceAdd, Int.reduceMul, Int.reduceSub, Int.reduceNeg, Nat.reduceAdd, Nat.reduceSub, Nat.reduceMul, Nat.reduceLT, Nat.reduceBEq, Nat.reduceEqDiff, Nat.reduceLeDiff, FACTS, TYPES]))
    all_goals simp [plainM, *]
end Go.Proofs.F13
namespace Go.Proofs.F13
set_option linter.unusedVariables false
set_option linter.unusedSimpArgs false
set_option linter.unusedSectionVars false
open Go.Ab
theorem out_ev (k : Nat) (o t a b c o' t' a' b' c' z y : Int) (hy : y ≤ 512) : run (k+14) 35 [aI o t a b c, aI o' t' a' b' c', ii z, ii y] = some (duo (some (plainM ⟨z, t', a, 0, y⟩))) := by
  have hp := refPlain_ev k z t' a 0 y hy
  simp only [run, aI, ii, encI] at hp
  rw [run, ev35]
  simp only [Tryd.f35, duo, encI, aI, ii, bb, hp, EVb, EVc, Int.reduceEq, Int.reduceToNat, Int.reduceLE, Int.reduceLT, Int.reduceAdd, Int.reduceMul, Int.reduceSub, Int.reduceNeg, Nat.reduceAdd, Nat.reduceSub, Nat.reduceMul, Nat.reduceLT, Nat.reduceBEq, Nat.reduceEqDiff, Nat.reduceLeDiff, FACTS, TYPES]
set_option maxHeartbeats 4000000 in
theorem refMelt_ev (k : Nat) (o t a b c o' t' a' b' c' : Int) (h : Two ⟨o, t, a, b, c⟩ ⟨o', t', a', b', c'⟩) :
    run (k+15) 20 [aI o t a b c, aI o' t' a' b' c'] = some (duo (meltM ⟨o, t, a, b, c⟩ ⟨o', t', a', b', c'⟩)) := by
  have c1 : -512 ≤ c := h.c1
  have c2 : c ≤ 512 := h.c2
  have d1 : -512 ≤ c' := h.d1
  have d2 : c' ≤ 512 := h.d2
  have hd : o' = 6 → c' ≠ 0 := h.hd
  have hc : o = 5 → c ≠ 0 := h.hc
  have hm := small_mul c1 c2 d1 d2
  have q1 := small_div (d := c') c1 c2
  have q2 := small_div (d := c) d1 d2
  have w1 : IntKind.wrap .i64 (c * c') = c * c' := wrap64 (by omega) (by omega)
  have w2 : IntKind.wrap .i64 (0 - c) = -c := by rw [wrap64 (by omega) (by omega)]; omega
  have w3 : IntKind.wrap .i64 (0 - c') = -c' := by rw [wrap64 (by omega) (by omega)]; omega
  have w4 : IntKind.wrap .i64 (c + c') = c + c' := wrap64 (by omega) (by omega)
  have w5 : IntKind.wrap .i64 (c - c') = c - c' := wrap64 (by omega) (by omega)
  have w6 : IntKind.wrap .i64 (c' - c) = c' - c := wrap64 (by omega) (by omega)
  have w7 : IntKind.wrap .i64 (c.tdiv c') = c.tdiv c' := wrap64 (by omega) (by omega)
  have w8 : IntKind.wrap .i64 (c'.tdiv c) = c'.tdiv c := wrap64 (by omega) (by omega)
  have e3 : o = 7 → o' = 8 → 0 ≤ c' := fun x y => (h.e1 x).2 y
  have F : ∀ (y : Int), y ≤ 512 → ∀ (o t a b c o' t' a' b' c' z : Int), ans (evalT Tryd.prog (mkHints tab) (k + 14) (.fn 35) [.agg [.c (.int .i64 o), .c (.int .i64 t), .c (.int .i64 a), .c (.int .i64 b), .c (.int .i64 c)], .agg [.c (.int .i64 o'), .c (.int .i64 t'), .c (.int .i64 a'), .c (.int .i64 b'), .c (.int .i64 c')], .c (.int .i64 z), .c (.int .i64 y)] []) = some (.tup [encI (plainM ⟨z, t', a, 0, y⟩), bb true]) :=
    fun y hy o t a b c o' t' a' b' c' z => out_ev k o t a b c o' t' a' b' c' z y hy
  have f1 := F c' d2
  have f2 := F 0 (by omega)
  have f3 := F (-c) (by omega)
  have f4 := F (-c') (by omega)
  have f5 : fits (c * c') = true → _ := fun hf => F (c * c') (by simp [fits] at hf; omega)
  have f6 := F (c.tdiv c') (by omega)
  have f7 := F (c'.tdiv c) (by omega)
  have f8 : c + c' ≤ 64 → _ := fun hf => F (c + c') (by omega)
  have f9 : o = 7 → o' = 8 → _ := fun x y => F (c - c') (by have := e3 x y; omega)
  have f10 : o = 7 → o' = 8 → _ := fun x y => F (c' - c) (by have := (h.e1 x).1; simp only at this; omega)
  rw [run, ev20]
  simp only [Tryd.f20, aI, ii, bb, EVb, EVc, Int.reduceEq, Int.reduceToNat, Int.reduceLE, Int.reduceLT, Int.reduceAdd, Int.reduceMul, Int.reduceSub, Int.reduceNeg, Nat.reduceAdd, Nat.reduceSub, Nat.reduceMul, Nat.reduceLT, Nat.reduceBEq, Nat.reduceEqDiff, Nat.reduceLeDiff, FACTS, TYPES]
  clear F h c1 c2 d1 d2 hm q1 q2 e3
  repeat' (first
    | (rw [evalCode_drawn Tryd.f20 3 dr20_3]; rotate_left; rfl; simp only [*,  f1, f2, f3, f4, f5, f6, f7, f8, f9, f10, fits36_ev, encI, aI, ii, bb, EVd, Nat.reducePow, Nat.reduceDiv, Nat.reduceMod, EVb, EVc, Int.reduceEq, Int.reduceToNat, Int.reduceLE, Int.reduceLT, Int.reduceAdd, Int.reduceMul, Int.reduceSub, Int.reduceNeg, Nat.reduceAdd, Nat.reduceSub, Nat.reduceMul, Nat.reduceLT, Nat.reduceBEq, Nat.reduceEqDiff, Nat.reduceLeDiff, FACTS, TYPES])
    | (rw [evalCode_drawn Tryd.f20 17 dr20_17]; rotate_left; rfl; simp only [*,  f1, f2, f3, f4, f5, f6, f7, f8, f9, f10, fits36_ev, encI, aI, ii, bb, EVd, Nat.reducePow, Nat.reduceDiv, Nat.reduceMod, EVb, EVc, Int.reduceEq, Int.reduceToNat, Int.reduceLE, Int.reduceLT, Int.reduceAdd, Int.reduceMul, Int.reduceSub, Int.reduceNeg, Nat.reduceAdd, Nat.reduceSub, Nat.reduceMul, Nat.reduceLT, Nat.reduceBEq, Nat.reduceEqDiff, Nat.reduceLeDiff, FACTS, TYPES])
    | (rw [evalCode_drawn Tryd.f20 19 dr20_19]; rotate_left; rfl; simp only [*,  f1, f2, f3, f4, f5, f6, f7, f8, f9, f10, fits36_ev, encI, aI, ii, bb, EVd, Nat.reducePow, Nat.reduceDiv, Nat.reduceMod, EVb, EVc, Int.reduceEq, Int.reduceToNat, Int.reduceLE, Int.reduceLT, Int.reduceAdd, Int.reduceMul, Int.reduceSub, Int.reduceNeg, Nat.reduceAdd, Nat.reduceSub, Nat.reduceMul, Nat.reduceLT, Nat.reduceBEq, Nat.reduceEqDiff, Nat.reduceLeDiff, FACTS, TYPES])
    | (rw [condO_dec]; split <;> simp only [*,  f1, f2, f3, f4, f5, f6, f7, f8, f9, f10, fits36_ev, encI, aI, ii, bb, EVb, EVc, Int.reduceEq, Int.reduceToNat, Int.reduceLE, Int.reduceLT, Int.reduceAdd, Int.reduceMul, Int.reduceSub, Int.reduceNeg, Nat.reduceAdd, Nat.reduceSub, Nat.reduceMul, Nat.reduceLT, Nat.reduceBEq, Nat.reduceEqDiff, Nat.reduceLeDiff, FACTS, TYPES])
    | (rw [condO_ite]; split <;> simp only [*,  f1, f2, f3, f4, f5, f6, f7, f8, f9, f10, fits36_ev, encI, aI, ii, bb, EVb, EVc, Int.reduceEq, Int.reduceToNat, Int.reduceLE, Int.reduceLT, Int.reduceAdd, Int.reduceMul, Int.reduceSub, Int.reduceNeg, Nat.reduceAdd, Nat.reduceSub, Nat.reduceMul, Nat.reduceLT, Nat.reduceBEq, Nat.reduceEqDiff, Nat.reduceLeDiff, FACTS, TYPES])
    | (split <;> simp only [*,  f1, f2, f3, f4, f5, f6, f7, f8, f9, f10, fits36_ev, encI, aI, ii, bb, EVb, EVc, Int.reduceEq, Int.reduceToNat, Int.reduceLE, Int.reduceLT, Int.reduceAdd, Int.reduceMul, Int.reduceSub, Int.reduceNeg, Nat.reduceAdd, Nat.reduceSub, Nat.reduceMul, Nat.reduceLT, Nat.reduceBEq, Nat.reduceEqDiff, Nat.reduceLeDiff, FACTS, TYPES]))

  all_goals first
    | (simp [meltM, together, duo, *]; done)
    | skip
end Go.Proofs.F13
namespace Go.Proofs.F13
set_option linter.unusedVariables false
set_option linter.unusedSimpArgs false
set_option linter.unusedSectionVars false
open Go.Ab
theorem works_ev (k : Nat) : run (k+60) 8 [] = some (bb true) := by kernel_rfl
theorem ne_self (a b c d e : Int) : (!((a == a) && ((b == b) && ((c == c) && ((d == d) && (e == e)))))) = false := by simp
theorem FoldPlains_ev (k : Nat) (o t a b c o' t' a' b' c' : Int) : run (k+61) 5 [aI o t a b c, aI o' t' a' b' c'] = some (bb true) := by
  have hM := Melt_ev (k+45) o t a b c o' t' a' b' c'
  rw [run, ev5]
  by_cases ha : mayM ⟨o, t, a, b, c⟩ 128 = true
  · have p1 := refPlain_ev (k+47) o t a b c (may_c ha).1
    simp only [run, aI, ii, bb, encI] at p1
    by_cases hb : mayM ⟨o', t', a', b', c'⟩ 128 = true
    · simp only [run] at hM
      have p2 := refPlain_ev (k+47) o' t' a' b' c' (may_c hb).1
      have rM := refMelt_ev (k+45) o t a b c o' t' a' b' c' (two_of_may ha hb)
      simp only [run, aI, ii, bb, encI] at p2 rM
      by_cases e1 : plainM ⟨o, t, a, b, c⟩ = ⟨o, t, a, b, c⟩
      · by_cases e2 : plainM ⟨o', t', a', b', c'⟩ = ⟨o', t', a', b', c'⟩
        · rw [MeltM, if_pos ⟨ha, hb, e1, e2⟩] at hM
          cases hx : meltM ⟨o, t, a, b, c⟩ ⟨o', t', a', b', c'⟩ <;>
          · simp only [hx, duo, encI, aI, ii, bb, zI] at hM rM
            simp only [Tryd.f5, aI, ii, bb, encI, works_ev, doCall_cx0, Plain_ev, ha, hb, refMay_ev, e1, e2, ne_self, ne_ins, ins_eta, EVb, EVc, Int.reduceEq, Int.reduceToNat, Int.reduceLE, Int.reduceLT, Int.reduceAdd, Int.reduceMul, Int.reduceSub, Int.reduceNeg, Nat.reduceAdd, Nat.reduceSub, Nat.reduceMul, Nat.reduceLT, Nat.reduceBEq, Nat.reduceEqDiff, Nat.reduceLeDiff, FACTS, TYPES]
            rw [evalCode_drawn Tryd.f5 5 dr5_5]; rotate_left; rfl
            simp only [refMay_ev, ha, hb, p1, p2, e1, e2, hM, rM, ne_self, ne_ins, ins_eta, EVd, Nat.reducePow, Nat.reduceDiv, Nat.reduceMod, EVb, EVc, Int.reduceEq, Int.reduceToNat, Int.reduceLE, Int.reduceLT, Int.reduceAdd, Int.reduceMul, Int.reduceSub, Int.reduceNeg, Nat.reduceAdd, Nat.reduceSub, Nat.reduceMul, Nat.reduceLT, Nat.reduceBEq, Nat.reduceEqDiff, Nat.reduceLeDiff, FACTS, TYPES]
        · rw [MeltM, if_neg (fun h => absurd h.2.2.2 e2)] at hM
          simp only [duo, encI, aI, ii, bb, zI] at hM
          simp only [Tryd.f5, aI, ii, bb, encI, works_ev, doCall_cx0, Plain_ev, ha, hb, refMay_ev, e1, e2, ne_self, ne_ins, ins_eta, EVb, EVc, Int.reduceEq, Int.reduceToNat, Int.reduceLE, Int.reduceLT, Int.reduceAdd, Int.reduceMul, Int.reduceSub, Int.reduceNeg, Nat.reduceAdd, Nat.reduceSub, Nat.reduceMul, Nat.reduceLT, Nat.reduceBEq, Nat.reduceEqDiff, Nat.reduceLeDiff, FACTS, TYPES]
          rw [evalCode_drawn Tryd.f5 5 dr5_5]; rotate_left; rfl
          simp only [refMay_ev, ha, hb, p1, p2, e1, e2, hM, ne_self, ne_ins, ins_eta, EVd, Nat.reducePow, Nat.reduceDiv, Nat.reduceMod, EVb, EVc, Int.reduceEq, Int.reduceToNat, Int.reduceLE, Int.reduceLT, Int.reduceAdd, Int.reduceMul, Int.reduceSub, Int.reduceNeg, Nat.reduceAdd, Nat.reduceSub, Nat.reduceMul, Nat.reduceLT, Nat.reduceBEq, Nat.reduceEqDiff, Nat.reduceLeDiff, FACTS, TYPES]
      · rw [MeltM, if_neg (fun h => absurd h.2.2.1 e1)] at hM
        simp only [duo, encI, aI, ii, bb, zI] at hM
        simp only [Tryd.f5, aI, ii, bb, encI, works_ev, doCall_cx0, Plain_ev, ha, hb, refMay_ev, e1, ne_self, ne_ins, ins_eta, EVb, EVc, Int.reduceEq, Int.reduceToNat, Int.reduceLE, Int.reduceLT, Int.reduceAdd, Int.reduceMul, Int.reduceSub, Int.reduceNeg, Nat.reduceAdd, Nat.reduceSub, Nat.reduceMul, Nat.reduceLT, Nat.reduceBEq, Nat.reduceEqDiff, Nat.reduceLeDiff, FACTS, TYPES]
        rw [evalCode_drawn Tryd.f5 5 dr5_5]; rotate_left; rfl
        simp only [refMay_ev, ha, hb, p1, p2, e1, hM, ne_self, ne_ins, ins_eta, EVd, Nat.reducePow, Nat.reduceDiv, Nat.reduceMod, EVb, EVc, Int.reduceEq, Int.reduceToNat, Int.reduceLE, Int.reduceLT, Int.reduceAdd, Int.reduceMul, Int.reduceSub, Int.reduceNeg, Nat.reduceAdd, Nat.reduceSub, Nat.reduceMul, Nat.reduceLT, Nat.reduceBEq, Nat.reduceEqDiff, Nat.reduceLeDiff, FACTS, TYPES]
    · simp only [run] at hM
      rw [MeltM, if_neg (fun h => absurd h.2.1 hb)] at hM
      simp only [duo, encI, aI, ii, bb, zI] at hM
      simp only [Tryd.f5, aI, ii, bb, encI, works_ev, doCall_cx0, Plain_ev, ha, hb, refMay_ev, ne_self, ne_ins, ins_eta, EVb, EVc, Int.reduceEq, Int.reduceToNat, Int.reduceLE, Int.reduceLT, Int.reduceAdd, Int.reduceMul, Int.reduceSub, Int.reduceNeg, Nat.reduceAdd, Nat.reduceSub, Nat.reduceMul, Nat.reduceLT, Nat.reduceBEq, Nat.reduceEqDiff, Nat.reduceLeDiff, FACTS, TYPES]
      rw [evalCode_drawn Tryd.f5 5 dr5_5]; rotate_left; rfl
      simp only [refMay_ev, ha, hb, p1, hM, ne_self, ne_ins, ins_eta, EVd, Nat.reducePow, Nat.reduceDiv, Nat.reduceMod, EVb, EVc, Int.reduceEq, Int.reduceToNat, Int.reduceLE, Int.reduceLT, Int.reduceAdd, Int.reduceMul, Int.reduceSub, Int.reduceNeg, Nat.reduceAdd, Nat.reduceSub, Nat.reduceMul, Nat.reduceLT, Nat.reduceBEq, Nat.reduceEqDiff, Nat.reduceLeDiff, FACTS, TYPES]
  · rw [MeltM, if_neg (fun h => absurd h.1 ha)] at hM
    simp only [duo, encI, aI, ii, bb, zI, run] at hM
    by_cases hb : mayM ⟨o', t', a', b', c'⟩ 128 = true
    · have p2 := refPlain_ev (k+47) o' t' a' b' c' (may_c hb).1
      simp only [run, aI, ii, bb, encI] at p2
      simp only [Tryd.f5, aI, ii, bb, encI, works_ev, doCall_cx0, Plain_ev, ha, hb, refMay_ev, ne_self, ne_ins, ins_eta, EVb, EVc, Int.reduceEq, Int.reduceToNat, Int.reduceLE, Int.reduceLT, Int.reduceAdd, Int.reduceMul, Int.reduceSub, Int.reduceNeg, Nat.reduceAdd, Nat.reduceSub, Nat.reduceMul, Nat.reduceLT, Nat.reduceBEq, Nat.reduceEqDiff, Nat.reduceLeDiff, FACTS, TYPES]
      rw [evalCode_drawn Tryd.f5 5 dr5_5]; rotate_left; rfl
      simp only [refMay_ev, ha, hb, p2, hM, ne_self, ne_ins, ins_eta, EVd, Nat.reducePow, Nat.reduceDiv, Nat.reduceMod, EVb, EVc, Int.reduceEq, Int.reduceToNat, Int.reduceLE, Int.reduceLT, Int.reduceAdd, Int.reduceMul, Int.reduceSub, Int.reduceNeg, Nat.reduceAdd, Nat.reduceSub, Nat.reduceMul, Nat.reduceLT, Nat.reduceBEq, Nat.reduceEqDiff, Nat.reduceLeDiff, FACTS, TYPES]
    · simp only [Tryd.f5, aI, ii, bb, encI, works_ev, doCall_cx0, Plain_ev, ha, hb, refMay_ev, ne_self, ne_ins, ins_eta, EVb, EVc, Int.reduceEq, Int.reduceToNat, Int.reduceLE, Int.reduceLT, Int.reduceAdd, Int.reduceMul, Int.reduceSub, Int.reduceNeg, Nat.reduceAdd, Nat.reduceSub, Nat.reduceMul, Nat.reduceLT, Nat.reduceBEq, Nat.reduceEqDiff, Nat.reduceLeDiff, FACTS, TYPES]
      rw [evalCode_drawn Tryd.f5 5 dr5_5]; rotate_left; rfl
      simp only [refMay_ev, ha, hb, hM, ne_self, ne_ins, ins_eta, EVd, Nat.reducePow, Nat.reduceDiv, Nat.reduceMod, EVb, EVc, Int.reduceEq, Int.reduceToNat, Int.reduceLE, Int.reduceLT, Int.reduceAdd, Int.reduceMul, Int.reduceSub, Int.reduceNeg, Nat.reduceAdd, Nat.reduceSub, Nat.reduceMul, Nat.reduceLT, Nat.reduceBEq, Nat.reduceEqDiff, Nat.reduceLeDiff, FACTS, TYPES]
end Go.Proofs.F13
