/- A part of the proof: what functions of the program answer, of whatever arguments, reckoned with letters by the interpreter's equations. Its conditions stand in each theorem. -/
import Derived.Test.YtbmmjfdofbdfeaaDoorF13M3

namespace Go.Proofs.F13
set_option linter.unusedVariables false
set_option linter.unusedSimpArgs false
set_option linter.unusedSectionVars false
open Go.Ab
theorem loop6_11 (kf : Nat) (hkf : 15 ≤ kf) (b : Code) (hb : loopOf Tryd.f6 11 = b) (qs : List Ins) (nl : Bool) (cap : Option Nat) (hlen : qs.length < 1000000) (ins regs : Int) (ov : IV) (o0 o1 : AObj) (ho1 : o1 = .cells 25 [ii ins, ii regs, sC qs nl cap, .c ov]) (hu : AObj.under 2 o0 = true ∧ AObj.under 2 o1 = true)
    (hmay : ∀ i ∈ qs, mayM i 128 = true) (hgood : ∀ (pre rest : List Ins) (i : Ins), qs = pre ++ i :: rest → plainM i = i ∧ nothing i = false ∧ ∀ pre' y, pre = pre' ++ [y] → meltM y i = none) :
    ∀ (rest pre : List Ins) (k : Nat) (l : Ass) (H : Heap) (z : Option Out), loopL Tryd.prog tab kf 6 b 126 [1, 3, 37, 38, 39] 2 k l H = z → qs = pre ++ rest → rest.length < k → asc l 1 = .ptr 0 0 → asc l 3 = .ptr 1 0 → asc l 37 = sC qs nl cap → asc l 38 = ii qs.length → asc l 39 = ii pre.length → H.take 2 = [o0, o1] →
    ∃ l', z = some (.exit 0 (fr 126 l') [o0, o1]) ∧ asc l' 1 = .ptr 0 0 ∧ asc l' 3 = .ptr 1 0 := by
  have hev : ∀ F H, evalCode Tryd.prog (cxF Tryd.prog (mkHints tab) kf 6) b F H = evalCode Tryd.prog (cxF Tryd.prog (mkHints tab) kf 6) (loopOf Tryd.f6 11) F H := fun _ _ => by rw [hb]
  obtain ⟨kf, rfl⟩ : ∃ j, kf = j + 15 := ⟨kf - 15, by omega⟩
  intro rest
  induction rest with
  | nil =>
    intro pre k l H z hz he hk h1 h3 h37 h38 h39 hH
    obtain ⟨k, rfl⟩ : ∃ j, k = j + 1 := ⟨k - 1, by simp at hk; omega⟩
    have hc : ¬ ((pre.length : Int) < qs.length) := by rw [he]; simp
    have ht : trim 2 (fr 126 (keep l [1, 3, 37, 38, 39])) H = [o0, o1] := by
      rw [trim_fr (by simp only [h1, h3, h37, h38, h39, EVb, condO_ite, Int.reduceEq, Int.reduceToNat, Int.reduceLE, Int.reduceLT, Int.reduceAdd, Int.reduceMul, Int.reduceSub, Int.reduceNeg, Nat.reduceAdd, Nat.reduceSub, Nat.reduceMul, Nat.reduceLT, Nat.reduceBEq, Nat.reduceEqDiff, Nat.reduceLeDiff]) (by rw [hH]; simp only [hu.1, hu.2, EVb, condO_ite, Int.reduceEq, Int.reduceToNat, Int.reduceLE, Int.reduceLT, Int.reduceAdd, Int.reduceMul, Int.reduceSub, Int.reduceNeg, Nat.reduceAdd, Nat.reduceSub, Nat.reduceMul, Nat.reduceLT, Nat.reduceBEq, Nat.reduceEqDiff, Nat.reduceLeDiff]), hH]
    simp only [loopL_succ, hev, ht] at hz
    simp only [h1, h3, h37, h38, h39, hc, loopL_succ, loopOf, findLoop, firstRegion, Option.some_or, Option.none_or, Option.getD_some, Option.some.injEq, Tryd.f6, EVb, EVc, Int.reduceEq, Int.reduceToNat, Int.reduceLE, Int.reduceLT, Int.reduceAdd, Int.reduceMul, Int.reduceSub, Int.reduceNeg, Nat.reduceAdd, Nat.reduceSub, Nat.reduceMul, Nat.reduceLT, Nat.reduceBEq, Nat.reduceEqDiff, Nat.reduceLeDiff, FACTS] at hz
    exact ⟨_, hz.symm, (by rfl), (by rfl)⟩
  | cons i rest ih =>
    intro pre k l H z hz he hk h1 h3 h37 h38 h39 hH
    obtain ⟨k, rfl⟩ : ∃ j, k = j + 1 := ⟨k - 1, by simp at hk; omega⟩
    have hc : ((pre.length : Int) < qs.length) := by rw [he]; simp; omega
    have hc0 : (0 : Int) ≤ pre.length := by omega
    have hx := encCode_at pre rest i
    rw [← he, takeCells_eq] at hx
    have hpl : pre.length < 1000000 := by rw [he] at hlen; simp at hlen; omega
    have hw : IntKind.wrap .i64 ((pre.length : Int) + 1) = ((pre ++ [i]).length : Int) := by rw [wrap64 (by omega) (by omega)]; simp
    have ht : trim 2 (fr 126 (keep l [1, 3, 37, 38, 39])) H = [o0, o1] := by
      rw [trim_fr (by simp only [h1, h3, h37, h38, h39, EVb, condO_ite, Int.reduceEq, Int.reduceToNat, Int.reduceLE, Int.reduceLT, Int.reduceAdd, Int.reduceMul, Int.reduceSub, Int.reduceNeg, Nat.reduceAdd, Nat.reduceSub, Nat.reduceMul, Nat.reduceLT, Nat.reduceBEq, Nat.reduceEqDiff, Nat.reduceLeDiff]) (by rw [hH]; simp only [hu.1, hu.2, EVb, condO_ite, Int.reduceEq, Int.reduceToNat, Int.reduceLE, Int.reduceLT, Int.reduceAdd, Int.reduceMul, Int.reduceSub, Int.reduceNeg, Nat.reduceAdd, Nat.reduceSub, Nat.reduceMul, Nat.reduceLT, Nat.reduceBEq, Nat.reduceEqDiff, Nat.reduceLeDiff]), hH]
    obtain ⟨M, hMl⟩ : ∃ M, M = (pre ++ [i]).length := ⟨_, rfl⟩
    rw [← hMl] at hw
    obtain ⟨hp, hn, hmelt⟩ := hgood pre rest i he
    have hi := hmay i (by rw [he]; simp)
    obtain ⟨o, t, a, b', c⟩ := i
    have hP := Plain_ev kf o t a b' c
    rw [if_pos hi, if_pos hi, hp] at hP
    simp only [run, aI, encI, ii, bb, ne_eq, not_true, decide_false] at hP
    have hto : o = 1 → ¬ t = a := fun h1 h2 => by simp [nothing, h1, h2] at hn
    simp only [loopL_succ, hev, ht, ho1] at hz
    have fin : ∀ (k : Nat) (l : Ass) (H : Heap), loopL Tryd.prog tab (kf + 15) 6 b 126 [1, 3, 37, 38, 39] 2 k l H = z → rest.length < k → asc l 1 = .ptr 0 0 → asc l 3 = .ptr 1 0 → asc l 37 = sC qs nl cap → asc l 38 = ii qs.length → asc l 39 = ii M → H.take 2 = [o0, o1] →
        ∃ l', z = some (.exit 0 (fr 126 l') [o0, o1]) ∧ asc l' 1 = .ptr 0 0 ∧ asc l' 3 = .ptr 1 0 :=
      fun k l H hz hk g1 g3 g37 g38 g39 hH => ih (pre ++ [(⟨o, t, a, b', c⟩ : Ins)]) k l H z hz (by rw [he]; simp) hk g1 g3 g37 g38 (by rw [g39, hMl]) hH
    have hkk : rest.length < k := by simp at hk; omega
    by_cases hq : (0 : Int) < (pre.length : Int)
    · obtain ⟨pre', y, rfl⟩ : ∃ pre' y, pre = pre' ++ [y] := by
        rcases List.eq_nil_or_concat pre with rfl | ⟨p, y, rfl⟩
        · simp at hq
        · exact ⟨p, y, by simp⟩
      have hy : mayM y 128 = true := hmay y (by rw [he]; simp)
      have hm := hmelt pre' y rfl
      have hyp := (hgood pre' (⟨o, t, a, b', c⟩ :: rest) y (by rw [he]; simp)).1
      have hM := Melt_ev kf y.op y.to y.a y.b y.c o t a b' c
      rw [show MeltM ⟨y.op, y.to, y.a, y.b, y.c⟩ ⟨o, t, a, b', c⟩ = none by rw [MeltM, if_pos ⟨hy, hi, hyp, hp⟩]; exact hm] at hM
      simp only [run, aI, ii, duo, encI, bb, zI] at hM
      have hxy := encCode_at pre' (⟨o, t, a, b', c⟩ :: rest) y
      rw [show pre' ++ y :: ⟨o, t, a, b', c⟩ :: rest = qs by rw [he]; simp, takeCells_eq] at hxy
      obtain ⟨N, hN⟩ : ∃ N, N = (pre' ++ [y]).length := ⟨_, rfl⟩
      have hN1 : N = pre'.length + 1 := by rw [hN]; simp
      rw [← hN] at hc hc0 hq hx h39 hw
      have hd1 : (0 : Int) ≤ pre'.length := by omega
      have hd2 : (pre'.length : Int) < qs.length := by omega
      have hw1 : IntKind.wrap .i64 ((N : Int) - 1) = (pre'.length : Int) := by rw [wrap64 (by omega) (by omega)]; omega
      by_cases hop : o = 1 <;>
      · try simp only [hop] at hP hM
        simp only [h1, h3, h37, h38, h39, hc, hc0, hx, hop, hto, enc1, hP, ne_self, hq, loopL_succ, loopOf, findLoop, firstRegion, Option.some_or, Option.none_or, Option.getD_some, Option.some.injEq, Tryd.f6, EVb, EVc, Int.reduceEq, Int.reduceToNat, Int.reduceLE, Int.reduceLT, Int.reduceAdd, Int.reduceMul, Int.reduceSub, Int.reduceNeg, Nat.reduceAdd, Nat.reduceSub, Nat.reduceMul, Nat.reduceLT, Nat.reduceBEq, Nat.reduceEqDiff, Nat.reduceLeDiff, FACTS, TYPES] at hz
        rw [evalCode_drawn Tryd.f6 17 dr6_17] at hz; rotate_left; rfl
        simp only [hop, hto, enc1, hM, hw, hw1, hd1, hd2, hxy, EVd, Nat.reducePow, Nat.reduceDiv, Nat.reduceMod, EVb, EVc, Int.reduceEq, Int.reduceToNat, Int.reduceLE, Int.reduceLT, Int.reduceAdd, Int.reduceMul, Int.reduceSub, Int.reduceNeg, Nat.reduceAdd, Nat.reduceSub, Nat.reduceMul, Nat.reduceLT, Nat.reduceBEq, Nat.reduceEqDiff, Nat.reduceLeDiff, FACTS, TYPES] at hz
        exact fin _ _ _ hz hkk (by rfl) (by rfl) (by rfl) (by rfl) (by rfl) (by rw [ho1]; rfl)
    · by_cases hop : o = 1 <;>
      · try simp only [hop] at hP
        simp only [h1, h3, h37, h38, h39, hc, hc0, hx, hop, hto, enc1, hP, ne_self, hq, hw, loopL_succ, loopOf, findLoop, firstRegion, Option.some_or, Option.none_or, Option.getD_some, Option.some.injEq, Tryd.f6, EVb, EVc, Int.reduceEq, Int.reduceToNat, Int.reduceLE, Int.reduceLT, Int.reduceAdd, Int.reduceMul, Int.reduceSub, Int.reduceNeg, Nat.reduceAdd, Nat.reduceSub, Nat.reduceMul, Nat.reduceLT, Nat.reduceBEq, Nat.reduceEqDiff, Nat.reduceLeDiff, FACTS, TYPES] at hz
        exact fin _ _ _ hz hkk (by rfl) (by rfl) (by rfl) (by rfl) (by rfl) (by rw [ho1]; rfl)
end Go.Proofs.F13
namespace Go.Proofs.F13
set_option linter.unusedVariables false
set_option linter.unusedSimpArgs false
set_option linter.unusedSectionVars false
open Go.Ab
theorem ans_tup_agg4 {a b c d e : IV} {H : Heap} : ans (some (.tup [.agg [.c a, .c b, .c c, .c d], .c e], H)) = some (.tup [.agg [.c a, .c b, .c c, .c d], .c e]) := rfl
theorem FoldAgain_ev (k : Nat) (p : Pg) (nl : Bool) (cap : Option Nat) (nl2 : Bool) (cap2 : Option Nat) (hk : p.outs.length + p.code.length + 100 ≤ k) (hn : nl2 = true → p.outs = []) : run (k+1) 6 [aP p nl cap nl2 cap2] = some (bb true) := by
  obtain ⟨k, rfl⟩ : ∃ j, k = j + 60 := ⟨k - 60, by omega⟩
  have hlong := long_ev (k + 59) p nl cap nl2 cap2
  simp only [run, aP, ii, bb] at hlong
  rw [run, ev6]
  by_cases hl : 300 < p.code.length ∧ p.code.length ≤ 16384
  · simp only [Tryd.f6, aP, ii, bb, works_ev, doCall_cx0, hlong, hl, EVb, EVc, Int.reduceEq, Int.reduceToNat, Int.reduceLE, Int.reduceLT, Int.reduceAdd, Int.reduceMul, Int.reduceSub, Int.reduceNeg, Nat.reduceAdd, Nat.reduceSub, Nat.reduceMul, Nat.reduceLT, Nat.reduceBEq, Nat.reduceEqDiff, Nat.reduceLeDiff, FACTS, TYPES]
  · cases hr : rightM p with
    | false =>
      have hP := pass_bad (k + 59) p nl cap nl2 cap2 (by omega) hr
      simp only [run, aP, ii] at hP
      simp only [Tryd.f6, aP, ii, bb, works_ev, doCall_cx0, hlong, hl, hP, EVb, EVc, Int.reduceEq, Int.reduceToNat, Int.reduceLE, Int.reduceLT, Int.reduceAdd, Int.reduceMul, Int.reduceSub, Int.reduceNeg, Nat.reduceAdd, Nat.reduceSub, Nat.reduceMul, Nat.reduceLT, Nat.reduceBEq, Nat.reduceEqDiff, Nat.reduceLeDiff, FACTS, TYPES]
    | true =>
      obtain ⟨nl3, cap3, _, hP⟩ := pass_good (k + 59) p nl cap nl2 cap2 (by omega) hr hn
      have hlen := passC_len p.code
      have hr2 := passM_right hr
      obtain ⟨nl4, cap4, _, hP2⟩ := pass_good (k + 59) (passM p) nl3 cap3 false none (by show p.outs.length + (passC p.code).length + 20 ≤ _; omega) hr2 (by simp)
      obtain ⟨n0, n1, n4, hc1⟩ := count_ev (k + 59) p nl cap nl2 cap2 (by omega) hr
      obtain ⟨m0, m1, m4, hc2⟩ := count_ev (k + 59) (passM p) nl3 cap3 false none (by show p.outs.length + (passC p.code).length + 20 ≤ _; omega) hr2
      have hpp : passM (passM p) = passM p := by simp only [passM, passC_passC]
      rw [hpp] at hP2
      have hr' := hr
      simp only [rightM, Bool.and_eq_true] at hr'
      obtain ⟨⟨hr1, _⟩, hr3⟩ := hr'
      simp only [headM, decide_eq_true_eq] at hr1
      have hs := same22_ev (k + 59) (passM p) nl4 false nl3 false cap4 none cap3 none (by show (passC p.code).length < _; omega) (by show p.outs.length < _; omega) (by show (passC p.code).length + p.outs.length + 10 ≤ _; omega)
      have h5 := passC_cnt (q := 5) (by simp) p.code
      have h6 := passC_cnt (q := 6) (by simp) p.code
      have hg : ¬ ((p.code.length : Int) < ((passC p.code).length : Int)) := by omega
      have h5' : ((cnt 5 (passC p.code) : Nat) : Int) ≤ (cnt 5 p.code : Nat) := by omega
      have h6' : ((cnt 6 (passC p.code) : Nat) : Int) ≤ (cnt 6 p.code : Nat) := by omega
      simp only [run, aP, ii, bb, passM] at hP hP2 hc1 hc2 hs
      simp only [Tryd.f6, aP, ii, bb, works_ev, doCall_cx0, hlong, hl, hP, hg, EVb, EVc, Int.reduceEq, Int.reduceToNat, Int.reduceLE, Int.reduceLT, Int.reduceAdd, Int.reduceMul, Int.reduceSub, Int.reduceNeg, Nat.reduceAdd, Nat.reduceSub, Nat.reduceMul, Nat.reduceLT, Nat.reduceBEq, Nat.reduceEqDiff, Nat.reduceLeDiff, FACTS, TYPES]
      rw [evalCode_loopOf Tryd.f6 11 lp6_11]; rotate_left; rfl; rfl
      generalize hz : loopL _ _ _ _ _ _ _ _ _ _ _ = z
      obtain ⟨l', rfl, e1, e3⟩ := loop6_11 (k + 60) (by omega) _ rfl (passC p.code) nl3 cap3 (by omega) p.ins p.regs (.slice (encInts p.outs) p.outs.length false none) (.cells 25 [ii p.ins, ii p.regs, .c (.slice (encCode p.code) p.code.length nl cap), .c (.slice (encInts p.outs) p.outs.length nl2 cap2)]) _ rfl ⟨by rfl, by rfl⟩
        (fun i hi => may_mono (passR_mem p.code [] (fun j hj => List.all_eq_true.1 hr3 j hj) (by simp) i (by simpa [passC] using hi)) hr1.2.2.1)
        (fun pre rest i h => good_at _ (pass_goodR p.code [] trivial) pre rest i h) (passC p.code) [] _ _ _ z hz rfl (by omega) (by rfl) (by rfl) (by rfl) (by rfl) (by rfl) (by rfl)
      simp only [e1, e3, hP2, hc1, hc2, hs, h5', h6', EVb, EVc, Int.reduceEq, Int.reduceToNat, Int.reduceLE, Int.reduceLT, Int.reduceAdd, Int.reduceMul, Int.reduceSub, Int.reduceNeg, Nat.reduceAdd, Nat.reduceSub, Nat.reduceMul, Nat.reduceLT, Nat.reduceBEq, Nat.reduceEqDiff, Nat.reduceLeDiff, FACTS, TYPES]
end Go.Proofs.F13
namespace Go.Proofs.F13
set_option linter.unusedVariables false
set_option linter.unusedSimpArgs false
set_option linter.unusedSectionVars false
open Go.Ab
abbrev H0 (ins regs : Int) (code : List Ins) (outs : List Int) (nl nl2 : Bool) (cap cap2 : Option Nat) : Heap := [.cells 25 [ii ins, ii regs, sC code nl cap, sI outs nl2 cap2]]
theorem loop31_4 (kf : Nat) (b : Code) (hb : loopOf Tryd.f31 4 = b) (ins regs : Int) (code : List Ins) (outs : List Int) (nl nl2 : Bool) (cap cap2 : Option Nat) (hlen : outs.length < 1000000) :
    ∀ (rest pre : List Int) (k : Nat) (l : Ass) (z : Option Out), loopL Tryd.prog tab kf 31 b 79 [1, 4] 1 k l (H0 ins regs code outs nl nl2 cap cap2) = z → outs = pre ++ rest → rest.length < k → asc l 1 = .ptr 0 0 → asc l 4 = ii pre.length →
    ∃ l', (rest.all (fun r => decide (0 ≤ r ∧ r < regs)) = true → z = some (.exit 0 (fr 79 l') (H0 ins regs code outs nl nl2 cap cap2)) ∧ asc l' 1 = .ptr 0 0) ∧
      (rest.all (fun r => decide (0 ≤ r ∧ r < regs)) = false → z = some (.ret (fr 79 l') (H0 ins regs code outs nl nl2 cap cap2)) ∧ asc l' 3 = bb true ∧ ∃ n, asc l' 2 = ii n) := by
  have hev : ∀ F H, evalCode Tryd.prog (cxF Tryd.prog (mkHints tab) kf 31) b F H = evalCode Tryd.prog (cxF Tryd.prog (mkHints tab) kf 31) (loopOf Tryd.f31 4) F H := fun _ _ => by rw [hb]
  intro rest
  induction rest with
  | nil =>
    intro pre k l z hz he hk h1 h4
    obtain ⟨k, rfl⟩ : ∃ j, k = j + 1 := ⟨k - 1, by simp at hk; omega⟩
    have hc : ¬ ((pre.length : Int) < outs.length) := by rw [he]; simp
    simp only [loopL_succ, hev] at hz
    simp only [h1, h4, hc, loopL_succ, loopOf, findLoop, firstRegion, Option.some_or, Option.none_or, Option.getD_some, Option.some.injEq, Tryd.f31, EVb, EVc, Int.reduceEq, Int.reduceToNat, Int.reduceLE, Int.reduceLT, Int.reduceAdd, Int.reduceMul, Int.reduceSub, Int.reduceNeg, Nat.reduceAdd, Nat.reduceSub, Nat.reduceMul, Nat.reduceLT, Nat.reduceBEq, Nat.reduceEqDiff, Nat.reduceLeDiff, FACTS] at hz
    exact ⟨_, fun _ => ⟨hz.symm, (by rfl)⟩, fun h => (by simp at h)⟩
  | cons r rest ih =>
    intro pre k l z hz he hk h1 h4
    obtain ⟨k, rfl⟩ : ∃ j, k = j + 1 := ⟨k - 1, by simp at hk; omega⟩
    have hc : ((pre.length : Int) < outs.length) := by rw [he]; simp; omega
    have hc0 : (0 : Int) ≤ pre.length := by omega
    have hx := encInts_at pre rest r
    rw [← he] at hx
    have hpl : pre.length < 1000000 := by rw [he] at hlen; simp at hlen; omega
    have hw : IntKind.wrap .i64 ((pre.length : Int) + 1) = ((pre ++ [r]).length : Int) := by rw [wrap64 (by omega) (by omega)]; simp
    simp only [loopL_succ, hev] at hz
    simp only [h1, h4, hc, hc0, hx, loopL_succ, loopOf, findLoop, firstRegion, Option.some_or, Option.none_or, Option.getD_some, Option.some.injEq, Tryd.f31, EVb, EVc, Int.reduceEq, Int.reduceToNat, Int.reduceLE, Int.reduceLT, Int.reduceAdd, Int.reduceMul, Int.reduceSub, Int.reduceNeg, Nat.reduceAdd, Nat.reduceSub, Nat.reduceMul, Nat.reduceLT, Nat.reduceBEq, Nat.reduceEqDiff, Nat.reduceLeDiff, FACTS, TYPES] at hz
    rw [evalCode_drawn Tryd.f31 6 dr31_6] at hz; rotate_left; rfl
    by_cases hr : r < 0
    · have hd : decide (0 ≤ r ∧ r < regs) = false := by simp; omega
      simp only [hr, hc, hc0, hx, EVd, Nat.reducePow, Nat.reduceDiv, Nat.reduceMod, EVb, EVc, Int.reduceEq, Int.reduceToNat, Int.reduceLE, Int.reduceLT, Int.reduceAdd, Int.reduceMul, Int.reduceSub, Int.reduceNeg, Nat.reduceAdd, Nat.reduceSub, Nat.reduceMul, Nat.reduceLT, Nat.reduceBEq, Nat.reduceEqDiff, Nat.reduceLeDiff, FACTS, TYPES] at hz
      exact ⟨_, fun h => (by rw [List.all_cons, hd, Bool.false_and] at h; cases h), fun _ => ⟨hz.symm, (by rfl), ⟨_, rfl⟩⟩⟩
    · by_cases hr2 : regs ≤ r
      · have hd : decide (0 ≤ r ∧ r < regs) = false := by simp; omega
        simp only [hr, hr2, hc, hc0, hx, EVd, Nat.reducePow, Nat.reduceDiv, Nat.reduceMod, EVb, EVc, Int.reduceEq, Int.reduceToNat, Int.reduceLE, Int.reduceLT, Int.reduceAdd, Int.reduceMul, Int.reduceSub, Int.reduceNeg, Nat.reduceAdd, Nat.reduceSub, Nat.reduceMul, Nat.reduceLT, Nat.reduceBEq, Nat.reduceEqDiff, Nat.reduceLeDiff, FACTS, TYPES] at hz
        exact ⟨_, fun h => (by rw [List.all_cons, hd, Bool.false_and] at h; cases h), fun _ => ⟨hz.symm, (by rfl), ⟨_, rfl⟩⟩⟩
      · have hd : decide (0 ≤ r ∧ r < regs) = true := by simp; omega
        simp only [hr, hr2, hc, hc0, hx, hw, EVd, Nat.reducePow, Nat.reduceDiv, Nat.reduceMod, EVb, EVc, Int.reduceEq, Int.reduceToNat, Int.reduceLE, Int.reduceLT, Int.reduceAdd, Int.reduceMul, Int.reduceSub, Int.reduceNeg, Nat.reduceAdd, Nat.reduceSub, Nat.reduceMul, Nat.reduceLT, Nat.reduceBEq, Nat.reduceEqDiff, Nat.reduceLeDiff, FACTS, TYPES] at hz
        obtain ⟨l', g1, g2⟩ := ih (pre ++ [r]) k _ z hz (by rw [he]; simp) (by simp at hk; omega) (by rfl) (by rfl)
        exact ⟨l', fun h => g1 (by rw [List.all_cons, hd, Bool.true_and] at h; exact h), fun h => g2 (by rw [List.all_cons, hd, Bool.true_and] at h; exact h)⟩
theorem loop31_9 (kf : Nat) (hkf : 1 ≤ kf) (b : Code) (hb : loopOf Tryd.f31 9 = b) (ins regs : Int) (code : List Ins) (outs : List Int) (nl nl2 : Bool) (cap cap2 : Option Nat) (hlen : code.length < 1000000) :
    ∀ (rest pre : List Ins) (k : Nat) (l : Ass) (z : Option Out), loopL Tryd.prog tab kf 31 b 79 [1, 5] 1 k l (H0 ins regs code outs nl nl2 cap cap2) = z → code = pre ++ rest → rest.length < k → asc l 1 = .ptr 0 0 → asc l 5 = ii pre.length →
    ∃ l', (rest.all (fun i => mayM i regs) = true → z = some (.exit 2 (fr 79 l') (H0 ins regs code outs nl nl2 cap cap2)) ∧ asc l' 1 = .ptr 0 0) ∧
      (rest.all (fun i => mayM i regs) = false → z = some (.ret (fr 79 l') (H0 ins regs code outs nl nl2 cap cap2)) ∧ asc l' 3 = bb true ∧ ∃ n, asc l' 2 = ii n) := by
  have hev : ∀ F H, evalCode Tryd.prog (cxF Tryd.prog (mkHints tab) kf 31) b F H = evalCode Tryd.prog (cxF Tryd.prog (mkHints tab) kf 31) (loopOf Tryd.f31 9) F H := fun _ _ => by rw [hb]
  obtain ⟨kf, rfl⟩ : ∃ j, kf = j + 1 := ⟨kf - 1, by omega⟩
  intro rest
  induction rest with
  | nil =>
    intro pre k l z hz he hk h1 h4
    obtain ⟨k, rfl⟩ : ∃ j, k = j + 1 := ⟨k - 1, by simp at hk; omega⟩
    have hc : ¬ ((pre.length : Int) < code.length) := by rw [he]; simp
    simp only [loopL_succ, hev] at hz
    simp only [h1, h4, hc, loopL_succ, loopOf, findLoop, firstRegion, Option.some_or, Option.none_or, Option.getD_some, Option.some.injEq, Tryd.f31, EVb, EVc, Int.reduceEq, Int.reduceToNat, Int.reduceLE, Int.reduceLT, Int.reduceAdd, Int.reduceMul, Int.reduceSub, Int.reduceNeg, Nat.reduceAdd, Nat.reduceSub, Nat.reduceMul, Nat.reduceLT, Nat.reduceBEq, Nat.reduceEqDiff, Nat.reduceLeDiff, FACTS] at hz
    exact ⟨_, fun _ => ⟨hz.symm, (by rfl)⟩, fun h => (by simp at h)⟩
  | cons r rest ih =>
    intro pre k l z hz he hk h1 h4
    obtain ⟨k, rfl⟩ : ∃ j, k = j + 1 := ⟨k - 1, by simp at hk; omega⟩
    have hc : ((pre.length : Int) < code.length) := by rw [he]; simp; omega
    have hc0 : (0 : Int) ≤ pre.length := by omega
    have hx := encCode_at pre rest r
    rw [← he, takeCells_eq] at hx
    have hpl : pre.length < 1000000 := by rw [he] at hlen; simp at hlen; omega
    have hw : IntKind.wrap .i64 ((pre.length : Int) + 1) = ((pre ++ [r]).length : Int) := by rw [wrap64 (by omega) (by omega)]; simp
    obtain ⟨M, hM⟩ : ∃ M, M = (pre ++ [r]).length := ⟨_, rfl⟩
    rw [← hM] at hw
    simp only [loopL_succ, hev] at hz
    simp only [h1, h4, hc, hc0, hx, loopL_succ, loopOf, findLoop, firstRegion, Option.some_or, Option.none_or, Option.getD_some, Option.some.injEq, Tryd.f31, EVb, EVc, Int.reduceEq, Int.reduceToNat, Int.reduceLE, Int.reduceLT, Int.reduceAdd, Int.reduceMul, Int.reduceSub, Int.reduceNeg, Nat.reduceAdd, Nat.reduceSub, Nat.reduceMul, Nat.reduceLT, Nat.reduceBEq, Nat.reduceEqDiff, Nat.reduceLeDiff, FACTS, TYPES] at hz
    rw [evalCode_drawn Tryd.f31 11 dr31_11] at hz; rotate_left; rfl
    obtain ⟨o, t, a, b', c⟩ := r
    have hmay := refMay_ev kf o t a b' c regs
    simp only [run, aI, ii, bb] at hmay
    cases hd : mayM ⟨o, t, a, b', c⟩ regs with
    | false =>
      rw [hd] at hmay
      simp only [hc, hc0, hx, enc1, hmay, EVd, Nat.reducePow, Nat.reduceDiv, Nat.reduceMod, EVb, EVc, Int.reduceEq, Int.reduceToNat, Int.reduceLE, Int.reduceLT, Int.reduceAdd, Int.reduceMul, Int.reduceSub, Int.reduceNeg, Nat.reduceAdd, Nat.reduceSub, Nat.reduceMul, Nat.reduceLT, Nat.reduceBEq, Nat.reduceEqDiff, Nat.reduceLeDiff, FACTS, TYPES] at hz
      exact ⟨_, fun h => (by rw [List.all_cons, hd, Bool.false_and] at h; cases h), fun _ => ⟨hz.symm, (by rfl), ⟨_, rfl⟩⟩⟩
    | true =>
      rw [hd] at hmay
      simp only [hc, hc0, hx, hw, enc1, hmay, EVd, Nat.reducePow, Nat.reduceDiv, Nat.reduceMod, EVb, EVc, Int.reduceEq, Int.reduceToNat, Int.reduceLE, Int.reduceLT, Int.reduceAdd, Int.reduceMul, Int.reduceSub, Int.reduceNeg, Nat.reduceAdd, Nat.reduceSub, Nat.reduceMul, Nat.reduceLT, Nat.reduceBEq, Nat.reduceEqDiff, Nat.reduceLeDiff, FACTS, TYPES] at hz
      obtain ⟨l', g1, g2⟩ := ih (pre ++ [⟨o, t, a, b', c⟩]) k _ z hz (by rw [he]; simp) (by simp at hk; omega) (by rfl) (by rw [← hM]; rfl)
      exact ⟨l', fun h => g1 (by rw [List.all_cons, hd, Bool.true_and] at h; exact h), fun h => g2 (by rw [List.all_cons, hd, Bool.true_and] at h; exact h)⟩
theorem check31_ev (k : Nat) (p : Pg) (nl : Bool) (cap : Option Nat) (nl2 : Bool) (cap2 : Option Nat) (hk : p.outs.length + p.code.length + 10 ≤ k) :
    ∃ n, run (k+1) 31 [aP p nl cap nl2 cap2] = some (.tup [ii n, bb (!rightM p)]) := by
  obtain ⟨ins, regs, code, outs⟩ := p
  rw [run, ev31]
  simp only [Tryd.f31, aP, ii, bb, EVb, EVc, Int.reduceEq, Int.reduceToNat, Int.reduceLE, Int.reduceLT, Int.reduceAdd, Int.reduceMul, Int.reduceSub, Int.reduceNeg, Nat.reduceAdd, Nat.reduceSub, Nat.reduceMul, Nat.reduceLT, Nat.reduceBEq, Nat.reduceEqDiff, Nat.reduceLeDiff, FACTS, TYPES]
  cases hm : headM ⟨ins, regs, code, outs⟩ with
  | false =>
    refine ⟨-1, ?_⟩
    have hr : rightM ⟨ins, regs, code, outs⟩ = false := by simp [rightM, hm]
    rw [hr]
    simp only [headM, decide_eq_false_iff_not] at hm
    repeat' (first
    | (rw [condO_dec]; split <;> simp only [*, EVb, EVc, Int.reduceEq, Int.reduceToNat, Int.reduceLE, Int.reduceLT, Int.reduceAdd, Int.reduceMul, Int.reduceSub, Int.reduceNeg, Nat.reduceAdd, Nat.reduceSub, Nat.reduceMul, Nat.reduceLT, Nat.reduceBEq, Nat.reduceEqDiff, Nat.reduceLeDiff, FACTS, TYPES])
    | (rw [condO_ite]; split <;> simp only [*, EVb, EVc, Int.reduceEq, Int.reduceToNat, Int.reduceLE, Int.reduceLT, Int.reduceAdd, Int.reduceMul, Int.reduceSub, Int.reduceNeg, Nat.reduceAdd, Nat.reduceSub, Nat.reduceMul, Nat.reduceLT, Nat.reduceBEq, Nat.reduceEqDiff, Nat.reduceLeDiff, FACTS, TYPES])
    | (split <;> simp only [*, EVb, EVc, Int.reduceEq, Int.reduceToNat, Int.reduceLE, Int.reduceLT, Int.reduceAdd, Int.reduceMul, Int.reduceSub, Int.reduceNeg, Nat.reduceAdd, Nat.reduceSub, Nat.reduceMul, Nat.reduceLT, Nat.reduceBEq, Nat.reduceEqDiff, Nat.reduceLeDiff, FACTS, TYPES]))
    all_goals first
      | (simp; done)
      | (exfalso; omega)
  | true =>
    simp only [headM, decide_eq_true_eq] at hm
    simp only at hk
    have q1 : ¬ ins < 1 := by omega
    have q2 : ¬ regs < ins := by omega
    have q3 : ¬ 128 < regs := by omega
    have q4 : ¬ (16384 : Int) < code.length := by omega
    have q5 : ¬ (outs.length : Int) < 1 := by omega
    have q6 : ¬ (128 : Int) < outs.length := by omega
    simp only [q1, q2, q3, q4, q5, q6, EVb, EVc, Int.reduceEq, Int.reduceToNat, Int.reduceLE, Int.reduceLT, Int.reduceAdd, Int.reduceMul, Int.reduceSub, Int.reduceNeg, Nat.reduceAdd, Nat.reduceSub, Nat.reduceMul, Nat.reduceLT, Nat.reduceBEq, Nat.reduceEqDiff, Nat.reduceLeDiff, FACTS, TYPES]
    rw [evalCode_loopOf Tryd.f31 4 lp31_4]; rotate_left; rfl; rfl
    generalize hz : loopL _ _ _ _ _ _ _ _ _ _ _ = z
    obtain ⟨l1, g1, g2⟩ := loop31_4 k _ rfl ins regs code outs nl nl2 cap cap2 (by omega) outs [] _ _ z hz rfl (by omega) (by rfl) (by rfl)
    cases ho : outsM ⟨ins, regs, code, outs⟩ with
    | false =>
      obtain ⟨rfl, e3, n, e2⟩ := g2 ho
      refine ⟨n, ?_⟩
      simp only [e2, e3, rightM, ho, EVb, EVc, Int.reduceEq, Int.reduceToNat, Int.reduceLE, Int.reduceLT, Int.reduceAdd, Int.reduceMul, Int.reduceSub, Int.reduceNeg, Nat.reduceAdd, Nat.reduceSub, Nat.reduceMul, Nat.reduceLT, Nat.reduceBEq, Nat.reduceEqDiff, Nat.reduceLeDiff, FACTS, TYPES]
      try simp
    | true =>
      obtain ⟨rfl, e1⟩ := g1 ho
      simp only [e1, EVb, EVc, Int.reduceEq, Int.reduceToNat, Int.reduceLE, Int.reduceLT, Int.reduceAdd, Int.reduceMul, Int.reduceSub, Int.reduceNeg, Nat.reduceAdd, Nat.reduceSub, Nat.reduceMul, Nat.reduceLT, Nat.reduceBEq, Nat.reduceEqDiff, Nat.reduceLeDiff, FACTS, TYPES]
      rw [evalCode_loopOf Tryd.f31 9 lp31_9]; rotate_left; rfl; rfl
      generalize hz2 : loopL _ _ _ _ _ _ _ _ _ _ _ = z2
      obtain ⟨l2, g3, g4⟩ := loop31_9 k (by omega) _ rfl ins regs code outs nl nl2 cap cap2 (by omega) code [] _ _ z2 hz2 rfl (by omega) (by exact e1) (by rfl)
      have hhm : headM ⟨ins, regs, code, outs⟩ = true := by simp only [headM, decide_eq_true_eq]; exact hm
      cases hcd : codeM ⟨ins, regs, code, outs⟩ with
      | false =>
        obtain ⟨rfl, e3, n, e2⟩ := g4 hcd
        refine ⟨n, ?_⟩
        simp only [e2, e3, rightM, ho, hhm, hcd, EVb, EVc, Int.reduceEq, Int.reduceToNat, Int.reduceLE, Int.reduceLT, Int.reduceAdd, Int.reduceMul, Int.reduceSub, Int.reduceNeg, Nat.reduceAdd, Nat.reduceSub, Nat.reduceMul, Nat.reduceLT, Nat.reduceBEq, Nat.reduceEqDiff, Nat.reduceLeDiff, FACTS, TYPES]
        try simp
      | true =>
        obtain ⟨rfl, e1⟩ := g3 hcd
        refine ⟨0, ?_⟩
        simp only [rightM, ho, hhm, hcd, EVb, EVc, Int.reduceEq, Int.reduceToNat, Int.reduceLE, Int.reduceLT, Int.reduceAdd, Int.reduceMul, Int.reduceSub, Int.reduceNeg, Nat.reduceAdd, Nat.reduceSub, Nat.reduceMul, Nat.reduceLT, Nat.reduceBEq, Nat.reduceEqDiff, Nat.reduceLeDiff, FACTS, TYPES]
        try simp
theorem right13_ev (k : Nat) (p : Pg) (nl : Bool) (cap : Option Nat) (nl2 : Bool) (cap2 : Option Nat) (hk : p.outs.length + p.code.length + 12 ≤ k) : run (k+1) 13 [aP p nl cap nl2 cap2] = some (bb (rightM p)) := by
  obtain ⟨k, rfl⟩ : ∃ j, k = j + 1 := ⟨k - 1, by omega⟩
  obtain ⟨n, hc⟩ := check31_ev k p nl cap nl2 cap2 (by omega)
  simp only [run, aP, ii, bb] at hc
  rw [run, ev13]
  simp only [Tryd.f13, aP, ii, bb, hc, EVb, EVc, Int.reduceEq, Int.reduceToNat, Int.reduceLE, Int.reduceLT, Int.reduceAdd, Int.reduceMul, Int.reduceSub, Int.reduceNeg, Nat.reduceAdd, Nat.reduceSub, Nat.reduceMul, Nat.reduceLT, Nat.reduceBEq, Nat.reduceEqDiff, Nat.reduceLeDiff, FACTS, TYPES]
  simp
theorem nothing_ev (k : Nat) (o t a b c : Int) : run (k+1) 32 [aI o t a b c] = some (bb (nothing ⟨o, t, a, b, c⟩)) := by
  rw [run, ev32]
  simp only [Tryd.f32, aI, ii, bb, EVb, EVc, Int.reduceEq, Int.reduceToNat, Int.reduceLE, Int.reduceLT, Int.reduceAdd, Int.reduceMul, Int.reduceSub, Int.reduceNeg, Nat.reduceAdd, Nat.reduceSub, Nat.reduceMul, Nat.reduceLT, Nat.reduceBEq, Nat.reduceEqDiff, Nat.reduceLeDiff, FACTS, TYPES]
  repeat' (first
    | (rw [condO_dec]; split <;> simp only [*, EVb, EVc, Int.reduceEq, Int.reduceToNat, Int.reduceLE, Int.reduceLT, Int.reduceAdd, Int.reduceMul, Int.reduceSub, Int.reduceNeg, Nat.reduceAdd, Nat.reduceSub, Nat.reduceMul, Nat.reduceLT, Nat.reduceBEq, Nat.reduceEqDiff, Nat.reduceLeDiff, FACTS, TYPES])
    | (rw [condO_ite]; split <;> simp only [*, EVb, EVc, Int.reduceEq, Int.reduceToNat, Int.reduceLE, Int.reduceLT, Int.reduceAdd, Int.reduceMul, Int.reduceSub, Int.reduceNeg, Nat.reduceAdd, Nat.reduceSub, Nat.reduceMul, Nat.reduceLT, Nat.reduceBEq, Nat.reduceEqDiff, Nat.reduceLeDiff, FACTS, TYPES])
    | (split <;> simp only [*, EVb, EVc, Int.reduceEq, Int.reduceToNat, Int.reduceLE, Int.reduceLT, Int.reduceAdd, Int.reduceMul, Int.reduceSub, Int.reduceNeg, Nat.reduceAdd, Nat.reduceSub, Nat.reduceMul, Nat.reduceLT, Nat.reduceBEq, Nat.reduceEqDiff, Nat.reduceLeDiff, FACTS, TYPES]))
  all_goals simp [nothing, *]
end Go.Proofs.F13
namespace Go.Proofs.F13
set_option linter.unusedVariables false
set_option linter.unusedSimpArgs false
set_option linter.unusedSectionVars false
open Go.Ab
theorem loop12_4 (kf : Nat) (b : Code) (hb : loopOf Tryd.f12 4 = b) (ins regs : Int) (code : List Ins) (outs : List Int) (nl nl2 nl3 nl4 : Bool) (cap cap2 cap3 cap4 : Option Nat) (hlen : code.length ≤ 4611686018427387904) :
    ∀ (rest pre : List Ins) (k : Nat) (l : Ass) (z : Option Out), loopL Tryd.prog tab kf 12 b 73 [2, 3, 5] 2 k l [.cells 25 [ii ins, ii regs, sC code nl cap, sI outs nl2 cap2], .cells 25 [ii ins, ii regs, sC code nl3 cap3, sI outs nl4 cap4]] = z → code = pre ++ rest → rest.length < k → asc l 2 = .ptr 0 0 → asc l 3 = .ptr 1 0 → asc l 5 = ii pre.length →
    ∃ l', z = some (.exit 0 (fr 73 l') [.cells 25 [ii ins, ii regs, sC code nl cap, sI outs nl2 cap2], .cells 25 [ii ins, ii regs, sC code nl3 cap3, sI outs nl4 cap4]]) ∧ asc l' 2 = .ptr 0 0 ∧ asc l' 3 = .ptr 1 0 := by
  have hev : ∀ F H, evalCode Tryd.prog (cxF Tryd.prog (mkHints tab) kf 12) b F H = evalCode Tryd.prog (cxF Tryd.prog (mkHints tab) kf 12) (loopOf Tryd.f12 4) F H := fun _ _ => by rw [hb]
  intro rest
  induction rest with
  | nil =>
    intro pre k l z hz he hk h2 h3 h5
    obtain ⟨k, rfl⟩ : ∃ j, k = j + 1 := ⟨k - 1, by simp at hk; omega⟩
    have hc : ¬ ((pre.length : Int) < code.length) := by rw [he]; simp
    simp only [loopL_succ, hev] at hz
    simp only [h2, h3, h5, hc, loopL_succ, loopOf, findLoop, firstRegion, Option.some_or, Option.none_or, Option.getD_some, Option.some.injEq, Tryd.f12, EVb, EVc, Int.reduceEq, Int.reduceToNat, Int.reduceLE, Int.reduceLT, Int.reduceAdd, Int.reduceMul, Int.reduceSub, Int.reduceNeg, Nat.reduceAdd, Nat.reduceSub, Nat.reduceMul, Nat.reduceLT, Nat.reduceBEq, Nat.reduceEqDiff, Nat.reduceLeDiff, FACTS] at hz
    exact ⟨_, hz.symm, (by rfl), (by rfl)⟩
  | cons i rest ih =>
    intro pre k l z hz he hk h2 h3 h5
    obtain ⟨k, rfl⟩ : ∃ j, k = j + 1 := ⟨k - 1, by simp at hk; omega⟩
    have hc : ((pre.length : Int) < code.length) := by rw [he]; simp; omega
    have hc0 : (0 : Int) ≤ pre.length := by omega
    have hx := encCode_at pre rest i
    rw [← he, takeCells_eq] at hx
    have hpl : pre.length < 4611686018427387904 := by rw [he] at hlen; simp at hlen; omega
    have hw : IntKind.wrap .i64 ((pre.length : Int) + 1) = ((pre ++ [i]).length : Int) := by rw [wrap64 (by omega) (by omega)]; simp
    simp only [loopL_succ, hev] at hz
    simp only [h2, h3, h5, hc, hc0, hx, loopL_succ, loopOf, findLoop, firstRegion, Option.some_or, Option.none_or, Option.getD_some, Option.some.injEq, Tryd.f12, EVb, EVc, Int.reduceEq, Int.reduceToNat, Int.reduceLE, Int.reduceLT, Int.reduceAdd, Int.reduceMul, Int.reduceSub, Int.reduceNeg, Nat.reduceAdd, Nat.reduceSub, Nat.reduceMul, Nat.reduceLT, Nat.reduceBEq, Nat.reduceEqDiff, Nat.reduceLeDiff, FACTS, TYPES] at hz
    rw [evalCode_drawn Tryd.f12 6 dr12_6] at hz; rotate_left; rfl
    simp only [hc, hc0, hx, hw, enc1, ne_self, EVd, Nat.reducePow, Nat.reduceDiv, Nat.reduceMod, EVb, EVc, Int.reduceEq, Int.reduceToNat, Int.reduceLE, Int.reduceLT, Int.reduceAdd, Int.reduceMul, Int.reduceSub, Int.reduceNeg, Nat.reduceAdd, Nat.reduceSub, Nat.reduceMul, Nat.reduceLT, Nat.reduceBEq, Nat.reduceEqDiff, Nat.reduceLeDiff, FACTS, TYPES] at hz
    exact ih (pre ++ [i]) k _ z hz (by rw [he]; simp) (by simp at hk; omega) (by rfl) (by rfl) (by rfl)
theorem loop12_9 (kf : Nat) (b : Code) (hb : loopOf Tryd.f12 9 = b) (ins regs : Int) (code : List Ins) (outs : List Int) (nl nl2 nl3 nl4 : Bool) (cap cap2 cap3 cap4 : Option Nat) (hlen : outs.length ≤ 4611686018427387904) :
    ∀ (rest pre : List Int) (k : Nat) (l : Ass) (z : Option Out), loopL Tryd.prog tab kf 12 b 73 [2, 3, 6] 2 k l [.cells 25 [ii ins, ii regs, sC code nl cap, sI outs nl2 cap2], .cells 25 [ii ins, ii regs, sC code nl3 cap3, sI outs nl4 cap4]] = z → outs = pre ++ rest → rest.length < k → asc l 2 = .ptr 0 0 → asc l 3 = .ptr 1 0 → asc l 6 = ii pre.length →
    ∃ l' H', z = some (.exit 2 (fr 73 l') H') := by
  have hev : ∀ F H, evalCode Tryd.prog (cxF Tryd.prog (mkHints tab) kf 12) b F H = evalCode Tryd.prog (cxF Tryd.prog (mkHints tab) kf 12) (loopOf Tryd.f12 9) F H := fun _ _ => by rw [hb]
  intro rest
  induction rest with
  | nil =>
    intro pre k l z hz he hk h2 h3 h5
    obtain ⟨k, rfl⟩ : ∃ j, k = j + 1 := ⟨k - 1, by simp at hk; omega⟩
    have hc : ¬ ((pre.length : Int) < outs.length) := by rw [he]; simp
    simp only [loopL_succ, hev] at hz
    simp only [h2, h3, h5, hc, loopL_succ, loopOf, findLoop, firstRegion, Option.some_or, Option.none_or, Option.getD_some, Option.some.injEq, Tryd.f12, EVb, EVc, Int.reduceEq, Int.reduceToNat, Int.reduceLE, Int.reduceLT, Int.reduceAdd, Int.reduceMul, Int.reduceSub, Int.reduceNeg, Nat.reduceAdd, Nat.reduceSub, Nat.reduceMul, Nat.reduceLT, Nat.reduceBEq, Nat.reduceEqDiff, Nat.reduceLeDiff, FACTS] at hz
    exact ⟨_, _, hz.symm⟩
  | cons i rest ih =>
    intro pre k l z hz he hk h2 h3 h5
    obtain ⟨k, rfl⟩ : ∃ j, k = j + 1 := ⟨k - 1, by simp at hk; omega⟩
    have hc : ((pre.length : Int) < outs.length) := by rw [he]; simp; omega
    have hc0 : (0 : Int) ≤ pre.length := by omega
    have hx := encInts_at pre rest i
    rw [← he] at hx
    have hpl : pre.length < 4611686018427387904 := by rw [he] at hlen; simp at hlen; omega
    have hw : IntKind.wrap .i64 ((pre.length : Int) + 1) = ((pre ++ [i]).length : Int) := by rw [wrap64 (by omega) (by omega)]; simp
    simp only [loopL_succ, hev] at hz
    simp only [h2, h3, h5, hc, hc0, hx, loopL_succ, loopOf, findLoop, firstRegion, Option.some_or, Option.none_or, Option.getD_some, Option.some.injEq, Tryd.f12, EVb, EVc, Int.reduceEq, Int.reduceToNat, Int.reduceLE, Int.reduceLT, Int.reduceAdd, Int.reduceMul, Int.reduceSub, Int.reduceNeg, Nat.reduceAdd, Nat.reduceSub, Nat.reduceMul, Nat.reduceLT, Nat.reduceBEq, Nat.reduceEqDiff, Nat.reduceLeDiff, FACTS, TYPES] at hz
    rw [evalCode_drawn Tryd.f12 11 dr12_11] at hz; rotate_left; rfl
    simp only [hc, hc0, hx, hw, EVd, Nat.reducePow, Nat.reduceDiv, Nat.reduceMod, EVb, EVc, Int.reduceEq, Int.reduceToNat, Int.reduceLE, Int.reduceLT, Int.reduceAdd, Int.reduceMul, Int.reduceSub, Int.reduceNeg, Nat.reduceAdd, Nat.reduceSub, Nat.reduceMul, Nat.reduceLT, Nat.reduceBEq, Nat.reduceEqDiff, Nat.reduceLeDiff, FACTS, TYPES] at hz
    exact ih (pre ++ [i]) k _ z hz (by rw [he]; simp) (by simp at hk; omega) (by rfl) (by rfl) (by rfl)
theorem same12_ev (k : Nat) (p : Pg) (a1 a2 b1 b2 : Bool) (c1 c2 d1 d2 : Option Nat) (hlen : p.code.length ≤ 4611686018427387904) (hlen2 : p.outs.length ≤ 4611686018427387904) (hk : p.code.length + p.outs.length + 10 ≤ k) :
    run (k+1) 12 [aP p a1 c1 a2 c2, aP p b1 d1 b2 d2] = some (bb true) := by
  obtain ⟨ins, regs, code, outs⟩ := p
  simp only at hk hlen hlen2
  rw [run, ev12]
  simp only [Tryd.f12, aP, ii, bb, EVb, EVc, Int.reduceEq, Int.reduceToNat, Int.reduceLE, Int.reduceLT, Int.reduceAdd, Int.reduceMul, Int.reduceSub, Int.reduceNeg, Nat.reduceAdd, Nat.reduceSub, Nat.reduceMul, Nat.reduceLT, Nat.reduceBEq, Nat.reduceEqDiff, Nat.reduceLeDiff, FACTS, TYPES]
  rw [evalCode_loopOf Tryd.f12 4 lp12_4]; rotate_left; rfl; rfl
  generalize hz : loopL _ _ _ _ _ _ _ _ _ _ _ = z
  obtain ⟨l', rfl, e2, e3⟩ := loop12_4 k _ rfl ins regs code outs a1 a2 b1 b2 c1 c2 d1 d2 hlen code [] _ _ z hz rfl (by omega) (by rfl) (by rfl) (by rfl)
  simp only [e2, e3, EVb, EVc, Int.reduceEq, Int.reduceToNat, Int.reduceLE, Int.reduceLT, Int.reduceAdd, Int.reduceMul, Int.reduceSub, Int.reduceNeg, Nat.reduceAdd, Nat.reduceSub, Nat.reduceMul, Nat.reduceLT, Nat.reduceBEq, Nat.reduceEqDiff, Nat.reduceLeDiff, FACTS, TYPES]
  rw [evalCode_loopOf Tryd.f12 9 lp12_9]; rotate_left; rfl; rfl
  generalize hz2 : loopL _ _ _ _ _ _ _ _ _ _ _ = z2
  obtain ⟨l2, H2, rfl⟩ := loop12_9 k _ rfl ins regs code outs a1 a2 b1 b2 c1 c2 d1 d2 hlen2 outs [] _ _ z2 hz2 rfl (by omega) (by exact e2) (by exact e3) (by rfl)
  simp only [EVb, EVc, Int.reduceEq, Int.reduceToNat, Int.reduceLE, Int.reduceLT, Int.reduceAdd, Int.reduceMul, Int.reduceSub, Int.reduceNeg, Nat.reduceAdd, Nat.reduceSub, Nat.reduceMul, Nat.reduceLT, Nat.reduceBEq, Nat.reduceEqDiff, Nat.reduceLeDiff, FACTS, TYPES]
/-- The copy that the reference makes. -/
theorem copy_gen (k : Nat) (ins regs : Int) (E1 E2 : List IV) (N1 N2 : Nat) (nl nl2 : Bool) (cap cap2 : Option Nat) (h1 : E1.length = N1 * 5) (h2 : E2.length = N2 * 1) (hs : N1 * 40 ≤ roomBytes) (hs2 : N2 * 8 ≤ roomBytes) :
    ∃ a1 c1 a2 c2, run (k+1) 10 [.agg [ii ins, ii regs, .c (.slice E1 N1 nl cap), .c (.slice E2 N2 nl2 cap2)]] = some (.agg [ii ins, ii regs, .c (.slice E1 N1 a1 c1), .c (.slice E2 N2 a2 c2)]) := by
  rw [run, ev10]
  have s1 : ∀ H, srcOf H 5 (.c (.slice E1 N1 nl cap)) = some (E1, N1) := fun H => srcOf_c h1
  have s2 : ∀ H, srcOf H 1 (.c (.slice E2 N2 nl2 cap2)) = some (E2, N2) := fun H => srcOf_c h2
  have f1 : ∀ (H : Heap) (id : Nat), H[id]? = some (.row false 34 E1) → rowOf H id (N1 * 5) = some (34, E1) := fun H id h => rowOf_eq h h1
  have f2 : ∀ (H : Heap) (id : Nat), H[id]? = some (.row false 3 E2) → rowOf H id (N2 * 1) = some (3, E2) := fun H id h => rowOf_eq h h2
  have d1 : (E1.drop 0).take (N1 * 5) = E1 := by rw [List.drop_zero, ← h1, List.take_length]
  have d2 : (E2.drop 0).take (N2 * 1) = E2 := by rw [List.drop_zero, ← h2, List.take_length]
  have l1 : 0 + N1 * 5 ≤ N1 * 5 := by omega
  have l2 : 0 + N2 * 1 ≤ N2 * 1 := by omega
  rcases Nat.eq_zero_or_pos N1 with e1 | e1
  · have t1 : ∀ H, apO 34 5 40 (.c (.slice [] 0 true (some 0))) H (some (E1, N1)) = some (.c (.slice [] 0 true (some 0)), H) := fun H => by rw [e1]; exact apO_zero
    have g1 : E1 = [] := List.eq_nil_of_length_eq_zero (by omega)
    rcases Nat.eq_zero_or_pos N2 with e2 | e2
    · have t2 : ∀ H, apO 3 1 8 (.c (.slice [] 0 true (some 0))) H (some (E2, N2)) = some (.c (.slice [] 0 true (some 0)), H) := fun H => by rw [e2]; exact apO_zero
      have g2 : E2 = [] := List.eq_nil_of_length_eq_zero (by omega)
      refine ⟨true, some 0, true, some 0, ?_⟩
      simp only [Tryd.f10, ii, bb, s1, s2, t1, t2, EVb, EVc, Int.reduceEq, Int.reduceToNat, Int.reduceLE, Int.reduceLT, Int.reduceAdd, Int.reduceMul, Int.reduceSub, Int.reduceNeg, Nat.reduceAdd, Nat.reduceSub, Nat.reduceMul, Nat.reduceLT, Nat.reduceBEq, Nat.reduceEqDiff, Nat.reduceLeDiff, FACTS, TYPES]
      rw [g1, g2, e1, e2]
      rfl
    · have t2 : ∀ H, apO 3 1 8 (.c (.slice [] 0 true (some 0))) H (some (E2, N2)) = some (.hsl H.length 0 N2 (N2 * 1) 1, H ++ [.row false 3 E2]) := fun H => apO_nil e2 hs2
      refine ⟨true, some 0, false, none, ?_⟩
      simp only [Tryd.f10, ii, bb, s1, s2, t1, t2, EVb, EVc, Int.reduceEq, Int.reduceToNat, Int.reduceLE, Int.reduceLT, Int.reduceAdd, Int.reduceMul, Int.reduceSub, Int.reduceNeg, Nat.reduceAdd, Nat.reduceSub, Nat.reduceMul, Nat.reduceLT, Nat.reduceBEq, Nat.reduceEqDiff, Nat.reduceLeDiff, FACTS, TYPES]
      simp only [ans, frzR, frzV_agg, frzs_cell, frzs_hsl, frzs_nil, frz_hsl, f2 _ _ (show (([_, _, _, AObj.row false 3 E2] : Heap)[3]?) = some (.row false 3 E2) from rfl), l2, d2, if_true, Option.bind_some, Option.map_some, List.map_cons, List.map_nil]
      rw [g1, e1]
  · have t1 : ∀ H, apO 34 5 40 (.c (.slice [] 0 true (some 0))) H (some (E1, N1)) = some (.hsl H.length 0 N1 (N1 * 5) 5, H ++ [.row false 34 E1]) := fun H => apO_nil e1 hs
    rcases Nat.eq_zero_or_pos N2 with e2 | e2
    · have t2 : ∀ H, apO 3 1 8 (.c (.slice [] 0 true (some 0))) H (some (E2, N2)) = some (.c (.slice [] 0 true (some 0)), H) := fun H => by rw [e2]; exact apO_zero
      have g2 : E2 = [] := List.eq_nil_of_length_eq_zero (by omega)
      refine ⟨false, none, true, some 0, ?_⟩
      simp only [Tryd.f10, ii, bb, s1, s2, t1, t2, EVb, EVc, Int.reduceEq, Int.reduceToNat, Int.reduceLE, Int.reduceLT, Int.reduceAdd, Int.reduceMul, Int.reduceSub, Int.reduceNeg, Nat.reduceAdd, Nat.reduceSub, Nat.reduceMul, Nat.reduceLT, Nat.reduceBEq, Nat.reduceEqDiff, Nat.reduceLeDiff, FACTS, TYPES]
      simp only [ans, frzR, frzV_agg, frzs_cell, frzs_hsl, frzs_nil, frz_hsl, f1 _ _ (show (([_, _, _, AObj.row false 34 E1] : Heap)[3]?) = some (.row false 34 E1) from rfl), l1, d1, if_true, Option.bind_some, Option.map_some, List.map_cons, List.map_nil]
      rw [g2, e2]
    · have t2 : ∀ H, apO 3 1 8 (.c (.slice [] 0 true (some 0))) H (some (E2, N2)) = some (.hsl H.length 0 N2 (N2 * 1) 1, H ++ [.row false 3 E2]) := fun H => apO_nil e2 hs2
      refine ⟨false, none, false, none, ?_⟩
      simp only [Tryd.f10, ii, bb, s1, s2, t1, t2, EVb, EVc, Int.reduceEq, Int.reduceToNat, Int.reduceLE, Int.reduceLT, Int.reduceAdd, Int.reduceMul, Int.reduceSub, Int.reduceNeg, Nat.reduceAdd, Nat.reduceSub, Nat.reduceMul, Nat.reduceLT, Nat.reduceBEq, Nat.reduceEqDiff, Nat.reduceLeDiff, FACTS, TYPES]
      simp only [ans, frzR, frzV_agg, frzs_cell, frzs_hsl, frzs_nil, frz_hsl, f1 _ _ (show (([_, _, _, AObj.row false 34 E1, AObj.row false 3 E2] : Heap)[3]?) = some (.row false 34 E1) from rfl), l1, d1,
        f2 _ _ (show ((List.set ([_, _, _, AObj.row false 34 E1, AObj.row false 3 E2] : Heap) 3 _)[4]?) = some (.row false 3 E2) from rfl), l2, d2, if_true, Option.bind_some, Option.map_some, List.map_cons, List.map_nil]
theorem copy_ev (k : Nat) (p : Pg) (nl : Bool) (cap : Option Nat) (nl2 : Bool) (cap2 : Option Nat) (hs : p.code.length * 40 ≤ roomBytes) (hs2 : p.outs.length * 8 ≤ roomBytes) :
    ∃ a1 c1 a2 c2, run (k+1) 10 [aP p nl cap nl2 cap2] = some (aP p a1 c1 a2 c2) :=
  copy_gen k p.ins p.regs _ _ _ _ nl nl2 cap cap2 (encCode_length p.code) (by rw [encInts_length]; omega) hs hs2
end Go.Proofs.F13
