/- A part of the proof: what functions of the program answer, of whatever arguments, reckoned with letters by the interpreter's equations. Its conditions stand in each theorem. -/
import Derived.Test.YtefdgfdahmaciaaS14S
import Derived.Test.YtefdgfdahmaciaaS14T
import Derived.Test.YtefdgfdahmaciaaS08S
namespace Go.Proofs.Sw
set_option linter.unusedVariables false
set_option linter.unusedSimpArgs false
set_option linter.unusedSectionVars false
open Go.Ab
variable [Globals]
theorem encCode_sc : ∀ l : List Ins, (encCode l).all IV.scalar = true
  | [] => rfl
  | i :: l => by rw [encCode, List.all_append, encCode_sc l]; rfl
theorem encInts_sc : ∀ l : List Int, (encInts l).all IV.scalar = true
  | [] => rfl
  | i :: l => by
    show (IV.int .i64 i :: encInts l).all IV.scalar = true
    rw [List.all_cons, encInts_sc l]; rfl
theorem keep14 {x y e : IV} {N m : Nat} {E O : List IV} {H X : Heap} (hN : 0 < N) :
    keepO (some (.tup [.agg [.c x, .c y, lv 0 5 N, .hsl 1 0 m m 1], .c e], lo 34 N E :: .row false 3 O :: X)) H = some (.tup [.agg [.c x, .c y, .hsl H.length 0 N (N * 5) 5, .hsl (H.length + 1) 0 m m 1], .c e], H ++ [.row false 34 E, .row false 3 O]) := by
  rw [lv_pos hN, lo_pos hN]
  simp [keepO, AV.imp, imps1, AV.imp1, imps0, AV.imp0, rowsOf, Go.Ab.rowAt]
theorem keep14z {x y e : IV} {m : Nat} {O : List IV} {H X : Heap} {o : AObj} :
    keepO (some (.tup [.agg [.c x, .c y, .c (.slice [] 0 true (some 0)), .hsl 1 0 m m 1], .c e], o :: .row false 3 O :: X)) H = some (.tup [.agg [.c x, .c y, .c (.slice [] 0 true (some 0)), .hsl H.length 0 m m 1], .c e], H ++ [.row false 3 O]) := by
  simp [keepO, AV.imp, imps1, AV.imp1, imps0, AV.imp0, rowsOf, Go.Ab.rowAt]
theorem keep14n {x y e : Int} {H X : Heap} :
    keepO (some (.tup [.agg [ii x, ii y, .c (.slice [] 0 true (some 0)), .c (.slice [] 0 true (some 0))], ii e], X)) H = some (.tup [.agg [ii x, ii y, .c (.slice [] 0 true (some 0)), .c (.slice [] 0 true (some 0))], ii e], H) := by
  simp [keepO, AV.imp, imps1, AV.imp1, imps0, AV.imp0, rowsOf]
theorem view14 {x y e : Int} {N m : Nat} {C : List Ins} {O : List Int} {H X : Heap} (hN : 0 < N) :
    keepV (some (.tup [.agg [ii x, ii y, lv 0 5 N, .hsl 1 0 m m 1], ii e], lo 34 N (encCode C) :: rI O :: X)) H = some (.tup [.agg [ii x, ii y, .hsl H.length 0 N (N * 5) 5, .hsl (H.length + 1) 0 m m 1], ii e], H ++ [.row false 34 (encCode C), rI O]) := by
  rw [lv_pos hN, lo_pos hN]
  show (if _ ∧ _ then _ else _) = _
  rw [if_pos ⟨rfl, by show (List.all (encCode C) IV.scalar && (List.all (encInts O) IV.scalar && true)) = true; rw [encCode_sc, encInts_sc]; rfl⟩]
  rfl
theorem view14z {x y e : Int} {m : Nat} {O : List Int} {H X : Heap} {o : AObj} :
    keepV (some (.tup [.agg [ii x, ii y, .c (.slice [] 0 true (some 0)), .hsl 1 0 m m 1], ii e], o :: rI O :: X)) H = some (.tup [.agg [ii x, ii y, .c (.slice [] 0 true (some 0)), .hsl H.length 0 m m 1], ii e], H ++ [rI O]) := by
  show (if _ ∧ _ then _ else _) = _
  rw [if_pos ⟨rfl, by show (List.all (encInts O) IV.scalar && true) = true; rw [encInts_sc]; rfl⟩]
  rfl
theorem SharePass_bad (k : Nat) (p : Pg) (nl : Bool) (cap : Option Nat) (nl2 : Bool) (cap2 : Option Nat) (hk : p.outs.length + p.code.length + 400 ≤ k) (hr : rightM p = false) (hlg : long14 p = false) (hs : p.code.length * 40 ≤ roomBytes) (hs2 : p.outs.length * 8 ≤ roomBytes) :
    run (k+61) 3 [aP p nl cap nl2 cap2] = some (bb true) := by
  have hwk := l14live_ev k
  have hlg' := l14long_ev (k + 59) p nl cap nl2 cap2
  have hrt := rRight_ev (k + 59) p nl cap nl2 cap2 (by omega)
  have hcp := rCopy_ev (k + 59) p nl nl2 cap cap2 hs hs2
  obtain ⟨G, hps⟩ := sharePass_bad (k + 58) p nl cap nl2 cap2 (by omega) hr
  have hem := l14empty_ev (k + 59) 0 0 [] [] 0 0 true true (some 0) (some 0)
  simp only [run, aP, ii, bb, hlg, hr, decide_true, Bool.and_true] at hwk hlg' hrt hcp hem hps
  rw [run, ev3, ans_trim]
  have hkn := fun H X => keep14n (x := 0) (y := 0) (e := 80) (H := H) (X := X)
  simp only [ii] at hkn
  simp only [Try.f3, aP, ii, bb, hwk, hlg', hrt, hcp, hps, hem, hkn, doCall_cxK, EVb, EVc, Int.reduceEq, Int.reduceToNat, Int.reduceLE, Int.reduceLT, Int.reduceAdd, Int.reduceMul, Int.reduceSub, Int.reduceNeg, Nat.reduceAdd, Nat.reduceSub, Nat.reduceMul, Nat.reduceLT, Nat.reduceBEq, Nat.reduceEqDiff, Nat.reduceLeDiff, FACTS, TYPES]
theorem SharePass_goodA (k : Nat) (ins : Int) (n : Nat) (code : List Ins) (outs : List Int) (nl : Bool) (cap : Option Nat) (nl2 : Bool) (cap2 : Option Nat) (hk : outs.length + code.length + 5000 ≤ k) (hr : rightM ⟨ins, n, code, outs⟩ = true) (hlg : long14 ⟨ins, n, code, outs⟩ = false) (hs : code.length * 40 ≤ roomBytes) (hs2 : outs.length * 8 ≤ roomBytes) (hN : 0 < (passC ins n code).length) :
    run (k+61) 3 [aP ⟨ins, n, code, outs⟩ nl cap nl2 cap2] = some (bb true) := by
  have hwk := l14live_ev k
  have hlg' := l14long_ev (k + 59) ⟨ins, n, code, outs⟩ nl cap nl2 cap2
  have hrt := rRight_ev (k + 59) ⟨ins, n, code, outs⟩ nl cap nl2 cap2 (by simp only; omega)
  have hcp := rCopy_ev (k + 59) ⟨ins, n, code, outs⟩ nl nl2 cap cap2 hs hs2
  have hl := hlg
  simp only [long14, Bool.or_eq_false_iff, decide_eq_false_iff_not] at hl
  obtain ⟨X1, hps⟩ := sharePass_ev (k + 51) ins n code outs nl cap nl2 cap2 (by omega) hr
  have hrp := r14Pass_ev (k + 51) ins n code outs nl cap nl2 cap2 (by omega) (by omega) hr
  have hrq := share_right hr
  have hag := share_again hr
  have hf := passAt_facts (startS ins n) code code.length
  have hcl : (passC ins n code).length ≤ code.length := hf.2.2.2.2
  obtain ⟨C, hC⟩ : ∃ C, C = passC ins n code := ⟨_, rfl⟩
  obtain ⟨O, hO⟩ : ∃ O, O = outsL (passS ins n code).held outs := ⟨_, rfl⟩
  have hpg : sharePg ins n code outs = ⟨ins, n, C, O⟩ := by rw [hC, hO]; rfl
  have hOl : O.length = outs.length := by rw [hO, outsL_length]
  rw [hpg] at hrp hrq hag
  rw [← hC, ← hO] at hps hag
  rw [← hC] at hN hcl
  have hag1 : passC ins n C = C := congrArg Pg.code hag
  have hag2 : outsL (passS ins n C).held O = O := congrArg Pg.outs hag
  obtain ⟨X2, hps2⟩ := sharePass_ev (k + 51) ins n C O false none false none (by omega) hrq
  rw [hag1, hag2, hOl] at hps2
  have hsm := rSame_ev (k + 59) ⟨ins, n, C, O⟩ false false (nlE C) (nlE O) none none (cpE C) (cpE O) (by simp only; omega) (by simp only; omega) (by simp only; omega)
  have hsm2 := rSame_ev (k + 59) ⟨ins, n, code, outs⟩ nl nl2 (nlE code) (nlE outs) cap cap2 (cpE code) (cpE outs) (by simp only; omega) (by simp only; omega) (by simp only; omega)
  have hOe : (encInts O).length = outs.length := by rw [encInts_length, hOl]
  have g5 : (encCode C).take (C.length * 5) = encCode C := List.take_of_length_le (by rw [encCode_length]; exact Nat.le_refl _)
  have g6 : (encInts O).take outs.length = encInts O := List.take_of_length_le (by rw [hOe]; exact Nat.le_refl _)
  have g7 := encCode_length C
  have hkp := fun (H : Heap) => keep14 (x := .int .i64 ins) (y := .int .i64 n) (e := .int .i64 0) (N := C.length) (m := outs.length) (E := encCode C) (O := encInts O) (H := H) (X := X1) hN
  have hkv := fun H => view14 (x := ins) (y := n) (e := 0) (N := C.length) (m := outs.length) (C := C) (O := O) (H := H) (X := X2) hN
  simp only [run, aP, ii, bb, sC, sI, hlg, hr, hOl] at hwk hlg' hrt hcp hps hrp hsm hsm2 hps2 hkp hkv
  rw [run, ev3, ans_trim]
  simp only [Try.f3, aP, ii, bb, hwk, hlg', hrt, hcp, hps, hrp, hkp, hsm, hps2, keepF_some, hkv, hOe, g5, g6, g7, Nat.le_refl, doCall_cxK, doCall_cxKV, EVb, EVc, Int.reduceEq, Int.reduceToNat, Int.reduceLE, Int.reduceLT, Int.reduceAdd, Int.reduceMul, Int.reduceSub, Int.reduceNeg, Nat.reduceAdd, Nat.reduceSub, Nat.reduceMul, Nat.reduceLT, Nat.reduceBEq, Nat.reduceEqDiff, Nat.reduceLeDiff, FACTS, TYPES]
  rw [evalCode_drawn Try.f3 16 dr3_16]; rotate_left; rfl
  simp only [hOe, g7, EVd, Nat.reducePow, Nat.reduceDiv, Nat.reduceMod, EVb, EVc, Int.reduceEq, Int.reduceToNat, Int.reduceLE, Int.reduceLT, Int.reduceAdd, Int.reduceMul, Int.reduceSub, Int.reduceNeg, Nat.reduceAdd, Nat.reduceSub, Nat.reduceMul, Nat.reduceLT, Nat.reduceBEq, Nat.reduceEqDiff, Nat.reduceLeDiff, FACTS, TYPES]
  rw [evalCode_spoil (r := 18) LB3_18 sp3_18 (by rfl) (by rfl) (by rfl) (by rfl) (by rfl) (Int.le_refl 0) (by rfl) g7]
  simp only [EVb, EVc, Int.reduceEq, Int.reduceToNat, Int.reduceLE, Int.reduceLT, Int.reduceAdd, Int.reduceMul, Int.reduceSub, Int.reduceNeg, Nat.reduceAdd, Nat.reduceSub, Nat.reduceMul, Nat.reduceLT, Nat.reduceBEq, Nat.reduceEqDiff, Nat.reduceLeDiff, FACTS, TYPES]
  rw [evalCode_spoil (r := 22) LB3_22 sp3_22 (by rfl) (by rfl) (by rfl) (by rfl) (by rfl) (Int.le_refl 0) (by rfl) (by rw [hOe])]
  simp only [hsm2, EVb, EVc, Int.reduceEq, Int.reduceToNat, Int.reduceLE, Int.reduceLT, Int.reduceAdd, Int.reduceMul, Int.reduceSub, Int.reduceNeg, Nat.reduceAdd, Nat.reduceSub, Nat.reduceMul, Nat.reduceLT, Nat.reduceBEq, Nat.reduceEqDiff, Nat.reduceLeDiff, FACTS, TYPES]
theorem SharePass_goodB (k : Nat) (ins : Int) (n : Nat) (code : List Ins) (outs : List Int) (nl : Bool) (cap : Option Nat) (nl2 : Bool) (cap2 : Option Nat) (hk : outs.length + code.length + 5000 ≤ k) (hr : rightM ⟨ins, n, code, outs⟩ = true) (hlg : long14 ⟨ins, n, code, outs⟩ = false) (hs : code.length * 40 ≤ roomBytes) (hs2 : outs.length * 8 ≤ roomBytes) (hN : (passC ins n code).length = 0) :
    run (k+61) 3 [aP ⟨ins, n, code, outs⟩ nl cap nl2 cap2] = some (bb true) := by
  have hwk := l14live_ev k
  have hlg' := l14long_ev (k + 59) ⟨ins, n, code, outs⟩ nl cap nl2 cap2
  have hrt := rRight_ev (k + 59) ⟨ins, n, code, outs⟩ nl cap nl2 cap2 (by simp only; omega)
  have hcp := rCopy_ev (k + 59) ⟨ins, n, code, outs⟩ nl nl2 cap cap2 hs hs2
  have hl := hlg
  simp only [long14, Bool.or_eq_false_iff, decide_eq_false_iff_not] at hl
  obtain ⟨X1, hps⟩ := sharePass_ev (k + 51) ins n code outs nl cap nl2 cap2 (by omega) hr
  have hrp := r14Pass_ev (k + 51) ins n code outs nl cap nl2 cap2 (by omega) (by omega) hr
  have hrq := share_right hr
  have hag := share_again hr
  have hf := passAt_facts (startS ins n) code code.length
  have hcl : (passC ins n code).length ≤ code.length := hf.2.2.2.2
  obtain ⟨C, hC⟩ : ∃ C, C = passC ins n code := ⟨_, rfl⟩
  obtain ⟨O, hO⟩ : ∃ O, O = outsL (passS ins n code).held outs := ⟨_, rfl⟩
  have hpg : sharePg ins n code outs = ⟨ins, n, C, O⟩ := by rw [hC, hO]; rfl
  have hOl : O.length = outs.length := by rw [hO, outsL_length]
  rw [hpg] at hrp hrq hag
  rw [← hC, ← hO] at hps hag
  rw [← hC] at hN hcl
  have hag1 : passC ins n C = C := congrArg Pg.code hag
  have hag2 : outsL (passS ins n C).held O = O := congrArg Pg.outs hag
  obtain ⟨X2, hps2⟩ := sharePass_ev (k + 51) ins n C O true (some 0) false none (by omega) hrq
  rw [hag1, hag2, hOl] at hps2
  have hsm := rSame_ev (k + 59) ⟨ins, n, C, O⟩ true false (nlE C) (nlE O) (some 0) none (cpE C) (cpE O) (by simp only; omega) (by simp only; omega) (by simp only; omega)
  have hsm2 := rSame_ev (k + 59) ⟨ins, n, code, outs⟩ nl nl2 (nlE code) (nlE outs) cap cap2 (cpE code) (cpE outs) (by simp only; omega) (by simp only; omega) (by simp only; omega)
  have hOe : (encInts O).length = outs.length := by rw [encInts_length, hOl]
  have g5 : (encCode C).take (C.length * 5) = encCode C := List.take_of_length_le (by rw [encCode_length]; exact Nat.le_refl _)
  have g6 : (encInts O).take outs.length = encInts O := List.take_of_length_le (by rw [hOe]; exact Nat.le_refl _)
  have g7 := encCode_length C
  have hCn : C = [] := List.eq_nil_of_length_eq_zero hN
  have e0 : lv 0 5 C.length = .c (.slice [] 0 true (some 0)) := by rw [hN]; rfl
  have e00 : lo 34 C.length (encCode C) = .slot := by rw [hN]; rfl
  have hkp := fun (H : Heap) => keep14z (x := .int .i64 ins) (y := .int .i64 n) (e := .int .i64 0) (m := outs.length) (O := encInts O) (H := H) (X := X1) (o := .slot)
  have hkv := fun H => view14z (x := ins) (y := n) (e := 0) (m := outs.length) (O := O) (H := H) (X := X2) (o := .slot)
  simp only [run, aP, ii, bb, sC, sI, hlg, hr, hOl, e0, codeO, e00] at hwk hlg' hrt hcp hps hrp hsm hsm2 hps2 hkp hkv
  simp only [hCn, encCode, List.length_nil] at hrp hsm hps2
  rw [run, ev3, ans_trim]
  simp only [Try.f3, aP, ii, bb, hwk, hlg', hrt, hcp, hps, hrp, hkp, hsm, hps2, keepF_some, hkv, hOe, g6, Nat.le_refl, doCall_cxK, doCall_cxKV, EVb, EVc, Int.reduceEq, Int.reduceToNat, Int.reduceLE, Int.reduceLT, Int.reduceAdd, Int.reduceMul, Int.reduceSub, Int.reduceNeg, Nat.reduceAdd, Nat.reduceSub, Nat.reduceMul, Nat.reduceLT, Nat.reduceBEq, Nat.reduceEqDiff, Nat.reduceLeDiff, FACTS, TYPES]
  rw [evalCode_drawn Try.f3 16 dr3_16]; rotate_left; rfl
  have hs0 : ∀ H, sliceO H 5 (.c (.slice [] 0 true (some 0))) none (some (.c (.int .i64 0))) = some (.c (.slice [] 0 true (some 0))) := fun H => by rfl
  simp only [hOe, hs0, EVd, Nat.reducePow, Nat.reduceDiv, Nat.reduceMod, EVb, EVc, Int.reduceEq, Int.reduceToNat, Int.reduceLE, Int.reduceLT, Int.reduceAdd, Int.reduceMul, Int.reduceSub, Int.reduceNeg, Nat.reduceAdd, Nat.reduceSub, Nat.reduceMul, Nat.reduceLT, Nat.reduceBEq, Nat.reduceEqDiff, Nat.reduceLeDiff, FACTS, TYPES]
  rw [evalCode_spoilN LB3_18 sp3_18 lp3_18 (by rfl) (by rfl) (by rfl) (by rfl)]
  obtain ⟨k, rfl⟩ : ∃ j, k = j + 1 := ⟨k - 1, by omega⟩
  rw [show k + 1 + 60 = (k + 60) + 1 from rfl, loopR_succ]
  simp only [loopR_succ, loopOf, findLoop, firstRegion, Option.some_or, Option.none_or, Option.getD_some, Option.some.injEq, Try.f3, EVb, EVc, Int.reduceEq, Int.reduceToNat, Int.reduceLE, Int.reduceLT, Int.reduceAdd, Int.reduceMul, Int.reduceSub, Int.reduceNeg, Nat.reduceAdd, Nat.reduceSub, Nat.reduceMul, Nat.reduceLT, Nat.reduceBEq, Nat.reduceEqDiff, Nat.reduceLeDiff, FACTS, TYPES]
  rw [evalCode_spoil (r := 22) LB3_22 sp3_22 (by rfl) (by rfl) (by rfl) (by rfl) (by rfl) (Int.le_refl 0) (by rfl) (by rw [hOe])]
  simp only [hsm2, EVb, EVc, Int.reduceEq, Int.reduceToNat, Int.reduceLE, Int.reduceLT, Int.reduceAdd, Int.reduceMul, Int.reduceSub, Int.reduceNeg, Nat.reduceAdd, Nat.reduceSub, Nat.reduceMul, Nat.reduceLT, Nat.reduceBEq, Nat.reduceEqDiff, Nat.reduceLeDiff, FACTS, TYPES]
theorem SharePass_ev (k : Nat) (p : Pg) (nl : Bool) (cap : Option Nat) (nl2 : Bool) (cap2 : Option Nat) (hk : p.outs.length + p.code.length + 6000 ≤ k) (_ : nl = true → p.code = []) (_ : nl2 = true → p.outs = []) (hs : p.code.length * 40 ≤ roomBytes) (hs2 : p.outs.length * 8 ≤ roomBytes) :
    run (k+1) 3 [aP p nl cap nl2 cap2] = some (bb true) := by
  obtain ⟨k, rfl⟩ : ∃ j, k = j + 60 := ⟨k - 60, by omega⟩
  cases hlg : long14 p with
  | true =>
    have hwk := l14live_ev k
    have hlg' := l14long_ev (k + 59) p nl cap nl2 cap2
    simp only [run, aP, ii, sC, sI, bb, hlg] at hwk hlg'
    rw [run, ev3, ans_trim]
    simp only [Try.f3, aP, ii, bb, hwk, hlg', EVb, EVc, Int.reduceEq, Int.reduceToNat, Int.reduceLE, Int.reduceLT, Int.reduceAdd, Int.reduceMul, Int.reduceSub, Int.reduceNeg, Nat.reduceAdd, Nat.reduceSub, Nat.reduceMul, Nat.reduceLT, Nat.reduceBEq, Nat.reduceEqDiff, Nat.reduceLeDiff, FACTS, TYPES]
  | false =>
    cases hr : rightM p with
    | false => exact SharePass_bad k p nl cap nl2 cap2 (by omega) hr hlg hs hs2
    | true =>
      obtain ⟨ins, regs, code, outs⟩ := p
      obtain ⟨n, hn⟩ : ∃ n : Nat, regs = n := by
        have hr' := hr
        simp only [rightM, headM, Bool.and_eq_true, decide_eq_true_eq] at hr'
        exact ⟨regs.toNat, by omega⟩
      subst hn
      rcases Nat.eq_zero_or_pos (passC ins n code).length with hN | hN
      · exact SharePass_goodB k ins n code outs nl cap nl2 cap2 (by simp only at hk; omega) hr hlg hs hs2 hN
      · exact SharePass_goodA k ins n code outs nl cap nl2 cap2 (by simp only at hk; omega) hr hlg hs hs2 hN
end Go.Proofs.Sw
