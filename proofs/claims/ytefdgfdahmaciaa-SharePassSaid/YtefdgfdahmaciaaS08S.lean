/- A part of the proof: what functions of the program answer, of whatever arguments, reckoned with letters by the interpreter's equations. Its conditions stand in each theorem. -/
import Derived.Test.YtefdgfdahmaciaaS08R
namespace Go.Proofs.Sw
set_option linter.unusedVariables false
set_option linter.unusedSimpArgs false
set_option linter.unusedSectionVars false
open Go.Ab
variable [Globals]
theorem loop_rSame_4 (kf : Nat) (ins regs : Int) (code : List Ins) (nl nl3 : Bool) (cap cap3 : Option Nat) (ov ov2 : AV) (hlen : code.length ≤ 4611686018427387904) (k : Nat) (l : Ass) (z : Option Out)
    (hz : loopR Try.prog tab kf none LB20_4 20 73 [2, 3, 5] 2 k l [cP ins regs (sC code nl cap) ov, cP ins regs (sC code nl3 cap3) ov2] = z) (hk : code.length < k)
    (h2 : asc l 2 = .ptr 0 0) (h3 : asc l 3 = .ptr 1 0) (h5 : asc l 5 = ii (0 : Nat)) :
    ∃ l', z = some (.exit 0 (fr 73 l') [cP ins regs (sC code nl cap) ov, cP ins regs (sC code nl3 cap3) ov2]) ∧ asc l' 2 = .ptr 0 0 ∧ asc l' 3 = .ptr 1 0 := by
  subst hz
  refine loop_nat code.length (fun k l H => loopR Try.prog tab kf none LB20_4 20 73 [2, 3, 5] 2 k l H)
    (fun i l H => asc l 2 = .ptr 0 0 ∧ asc l 3 = .ptr 1 0 ∧ asc l 5 = ii i ∧ H = [cP ins regs (sC code nl cap) ov, cP ins regs (sC code nl3 cap3) ov2])
    (fun z => ∃ l', z = some (.exit 0 (fr 73 l') [cP ins regs (sC code nl cap) ov, cP ins regs (sC code nl3 cap3) ov2]) ∧ asc l' 2 = .ptr 0 0 ∧ asc l' 3 = .ptr 1 0) ?_ code.length 0 k l _ (by omega) hk ⟨h2, h3, h5, rfl⟩
  clear h2 h3 h5 hk
  rintro i k l H hi ⟨h2, h3, h5, rfl⟩
  by_cases hc : i < code.length
  · have hc' : ((i : Int) < code.length) := by omega
    have hc0 : (0 : Int) ≤ i := by omega
    have hx := encCode_get hc
    have hw := wrap_succ hc (by omega)
    obtain ⟨x, hX⟩ : ∃ x, x = code[i] := ⟨_, rfl⟩
    rw [← hX] at hx
    refine .inr ?_
    simp only [h2, h3, h5, hc', hc0, hx, loopR_succ, loopOf, findLoop, firstRegion, Option.some_or, Option.none_or, Option.getD_some, Option.some.injEq, Try.f20, EVb, EVc, Int.reduceEq, Int.reduceToNat, Int.reduceLE, Int.reduceLT, Int.reduceAdd, Int.reduceMul, Int.reduceSub, Int.reduceNeg, Nat.reduceAdd, Nat.reduceSub, Nat.reduceMul, Nat.reduceLT, Nat.reduceBEq, Nat.reduceEqDiff, Nat.reduceLeDiff, FACTS, TYPES]
    rw [evalCode_drawn Try.f20 6 dr20_6]; rotate_left; rfl
    simp only [hc', hc0, hx, hw, EVd, Nat.reducePow, Nat.reduceDiv, Nat.reduceMod, EVb, EVc, Int.reduceEq, Int.reduceToNat, Int.reduceLE, Int.reduceLT, Int.reduceAdd, Int.reduceMul, Int.reduceSub, Int.reduceNeg, Nat.reduceAdd, Nat.reduceSub, Nat.reduceMul, Nat.reduceLT, Nat.reduceBEq, Nat.reduceEqDiff, Nat.reduceLeDiff, FACTS, TYPES]
    exact ⟨_, _, hc, rfl, (by rfl), (by rfl), (by rfl), rfl⟩
  · have hc' : ¬ ((i : Int) < code.length) := by omega
    refine .inl ?_
    simp only [h2, h3, h5, hc', loopR_succ, loopOf, findLoop, firstRegion, Option.some_or, Option.none_or, Option.getD_some, Option.some.injEq, Try.f20, EVb, EVc, Int.reduceEq, Int.reduceToNat, Int.reduceLE, Int.reduceLT, Int.reduceAdd, Int.reduceMul, Int.reduceSub, Int.reduceNeg, Nat.reduceAdd, Nat.reduceSub, Nat.reduceMul, Nat.reduceLT, Nat.reduceBEq, Nat.reduceEqDiff, Nat.reduceLeDiff, FACTS, TYPES]
    exact ⟨_, rfl, (by rfl), (by rfl)⟩
theorem loop_rSame_9 (kf : Nat) (ins regs : Int) (outs : List Int) (nl nl3 : Bool) (cap cap3 : Option Nat) (cv cv2 : AV) (hlen : outs.length ≤ 4611686018427387904) (k : Nat) (l : Ass) (z : Option Out)
    (hz : loopR Try.prog tab kf none LB20_9 20 73 [2, 3, 6] 2 k l [cP ins regs cv (sI outs nl cap), cP ins regs cv2 (sI outs nl3 cap3)] = z) (hk : outs.length < k)
    (h2 : asc l 2 = .ptr 0 0) (h3 : asc l 3 = .ptr 1 0) (h6 : asc l 6 = ii (0 : Nat)) :
    ∃ l' H', z = some (.exit 2 (fr 73 l') H') := by
  subst hz
  refine loop_nat outs.length (fun k l H => loopR Try.prog tab kf none LB20_9 20 73 [2, 3, 6] 2 k l H)
    (fun i l H => asc l 2 = .ptr 0 0 ∧ asc l 3 = .ptr 1 0 ∧ asc l 6 = ii i ∧ H = [cP ins regs cv (sI outs nl cap), cP ins regs cv2 (sI outs nl3 cap3)])
    (fun z => ∃ l' H', z = some (.exit 2 (fr 73 l') H')) ?_ outs.length 0 k l _ (by omega) hk ⟨h2, h3, h6, rfl⟩
  clear h2 h3 h6 hk
  rintro i k l H hi ⟨h2, h3, h6, rfl⟩
  by_cases hc : i < outs.length
  · have hc' : ((i : Int) < outs.length) := by omega
    have hc0 : (0 : Int) ≤ i := by omega
    have hx := encInts_get hc
    have hw := wrap_succ hc (by omega)
    refine .inr ?_
    simp only [h2, h3, h6, hc', hc0, hx, loopR_succ, loopOf, findLoop, firstRegion, Option.some_or, Option.none_or, Option.getD_some, Option.some.injEq, Try.f20, EVb, EVc, Int.reduceEq, Int.reduceToNat, Int.reduceLE, Int.reduceLT, Int.reduceAdd, Int.reduceMul, Int.reduceSub, Int.reduceNeg, Nat.reduceAdd, Nat.reduceSub, Nat.reduceMul, Nat.reduceLT, Nat.reduceBEq, Nat.reduceEqDiff, Nat.reduceLeDiff, FACTS, TYPES]
    rw [evalCode_drawn Try.f20 11 dr20_11]; rotate_left; rfl
    simp only [hc', hc0, hx, hw, EVd, Nat.reducePow, Nat.reduceDiv, Nat.reduceMod, EVb, EVc, Int.reduceEq, Int.reduceToNat, Int.reduceLE, Int.reduceLT, Int.reduceAdd, Int.reduceMul, Int.reduceSub, Int.reduceNeg, Nat.reduceAdd, Nat.reduceSub, Nat.reduceMul, Nat.reduceLT, Nat.reduceBEq, Nat.reduceEqDiff, Nat.reduceLeDiff, FACTS, TYPES]
    exact ⟨_, _, hc, rfl, (by rfl), (by rfl), (by rfl), rfl⟩
  · have hc' : ¬ ((i : Int) < outs.length) := by omega
    refine .inl ?_
    simp only [h2, h3, h6, hc', loopR_succ, loopOf, findLoop, firstRegion, Option.some_or, Option.none_or, Option.getD_some, Option.some.injEq, Try.f20, EVb, EVc, Int.reduceEq, Int.reduceToNat, Int.reduceLE, Int.reduceLT, Int.reduceAdd, Int.reduceMul, Int.reduceSub, Int.reduceNeg, Nat.reduceAdd, Nat.reduceSub, Nat.reduceMul, Nat.reduceLT, Nat.reduceBEq, Nat.reduceEqDiff, Nat.reduceLeDiff, FACTS, TYPES]
    exact ⟨_, _, rfl⟩
theorem rSame_ev (k : Nat) (p : Pg) (a1 a2 b1 b2 : Bool) (c1 c2 d1 d2 : Option Nat) (hl : p.code.length ≤ 4611686018427387904) (hl2 : p.outs.length ≤ 4611686018427387904) (hk : p.code.length + p.outs.length + 10 ≤ k) :
    run (k+1) 20 [aP p a1 c1 a2 c2, aP p b1 d1 b2 d2] = some (bb true) := by
  obtain ⟨ins, regs, code, outs⟩ := p
  simp only at hk hl hl2
  rw [run, ev20, ans_trim]
  simp only [Try.f20, aP, ii, bb, EVb, EVc, Int.reduceEq, Int.reduceToNat, Int.reduceLE, Int.reduceLT, Int.reduceAdd, Int.reduceMul, Int.reduceSub, Int.reduceNeg, Nat.reduceAdd, Nat.reduceSub, Nat.reduceMul, Nat.reduceLT, Nat.reduceBEq, Nat.reduceEqDiff, Nat.reduceLeDiff, FACTS, TYPES]
  rw [evalCode_loopB LB20_4 lp20_4]; rotate_left; rfl; rfl; rfl
  generalize hz : loopR _ _ _ _ _ _ _ _ _ _ _ _ = z
  obtain ⟨l', rfl, e2, e3⟩ := loop_rSame_4 k ins regs code a1 b1 c1 d1 (sI outs a2 c2) (sI outs b2 d2) hl _ _ z hz (by omega) (by rfl) (by rfl) (by rfl)
  clear hz
  simp only [e2, e3, EVb, EVc, Int.reduceEq, Int.reduceToNat, Int.reduceLE, Int.reduceLT, Int.reduceAdd, Int.reduceMul, Int.reduceSub, Int.reduceNeg, Nat.reduceAdd, Nat.reduceSub, Nat.reduceMul, Nat.reduceLT, Nat.reduceBEq, Nat.reduceEqDiff, Nat.reduceLeDiff, FACTS, TYPES]
  rw [evalCode_loopB LB20_9 lp20_9]; rotate_left; rfl; rfl; rfl
  generalize hz : loopR _ _ _ _ _ _ _ _ _ _ _ _ = z
  obtain ⟨l2, H2, rfl⟩ := loop_rSame_9 k ins regs outs a2 b2 c2 d2 (sC code a1 c1) (sC code b1 d1) hl2 _ _ z hz (by omega) (by exact e2) (by exact e3) (by rfl)
  simp only [EVb, EVc, Int.reduceEq, Int.reduceToNat, Int.reduceLE, Int.reduceLT, Int.reduceAdd, Int.reduceMul, Int.reduceSub, Int.reduceNeg, Nat.reduceAdd, Nat.reduceSub, Nat.reduceMul, Nat.reduceLT, Nat.reduceBEq, Nat.reduceEqDiff, Nat.reduceLeDiff, FACTS, TYPES]
theorem apO_start {e : TypeId} {sz by_ m s : Nat} {H : Heap} {cs : List IV} (hb : m * by_ ≤ Go.Ab.roomBytes) (hs : 0 < sz) (hH : H[s]? = some .slot) (hl : cs.length = m * sz) :
    apO e sz by_ (some s) (.c (.slice [] 0 true (some 0))) H (some (cs, m)) = some (lv s sz m, H.set s (lo e m cs)) := by
  rcases Nat.eq_zero_or_pos m with rfl | hm
  · rw [apO_zero, lv_zero, lo_zero]
    congr 2
    apply List.ext_getElem?
    intro i
    rw [List.getElem?_set]
    split
    · rename_i e; subst e; split
      · exact hH
      · rename_i hlt; rw [List.getElem?_eq_none (by omega)]
    · rfl
  · have := apO_lv (e := e) (sz := sz) (by_ := by_) (m := m) (n := 0) (s := s) (H := H) (cells := []) (cs := cs) hm (by rw [Nat.zero_add]; exact hb) hs hH (by simp)
    rw [Nat.zero_add, List.nil_append, lv_zero] at this
    exact this
theorem rCopy_ev (k : Nat) (p : Pg) (a1 a2 : Bool) (c1 c2 : Option Nat) (hl : p.code.length * 40 ≤ roomBytes) (hl2 : p.outs.length * 8 ≤ roomBytes) :
    run (k+1) 15 [aP p a1 c1 a2 c2] = some (aP p (nlE p.code) (cpE p.code) (nlE p.outs) (cpE p.outs)) := by
  obtain ⟨ins, regs, code, outs⟩ := p
  simp only at hl hl2
  rw [run, ev15, ans_trim]
  simp only [Try.f15, aP, ii, bb, EVb, EVc, Int.reduceEq, Int.reduceToNat, Int.reduceLE, Int.reduceLT, Int.reduceAdd, Int.reduceMul, Int.reduceSub, Int.reduceNeg, Nat.reduceAdd, Nat.reduceSub, Nat.reduceMul, Nat.reduceLT, Nat.reduceBEq, Nat.reduceEqDiff, Nat.reduceLeDiff, FACTS, TYPES]
  have hq := encCode_length code
  have hq2 := encInts_length outs
  have h1 : ∀ b c d e : AObj, apO 34 5 40 (some 0) (.c (.slice [] 0 true (some 0))) [.slot, b, c, d, e] (some (encCode code, code.length)) = some (lv 0 5 code.length, [lo 34 code.length (encCode code), b, c, d, e]) :=
    fun _ _ _ _ => apO_start hl (by decide) rfl hq
  have h2 : ∀ a c d e : AObj, apO 3 1 8 (some 1) (.c (.slice [] 0 true (some 0))) [a, .slot, c, d, e] (some (encInts outs, outs.length)) = some (lv 1 1 outs.length, [a, lo 3 outs.length (encInts outs), c, d, e]) :=
    fun _ _ _ _ => apO_start hl2 (by decide) rfl (by rw [hq2, Nat.mul_one])
  simp only [hq, hq2, h1, h2, EVb, EVc, Int.reduceEq, Int.reduceToNat, Int.reduceLE, Int.reduceLT, Int.reduceAdd, Int.reduceMul, Int.reduceSub, Int.reduceNeg, Nat.reduceAdd, Nat.reduceSub, Nat.reduceMul, Nat.reduceLT, Nat.reduceBEq, Nat.reduceEqDiff, Nat.reduceLeDiff, FACTS, TYPES]
  rcases Nat.eq_zero_or_pos code.length with hz | hz
  · rcases Nat.eq_zero_or_pos outs.length with hz2 | hz2
    · simp [hq, hq2, hz, hz2, nlE, cpE, sC, sI, EVb, EVc, Int.reduceEq, Int.reduceToNat, Int.reduceLE, Int.reduceLT, Int.reduceAdd, Int.reduceMul, Int.reduceSub, Int.reduceNeg, Nat.reduceAdd, Nat.reduceSub, Nat.reduceMul, Nat.reduceLT, Nat.reduceBEq, Nat.reduceEqDiff, Nat.reduceLeDiff, FACTS, TYPES]
    · have : outs.length ≠ 0 := by omega
      simp [hq, hq2, hz, this, nlE, cpE, sC, sI, EVb, EVc, Int.reduceEq, Int.reduceToNat, Int.reduceLE, Int.reduceLT, Int.reduceAdd, Int.reduceMul, Int.reduceSub, Int.reduceNeg, Nat.reduceAdd, Nat.reduceSub, Nat.reduceMul, Nat.reduceLT, Nat.reduceBEq, Nat.reduceEqDiff, Nat.reduceLeDiff, FACTS, TYPES]
  · have : code.length ≠ 0 := by omega
    rcases Nat.eq_zero_or_pos outs.length with hz2 | hz2
    · simp [hq, hq2, this, hz2, nlE, cpE, sC, sI, EVb, EVc, Int.reduceEq, Int.reduceToNat, Int.reduceLE, Int.reduceLT, Int.reduceAdd, Int.reduceMul, Int.reduceSub, Int.reduceNeg, Nat.reduceAdd, Nat.reduceSub, Nat.reduceMul, Nat.reduceLT, Nat.reduceBEq, Nat.reduceEqDiff, Nat.reduceLeDiff, FACTS, TYPES]
    · have h2 : outs.length ≠ 0 := by omega
      simp [hq, hq2, this, h2, nlE, cpE, sC, sI, EVb, EVc, Int.reduceEq, Int.reduceToNat, Int.reduceLE, Int.reduceLT, Int.reduceAdd, Int.reduceMul, Int.reduceSub, Int.reduceNeg, Nat.reduceAdd, Nat.reduceSub, Nat.reduceMul, Nat.reduceLT, Nat.reduceBEq, Nat.reduceEqDiff, Nat.reduceLeDiff, FACTS, TYPES]
end Go.Proofs.Sw
