/- A part of the proof: what functions of the program answer, of whatever arguments, reckoned with letters by the interpreter's equations. Its conditions stand in each theorem. -/
import Derived.Test.YtefdgfdahmaciaaWD
import Derived.Test.YtefdgfdahmaciaaWF
namespace Go.Proofs.Sw
set_option linter.unusedVariables false
set_option linter.unusedSimpArgs false
set_option linter.unusedSectionVars false
open Go.Ab
variable [Globals]
theorem l15works_ev (k : Nat) : run (k+60) 29 [] = some (bb true) := by kernel_rfl
theorem right_nat {p : Pg} (hr : rightM p = true) : ∃ n : Nat, p.regs = n := by
  simp only [rightM, headM, Bool.and_eq_true, decide_eq_true_eq] at hr
  exact ⟨p.regs.toNat, by omega⟩
set_option maxHeartbeats 4000000 in
theorem DeadAgain_ev (k : Nat) (p : Pg) (nl : Bool) (cap : Option Nat) (nl2 : Bool) (cap2 : Option Nat) (hk : p.outs.length + p.code.length + 400 ≤ k) (hn : nl = true → p.code = []) (hn2 : nl2 = true → p.outs = []) (_ : p.code.length * 40 ≤ roomBytes) (_ : p.outs.length * 8 ≤ roomBytes) :
    run (k+1) 9 [aP p nl cap nl2 cap2] = some (bb true) := by
  obtain ⟨k, rfl⟩ : ∃ j, k = j + 60 := ⟨k - 60, by omega⟩
  have hwk := l15works_ev k
  have hlg := long_ev (k + 59) p nl cap nl2 cap2
  simp only [run, aP, ii, sC, sI, bb] at hwk hlg
  rw [run, ev9, ans_trim]
  by_cases hl : 300 < p.code.length ∧ p.code.length ≤ 16384
  · simp only [hl] at hlg
    simp only [Try.f9, aP, ii, bb, hwk, hlg, EVb, EVc, Int.reduceEq, Int.reduceToNat, Int.reduceLE, Int.reduceLT, Int.reduceAdd, Int.reduceMul, Int.reduceSub, Int.reduceNeg, Nat.reduceAdd, Nat.reduceSub, Nat.reduceMul, Nat.reduceLT, Nat.reduceBEq, Nat.reduceEqDiff, Nat.reduceLeDiff, FACTS, TYPES]
  · simp only [hl] at hlg
    cases hr : rightM p with
    | false =>
      have hps := deadPass_bad (k + 59) p nl cap nl2 cap2 (by omega) hr
      simp only [run, aP, ii, sC, sI, bb] at hps
      simp only [Try.f9, aP, ii, bb, hwk, hlg, hps, EVb, EVc, Int.reduceEq, Int.reduceToNat, Int.reduceLE, Int.reduceLT, Int.reduceAdd, Int.reduceMul, Int.reduceSub, Int.reduceNeg, Nat.reduceAdd, Nat.reduceSub, Nat.reduceMul, Nat.reduceLT, Nat.reduceBEq, Nat.reduceEqDiff, Nat.reduceLeDiff, FACTS, TYPES]
    | true =>
      clear hn
      obtain ⟨n, hn⟩ := right_nat hr
      obtain ⟨ins, regs, code, outs⟩ := p
      simp only at hn hk hn2
      subst hn
      have hr' := hr
      simp only [rightM, headM, Bool.and_eq_true, decide_eq_true_eq] at hr'
      obtain ⟨⟨hh, ho⟩, hc⟩ := hr'
      have hnl2 : nl2 = false := by
        cases nl2 with
        | false => rfl
        | true => have := hn2 rfl; subst this; simp at hh
      subst hnl2
      have hrq := deadP_right hr
      have hid := deadP_idem ⟨ins, n, code, outs⟩
      have hps := deadPass_ev (k + 59) n ins code outs nl cap cap2 (by omega) hr
      have has := Asked_ev (k + 59) n ins code outs nl cap cap2 (by omega) hr
      have hids := idle_ev (k + 59) n ins code outs nl cap false cap2 (by omega) hr
      have hnk := needed_keep ⟨ins, n, code, outs⟩
      have hil := idleL_len code (neededM ⟨ins, n, code, outs⟩) 0 (needL_length _ _).2
      obtain ⟨cq, hcq⟩ : ∃ cq, cq = keepL code (neededM ⟨ins, n, code, outs⟩) := ⟨_, rfl⟩
      have hdp : deadP ⟨ins, n, code, outs⟩ = ⟨ins, n, cq, outs⟩ := by rw [hcq]; rfl
      rw [hdp] at hrq hid hps has hnk
      rw [← hcq] at hil
      have hcl : cq.length ≤ code.length := by rw [hcq]; exact keepL_len _ _
      obtain ⟨nq, hnq⟩ : ∃ nq, nq = nlE cq := ⟨_, rfl⟩
      obtain ⟨pq, hpq⟩ : ∃ pq, pq = cpE cq := ⟨_, rfl⟩
      have hps2 := deadPass_ev (k + 59) n ins cq outs nq pq none (by omega) hrq
      have has2 := Asked_ev (k + 59) n ins cq outs nq pq none (by omega) hrq
      have hids2 := idle_ev (k + 59) n ins cq outs nq pq false none (by omega) hrq
      have hnd := Needed_ev (k + 59) n ins cq outs nq pq false none (by omega) hrq
      rw [hid] at hps2 has2
      have hsm := same_ev (k + 59) ⟨ins, n, cq, outs⟩ nq false nq false pq none pq none (by show cq.length ≤ _; omega) (by show outs.length ≤ _; omega) (by show cq.length + outs.length + 10 ≤ _; omega)
      have hal : (askedM ⟨ins, n, cq, outs⟩).length = n := by show (askL _ _).length = n; rw [askL_length]; simp [asked0, mark_length]
      have heq := eqBools_ev (k + 59) (askedM ⟨ins, n, cq, outs⟩) false false none none (by omega) (by omega)
      have hhas := has_ev (k + 59) cq.length false none (by omega) (by omega)
      have hil2 := idleL_len cq (neededM ⟨ins, n, cq, outs⟩) 0 (needL_length _ _).2
      have hk2 : keepL cq (neededM ⟨ins, n, cq, outs⟩) = cq := by
        have : deadP ⟨ins, n, cq, outs⟩ = ⟨ins, n, cq, outs⟩ := hid
        have := congrArg Pg.code this
        exact this
      rw [hk2] at hil2
      have hz : (idleL 0 cq (neededM ⟨ins, n, cq, outs⟩)).length = 0 := by omega
      rw [hnk] at hnd
      simp only [← hnq, ← hpq] at hps hps2
      have hsum : IntKind.wrap .i64 ((cq.length : Int) + (idleL 0 code (neededM ⟨ins, n, code, outs⟩)).length) = code.length := by rw [wrap64 (by omega) (by omega)]; omega
      simp only [run, aP, ii, sC, sI, sB, bb] at hps has hids hps2 has2 hids2 hnd hsm heq hhas
      simp only [Try.f9, aP, ii, bb, hwk, hlg, hps, has, hps2, has2, hnd, EVb, EVc, Int.reduceEq, Int.reduceToNat, Int.reduceLE, Int.reduceLT, Int.reduceAdd, Int.reduceMul, Int.reduceSub, Int.reduceNeg, Nat.reduceAdd, Nat.reduceSub, Nat.reduceMul, Nat.reduceLT, Nat.reduceBEq, Nat.reduceEqDiff, Nat.reduceLeDiff, FACTS, TYPES]
      rw [evalCode_drawn Try.f9 12 dr9_12]; rotate_left; rfl
      simp (config := { maxSteps := 10000000 }) only [hids, hids2, hsm, heq, hhas, hsum, hz, EVd, Nat.reducePow, Nat.reduceDiv, Nat.reduceMod, EVb, EVc, Int.reduceEq, Int.reduceToNat, Int.reduceLE, Int.reduceLT, Int.reduceAdd, Int.reduceMul, Int.reduceSub, Int.reduceNeg, Nat.reduceAdd, Nat.reduceSub, Nat.reduceMul, Nat.reduceLT, Nat.reduceBEq, Nat.reduceEqDiff, Nat.reduceLeDiff, FACTS, TYPES]
end Go.Proofs.Sw
namespace Go.Proofs.Sw
set_option linter.unusedVariables false
set_option linter.unusedSimpArgs false
set_option linter.unusedSectionVars false
open Go.Ab
variable [Globals]
/-- Memory while the idle ones are counted. -/
noncomputable abbrev hJA (s bp kp rc ro qc cp : AObj) (e : Int) (l0 : Ass) (c : Int) (st : LoopState) (pend : Option Code) : Heap :=
  [s, bp, .cells 3 [ii e], kp, rc, ro, qc, .cells 3 [ii c], cp, rfObj #[34] RA7_10 RB7_10 7 st pend (fr 127 l0)]
theorem loop_count_A (kf : Nat) (s bp kp rc ro qc : AObj) (x0 x1 x3 : IV) (e : Int) (l0 : Ass) (g3 : asc l0 3 = .ptr 2 0) (g10 : asc l0 10 = .ptr 7 0) (code : List Ins) (nl : Bool) (cap : Option Nat) (fl : List Bool) (nl2 : Bool) (cap2 : Option Nat) (hfl : fl.length = code.length) (hlen : code.length ≤ 1000000)
    (k : Nat) (l : Ass) (z : Option Out) (hz : loopR Try.prog tab (kf + 5) none LB80_3 80 39 [0, 1, 15, 16, 17] 10 k l (hJA s bp kp rc ro qc (.cells 25 [.c x0, .c x1, .c (.slice (encCode code) code.length nl cap), .c x3]) e l0 0 .ready none) = z) (hk : code.length < k)
    (a0 : asc l 0 = .yld 9) (a1 : asc l 1 = .ptr 8 0) (a15 : asc l 15 = sB fl nl2 cap2) (a16 : asc l 16 = ii fl.length) (a17 : asc l 17 = ii (0 : Nat)) :
    ∃ l' cn st pend, (z = some (.exit 0 (fr 39 l') (hJA s bp kp rc ro qc (.cells 25 [.c x0, .c x1, .c (.slice (encCode code) code.length nl cap), .c x3]) e l0 cn st pend)) ∧ st = .ready ∧ pend = none) ∨ (z = some (.ret (fr 39 l') (hJA s bp kp rc ro qc (.cells 25 [.c x0, .c x1, .c (.slice (encCode code) code.length nl cap), .c x3]) e l0 cn st pend)) ∧ st = .done ∧ pend = some (.exit 0)) := by
  subst hz
  refine loop_nat code.length (fun k l H => loopR Try.prog tab (kf + 5) none LB80_3 80 39 [0, 1, 15, 16, 17] 10 k l H)
    (fun i l H => ∃ c : Nat, c ≤ i ∧ asc l 0 = .yld 9 ∧ asc l 1 = .ptr 8 0 ∧ asc l 15 = sB fl nl2 cap2 ∧ asc l 16 = ii fl.length ∧ asc l 17 = ii i ∧
      H = hJA s bp kp rc ro qc (.cells 25 [.c x0, .c x1, .c (.slice (encCode code) code.length nl cap), .c x3]) e l0 c .ready none)
    (fun z => ∃ l' cn st pend, (z = some (.exit 0 (fr 39 l') (hJA s bp kp rc ro qc (.cells 25 [.c x0, .c x1, .c (.slice (encCode code) code.length nl cap), .c x3]) e l0 cn st pend)) ∧ st = .ready ∧ pend = none) ∨ (z = some (.ret (fr 39 l') (hJA s bp kp rc ro qc (.cells 25 [.c x0, .c x1, .c (.slice (encCode code) code.length nl cap), .c x3]) e l0 cn st pend)) ∧ st = .done ∧ pend = some (.exit 0))) ?_ code.length 0 k l _ (by omega) hk ⟨0, by omega, a0, a1, a15, a16, a17, rfl⟩
  clear a0 a1 a15 a16 a17 hk
  rintro i k l H hi ⟨c, hci, a0, a1, a15, a16, a17, rfl⟩
  have ht : trim 10 (fr 39 (keep l [0, 1, 15, 16, 17])) (hJA s bp kp rc ro qc (.cells 25 [.c x0, .c x1, .c (.slice (encCode code) code.length nl cap), .c x3]) e l0 c .ready none) = hJA s bp kp rc ro qc (.cells 25 [.c x0, .c x1, .c (.slice (encCode code) code.length nl cap), .c x3]) e l0 c .ready none := trim_same rfl
  by_cases hc : i < code.length
  · have hc2 : i < fl.length := by omega
    have hi0 : (0 : Int) ≤ i := by omega
    have hi1 : (i : Int) < fl.length := by omega
    have hi2 : (i : Int) < code.length := by omega
    have hx := encCode_get hc
    have hb := encB_getN hc2
    have hw := wrap_succ hc2 (by omega)
    have hwc : IntKind.wrap .i64 ((c : Int) + 1) = ((c + 1 : Nat) : Int) := by rw [wrap64 (by omega) (by omega)]; simp
    obtain ⟨x, hX⟩ : ∃ x, x = code[i] := ⟨_, rfl⟩
    rw [← hX] at hx
    have hn := nothing_ev (kf + 4) x.op x.to x.a x.b x.c
    simp only [run, aI, ii, bb] at hn
    cases hf : fl[i] with
    | true =>
      rw [hf] at hb
      cases hno : nothing x with
      | true =>
        rw [show nothing ⟨x.op, x.to, x.a, x.b, x.c⟩ = true from hno] at hn
        by_cases hce : (c : Int) = e
        · refine .inl ?_
          simp only [loopR_succ, ht]
          simp only [a0, a1, a15, a16, a17, hi0, hi1, hi2, hx, hb, hw, hn, g3, g10, hce, hwc, evalT_round, roundA_rf, rfAs, rfBd, rfOf, findRF, firstRegion, Option.some_or, Option.none_or, Option.getD_some, Option.some.injEq, findLoop, loopOf, loopR_succ, loopOf, findLoop, firstRegion, Option.some_or, Option.none_or, Option.getD_some, Option.some.injEq, Try.f80, Try.f7, EVb, EVc, Int.reduceEq, Int.reduceToNat, Int.reduceLE, Int.reduceLT, Int.reduceAdd, Int.reduceMul, Int.reduceSub, Int.reduceNeg, Nat.reduceAdd, Nat.reduceSub, Nat.reduceMul, Nat.reduceLT, Nat.reduceBEq, Nat.reduceEqDiff, Nat.reduceLeDiff, FACTS, TYPES]
          exact ⟨_, _, _, _, .inr ⟨rfl, rfl, rfl⟩⟩
        · refine .inr ?_
          simp only [loopR_succ, ht]
          simp only [a0, a1, a15, a16, a17, hi0, hi1, hi2, hx, hb, hw, hn, g3, g10, hce, hwc, evalT_round, roundA_rf, rfAs, rfBd, rfOf, findRF, firstRegion, Option.some_or, Option.none_or, Option.getD_some, Option.some.injEq, findLoop, loopOf, loopR_succ, loopOf, findLoop, firstRegion, Option.some_or, Option.none_or, Option.getD_some, Option.some.injEq, Try.f80, Try.f7, EVb, EVc, Int.reduceEq, Int.reduceToNat, Int.reduceLE, Int.reduceLT, Int.reduceAdd, Int.reduceMul, Int.reduceSub, Int.reduceNeg, Nat.reduceAdd, Nat.reduceSub, Nat.reduceMul, Nat.reduceLT, Nat.reduceBEq, Nat.reduceEqDiff, Nat.reduceLeDiff, FACTS, TYPES]
          exact ⟨_, _, hc, rfl, c + 1, by omega, (by rfl), (by rfl), (by rfl), (by rfl), (by rfl), (by rfl)⟩
      | false =>
        refine .inr ?_
        rw [show nothing ⟨x.op, x.to, x.a, x.b, x.c⟩ = false from hno] at hn
        simp only [loopR_succ, ht]
        simp only [a0, a1, a15, a16, a17, hi0, hi1, hi2, hx, hb, hw, hn, rfAs, rfBd, rfOf, findRF, firstRegion, Option.some_or, Option.none_or, Option.getD_some, Option.some.injEq, findLoop, loopOf, loopR_succ, loopOf, findLoop, firstRegion, Option.some_or, Option.none_or, Option.getD_some, Option.some.injEq, Try.f80, EVb, EVc, Int.reduceEq, Int.reduceToNat, Int.reduceLE, Int.reduceLT, Int.reduceAdd, Int.reduceMul, Int.reduceSub, Int.reduceNeg, Nat.reduceAdd, Nat.reduceSub, Nat.reduceMul, Nat.reduceLT, Nat.reduceBEq, Nat.reduceEqDiff, Nat.reduceLeDiff, FACTS, TYPES]
        exact ⟨_, _, hc, rfl, c, by omega, (by rfl), (by rfl), (by rfl), (by rfl), (by rfl), (by rfl)⟩
    | false =>
      rw [hf] at hb
      by_cases hce : (c : Int) = e
      · refine .inl ?_
        simp only [loopR_succ, ht]
        simp only [a0, a1, a15, a16, a17, hi0, hi1, hi2, hx, hb, hw, hn, g3, g10, hce, hwc, evalT_round, roundA_rf, rfAs, rfBd, rfOf, findRF, firstRegion, Option.some_or, Option.none_or, Option.getD_some, Option.some.injEq, findLoop, loopOf, loopR_succ, loopOf, findLoop, firstRegion, Option.some_or, Option.none_or, Option.getD_some, Option.some.injEq, Try.f80, Try.f7, EVb, EVc, Int.reduceEq, Int.reduceToNat, Int.reduceLE, Int.reduceLT, Int.reduceAdd, Int.reduceMul, Int.reduceSub, Int.reduceNeg, Nat.reduceAdd, Nat.reduceSub, Nat.reduceMul, Nat.reduceLT, Nat.reduceBEq, Nat.reduceEqDiff, Nat.reduceLeDiff, FACTS, TYPES]
        exact ⟨_, _, _, _, .inr ⟨rfl, rfl, rfl⟩⟩
      · refine .inr ?_
        simp only [loopR_succ, ht]
        simp only [a0, a1, a15, a16, a17, hi0, hi1, hi2, hx, hb, hw, hn, g3, g10, hce, hwc, evalT_round, roundA_rf, rfAs, rfBd, rfOf, findRF, firstRegion, Option.some_or, Option.none_or, Option.getD_some, Option.some.injEq, findLoop, loopOf, loopR_succ, loopOf, findLoop, firstRegion, Option.some_or, Option.none_or, Option.getD_some, Option.some.injEq, Try.f80, Try.f7, EVb, EVc, Int.reduceEq, Int.reduceToNat, Int.reduceLE, Int.reduceLT, Int.reduceAdd, Int.reduceMul, Int.reduceSub, Int.reduceNeg, Nat.reduceAdd, Nat.reduceSub, Nat.reduceMul, Nat.reduceLT, Nat.reduceBEq, Nat.reduceEqDiff, Nat.reduceLeDiff, FACTS, TYPES]
        exact ⟨_, _, hc, rfl, c + 1, by omega, (by rfl), (by rfl), (by rfl), (by rfl), (by rfl), (by rfl)⟩
  · refine .inl ?_
    obtain rfl : i = code.length := by omega
    have hc' : ¬ ((code.length : Int) < fl.length) := by omega
    simp only [loopR_succ, ht]
    simp only [a0, a1, a15, a16, a17, hc', loopR_succ, loopOf, findLoop, firstRegion, Option.some_or, Option.none_or, Option.getD_some, Option.some.injEq, Try.f80, EVb, EVc, Int.reduceEq, Int.reduceToNat, Int.reduceLE, Int.reduceLT, Int.reduceAdd, Int.reduceMul, Int.reduceSub, Int.reduceNeg, Nat.reduceAdd, Nat.reduceSub, Nat.reduceMul, Nat.reduceLT, Nat.reduceBEq, Nat.reduceEqDiff, Nat.reduceLeDiff, FACTS, TYPES]
    exact ⟨_, _, _, _, .inl ⟨rfl, rfl, rfl⟩⟩

/-- Memory while the idle ones are counted. -/
noncomputable abbrev hJB (s bp kp ro qc cp : AObj) (e : Int) (l0 : Ass) (c : Int) (st : LoopState) (pend : Option Code) : Heap :=
  [s, bp, .cells 3 [ii e], kp, ro, qc, .cells 3 [ii c], cp, rfObj #[34] RA7_10 RB7_10 7 st pend (fr 127 l0)]
theorem loop_count_B (kf : Nat) (s bp kp ro qc : AObj) (x0 x1 x3 : IV) (e : Int) (l0 : Ass) (g3 : asc l0 3 = .ptr 2 0) (g10 : asc l0 10 = .ptr 6 0) (code : List Ins) (nl : Bool) (cap : Option Nat) (fl : List Bool) (nl2 : Bool) (cap2 : Option Nat) (hfl : fl.length = code.length) (hlen : code.length ≤ 1000000)
    (k : Nat) (l : Ass) (z : Option Out) (hz : loopR Try.prog tab (kf + 5) none LB80_3 80 39 [0, 1, 15, 16, 17] 9 k l (hJB s bp kp ro qc (.cells 25 [.c x0, .c x1, .c (.slice (encCode code) code.length nl cap), .c x3]) e l0 0 .ready none) = z) (hk : code.length < k)
    (a0 : asc l 0 = .yld 8) (a1 : asc l 1 = .ptr 7 0) (a15 : asc l 15 = sB fl nl2 cap2) (a16 : asc l 16 = ii fl.length) (a17 : asc l 17 = ii (0 : Nat)) :
    ∃ l' cn st pend, (z = some (.exit 0 (fr 39 l') (hJB s bp kp ro qc (.cells 25 [.c x0, .c x1, .c (.slice (encCode code) code.length nl cap), .c x3]) e l0 cn st pend)) ∧ st = .ready ∧ pend = none) ∨ (z = some (.ret (fr 39 l') (hJB s bp kp ro qc (.cells 25 [.c x0, .c x1, .c (.slice (encCode code) code.length nl cap), .c x3]) e l0 cn st pend)) ∧ st = .done ∧ pend = some (.exit 0)) := by
  subst hz
  refine loop_nat code.length (fun k l H => loopR Try.prog tab (kf + 5) none LB80_3 80 39 [0, 1, 15, 16, 17] 9 k l H)
    (fun i l H => ∃ c : Nat, c ≤ i ∧ asc l 0 = .yld 8 ∧ asc l 1 = .ptr 7 0 ∧ asc l 15 = sB fl nl2 cap2 ∧ asc l 16 = ii fl.length ∧ asc l 17 = ii i ∧
      H = hJB s bp kp ro qc (.cells 25 [.c x0, .c x1, .c (.slice (encCode code) code.length nl cap), .c x3]) e l0 c .ready none)
    (fun z => ∃ l' cn st pend, (z = some (.exit 0 (fr 39 l') (hJB s bp kp ro qc (.cells 25 [.c x0, .c x1, .c (.slice (encCode code) code.length nl cap), .c x3]) e l0 cn st pend)) ∧ st = .ready ∧ pend = none) ∨ (z = some (.ret (fr 39 l') (hJB s bp kp ro qc (.cells 25 [.c x0, .c x1, .c (.slice (encCode code) code.length nl cap), .c x3]) e l0 cn st pend)) ∧ st = .done ∧ pend = some (.exit 0))) ?_ code.length 0 k l _ (by omega) hk ⟨0, by omega, a0, a1, a15, a16, a17, rfl⟩
  clear a0 a1 a15 a16 a17 hk
  rintro i k l H hi ⟨c, hci, a0, a1, a15, a16, a17, rfl⟩
  have ht : trim 9 (fr 39 (keep l [0, 1, 15, 16, 17])) (hJB s bp kp ro qc (.cells 25 [.c x0, .c x1, .c (.slice (encCode code) code.length nl cap), .c x3]) e l0 c .ready none) = hJB s bp kp ro qc (.cells 25 [.c x0, .c x1, .c (.slice (encCode code) code.length nl cap), .c x3]) e l0 c .ready none := trim_same rfl
  by_cases hc : i < code.length
  · have hc2 : i < fl.length := by omega
    have hi0 : (0 : Int) ≤ i := by omega
    have hi1 : (i : Int) < fl.length := by omega
    have hi2 : (i : Int) < code.length := by omega
    have hx := encCode_get hc
    have hb := encB_getN hc2
    have hw := wrap_succ hc2 (by omega)
    have hwc : IntKind.wrap .i64 ((c : Int) + 1) = ((c + 1 : Nat) : Int) := by rw [wrap64 (by omega) (by omega)]; simp
    obtain ⟨x, hX⟩ : ∃ x, x = code[i] := ⟨_, rfl⟩
    rw [← hX] at hx
    have hn := nothing_ev (kf + 4) x.op x.to x.a x.b x.c
    simp only [run, aI, ii, bb] at hn
    cases hf : fl[i] with
    | true =>
      rw [hf] at hb
      cases hno : nothing x with
      | true =>
        rw [show nothing ⟨x.op, x.to, x.a, x.b, x.c⟩ = true from hno] at hn
        by_cases hce : (c : Int) = e
        · refine .inl ?_
          simp only [loopR_succ, ht]
          simp only [a0, a1, a15, a16, a17, hi0, hi1, hi2, hx, hb, hw, hn, g3, g10, hce, hwc, evalT_round, roundA_rf, rfAs, rfBd, rfOf, findRF, firstRegion, Option.some_or, Option.none_or, Option.getD_some, Option.some.injEq, findLoop, loopOf, loopR_succ, loopOf, findLoop, firstRegion, Option.some_or, Option.none_or, Option.getD_some, Option.some.injEq, Try.f80, Try.f7, EVb, EVc, Int.reduceEq, Int.reduceToNat, Int.reduceLE, Int.reduceLT, Int.reduceAdd, Int.reduceMul, Int.reduceSub, Int.reduceNeg, Nat.reduceAdd, Nat.reduceSub, Nat.reduceMul, Nat.reduceLT, Nat.reduceBEq, Nat.reduceEqDiff, Nat.reduceLeDiff, FACTS, TYPES]
          exact ⟨_, _, _, _, .inr ⟨rfl, rfl, rfl⟩⟩
        · refine .inr ?_
          simp only [loopR_succ, ht]
          simp only [a0, a1, a15, a16, a17, hi0, hi1, hi2, hx, hb, hw, hn, g3, g10, hce, hwc, evalT_round, roundA_rf, rfAs, rfBd, rfOf, findRF, firstRegion, Option.some_or, Option.none_or, Option.getD_some, Option.some.injEq, findLoop, loopOf, loopR_succ, loopOf, findLoop, firstRegion, Option.some_or, Option.none_or, Option.getD_some, Option.some.injEq, Try.f80, Try.f7, EVb, EVc, Int.reduceEq, Int.reduceToNat, Int.reduceLE, Int.reduceLT, Int.reduceAdd, Int.reduceMul, Int.reduceSub, Int.reduceNeg, Nat.reduceAdd, Nat.reduceSub, Nat.reduceMul, Nat.reduceLT, Nat.reduceBEq, Nat.reduceEqDiff, Nat.reduceLeDiff, FACTS, TYPES]
          exact ⟨_, _, hc, rfl, c + 1, by omega, (by rfl), (by rfl), (by rfl), (by rfl), (by rfl), (by rfl)⟩
      | false =>
        refine .inr ?_
        rw [show nothing ⟨x.op, x.to, x.a, x.b, x.c⟩ = false from hno] at hn
        simp only [loopR_succ, ht]
        simp only [a0, a1, a15, a16, a17, hi0, hi1, hi2, hx, hb, hw, hn, rfAs, rfBd, rfOf, findRF, firstRegion, Option.some_or, Option.none_or, Option.getD_some, Option.some.injEq, findLoop, loopOf, loopR_succ, loopOf, findLoop, firstRegion, Option.some_or, Option.none_or, Option.getD_some, Option.some.injEq, Try.f80, EVb, EVc, Int.reduceEq, Int.reduceToNat, Int.reduceLE, Int.reduceLT, Int.reduceAdd, Int.reduceMul, Int.reduceSub, Int.reduceNeg, Nat.reduceAdd, Nat.reduceSub, Nat.reduceMul, Nat.reduceLT, Nat.reduceBEq, Nat.reduceEqDiff, Nat.reduceLeDiff, FACTS, TYPES]
        exact ⟨_, _, hc, rfl, c, by omega, (by rfl), (by rfl), (by rfl), (by rfl), (by rfl), (by rfl)⟩
    | false =>
      rw [hf] at hb
      by_cases hce : (c : Int) = e
      · refine .inl ?_
        simp only [loopR_succ, ht]
        simp only [a0, a1, a15, a16, a17, hi0, hi1, hi2, hx, hb, hw, hn, g3, g10, hce, hwc, evalT_round, roundA_rf, rfAs, rfBd, rfOf, findRF, firstRegion, Option.some_or, Option.none_or, Option.getD_some, Option.some.injEq, findLoop, loopOf, loopR_succ, loopOf, findLoop, firstRegion, Option.some_or, Option.none_or, Option.getD_some, Option.some.injEq, Try.f80, Try.f7, EVb, EVc, Int.reduceEq, Int.reduceToNat, Int.reduceLE, Int.reduceLT, Int.reduceAdd, Int.reduceMul, Int.reduceSub, Int.reduceNeg, Nat.reduceAdd, Nat.reduceSub, Nat.reduceMul, Nat.reduceLT, Nat.reduceBEq, Nat.reduceEqDiff, Nat.reduceLeDiff, FACTS, TYPES]
        exact ⟨_, _, _, _, .inr ⟨rfl, rfl, rfl⟩⟩
      · refine .inr ?_
        simp only [loopR_succ, ht]
        simp only [a0, a1, a15, a16, a17, hi0, hi1, hi2, hx, hb, hw, hn, g3, g10, hce, hwc, evalT_round, roundA_rf, rfAs, rfBd, rfOf, findRF, firstRegion, Option.some_or, Option.none_or, Option.getD_some, Option.some.injEq, findLoop, loopOf, loopR_succ, loopOf, findLoop, firstRegion, Option.some_or, Option.none_or, Option.getD_some, Option.some.injEq, Try.f80, Try.f7, EVb, EVc, Int.reduceEq, Int.reduceToNat, Int.reduceLE, Int.reduceLT, Int.reduceAdd, Int.reduceMul, Int.reduceSub, Int.reduceNeg, Nat.reduceAdd, Nat.reduceSub, Nat.reduceMul, Nat.reduceLT, Nat.reduceBEq, Nat.reduceEqDiff, Nat.reduceLeDiff, FACTS, TYPES]
        exact ⟨_, _, hc, rfl, c + 1, by omega, (by rfl), (by rfl), (by rfl), (by rfl), (by rfl), (by rfl)⟩
  · refine .inl ?_
    obtain rfl : i = code.length := by omega
    have hc' : ¬ ((code.length : Int) < fl.length) := by omega
    simp only [loopR_succ, ht]
    simp only [a0, a1, a15, a16, a17, hc', loopR_succ, loopOf, findLoop, firstRegion, Option.some_or, Option.none_or, Option.getD_some, Option.some.injEq, Try.f80, EVb, EVc, Int.reduceEq, Int.reduceToNat, Int.reduceLE, Int.reduceLT, Int.reduceAdd, Int.reduceMul, Int.reduceSub, Int.reduceNeg, Nat.reduceAdd, Nat.reduceSub, Nat.reduceMul, Nat.reduceLT, Nat.reduceBEq, Nat.reduceEqDiff, Nat.reduceLeDiff, FACTS, TYPES]
    exact ⟨_, _, _, _, .inl ⟨rfl, rfl, rfl⟩⟩

theorem trim_pre {m : Nat} {F : Fr} {a : AObj} {R G : Heap} (hm : R.length + 1 = m) : ∃ G', trim m F (a :: (R ++ G)) = a :: (R ++ G') := by
  unfold trim
  split
  · refine ⟨[], ?_⟩
    rw [← hm, List.take_succ_cons, List.take_left', List.append_nil]
    rfl
  · exact ⟨G, rfl⟩
theorem loop_want_19 (kf : Nat) (R : Heap) (v2 v5 v6 v7 v8 v9 v11 : AV) (code : List Ins) (fl : List Bool) (nl2 : Bool) (cap2 : Option Nat) (hfl : fl.length = code.length) (hlen : code.length ≤ 1000000)
    (k m : Nat) (l : Ass) (z : Option Out) (hz : loopR Try.prog tab kf none LB7_19 7 127 [2, 5, 6, 7, 8, 9, 11, 12, 71, 72, 73] m k l (.slot :: R) = z) (hm : R.length + 1 = m) (hk : code.length < k)
    (a2 : asc l 2 = v2) (a5 : asc l 5 = v5) (a6 : asc l 6 = v6) (a7 : asc l 7 = v7) (a8 : asc l 8 = v8) (a9 : asc l 9 = v9) (a11 : asc l 11 = v11) (a12 : asc l 12 = .c (.slice [] 0 true (some 0))) (a71 : asc l 71 = .c (.slice (encB (idleB code fl)) code.length nl2 cap2)) (a72 : asc l 72 = ii code.length) (a73 : asc l 73 = ii (0 : Nat)) :
    ∃ l' G, z = some (.exit 2 (fr 127 l') (lo 3 (idleL 0 code fl).length (encInts (idleL 0 code fl)) :: (R ++ G))) ∧ asc l' 2 = v2 ∧ asc l' 5 = v5 ∧ asc l' 6 = v6 ∧ asc l' 7 = v7 ∧ asc l' 8 = v8 ∧ asc l' 9 = v9 ∧ asc l' 11 = v11 ∧ asc l' 12 = lv 0 1 (idleL 0 code fl).length := by
  subst hz
  have hil := idleB_length code fl hfl
  refine loop_nat code.length (fun k l H => loopR Try.prog tab kf none LB7_19 7 127 [2, 5, 6, 7, 8, 9, 11, 12, 71, 72, 73] m k l H)
    (fun i l H => asc l 2 = v2 ∧ asc l 5 = v5 ∧ asc l 6 = v6 ∧ asc l 7 = v7 ∧ asc l 8 = v8 ∧ asc l 9 = v9 ∧ asc l 11 = v11 ∧ asc l 12 = lv 0 1 (idleL 0 (code.take i) (fl.take i)).length ∧ asc l 71 = .c (.slice (encB (idleB code fl)) code.length nl2 cap2) ∧ asc l 72 = ii code.length ∧ asc l 73 = ii i ∧
      ∃ G, H = lo 3 (idleL 0 (code.take i) (fl.take i)).length (encInts (idleL 0 (code.take i) (fl.take i))) :: (R ++ G))
    (fun z => ∃ l' G, z = some (.exit 2 (fr 127 l') (lo 3 (idleL 0 code fl).length (encInts (idleL 0 code fl)) :: (R ++ G))) ∧ asc l' 2 = v2 ∧ asc l' 5 = v5 ∧ asc l' 6 = v6 ∧ asc l' 7 = v7 ∧ asc l' 8 = v8 ∧ asc l' 9 = v9 ∧ asc l' 11 = v11 ∧ asc l' 12 = lv 0 1 (idleL 0 code fl).length) ?_ code.length 0 k l _ (by omega) hk ⟨a2, a5, a6, a7, a8, a9, a11, a12, a71, a72, a73, [], by rw [List.append_nil]; rfl⟩
  clear a2 a5 a6 a7 a8 a9 a11 a12 a71 a72 a73 hk
  rintro i k l H hi ⟨a2, a5, a6, a7, a8, a9, a11, a12, a71, a72, a73, G0, rfl⟩
  obtain ⟨G, ht⟩ := trim_pre (m := m) (F := fr 127 (keep l [2, 5, 6, 7, 8, 9, 11, 12, 71, 72, 73])) (a := lo 3 (idleL 0 (code.take i) (fl.take i)).length (encInts (idleL 0 (code.take i) (fl.take i)))) (R := R) (G := G0) hm
  by_cases hc : i < code.length
  · refine .inr ?_
    have hi0 : (0 : Int) ≤ i := by omega
    have hi2 : (i : Int) < code.length := by omega
    have hb := encB_getN (show i < (idleB code fl).length by omega)
    have hw := wrap_succ hc (by omega)
    have hg := idleB_get code fl i hc (by omega) (by omega)
    have hkt := idleL_take code fl 0 i hc (by omega)
    have hil2 := idleL_len (code.take i) (fl.take i) 0 (by simp; omega)
    rw [hg] at hb
    rw [Nat.zero_add] at hkt
    obtain ⟨f, hF⟩ : ∃ f, f = (fl[i] && !nothing code[i]) := ⟨_, rfl⟩
    have hF2 : (!fl[i] || nothing code[i]) = !f := by rw [hF]; cases fl[i] <;> simp
    rw [← hF] at hkt
    rw [hF2] at hb
    obtain ⟨acc, hA⟩ : ∃ acc, acc = idleL 0 (code.take i) (fl.take i) := ⟨_, rfl⟩
    rw [← hA] at hkt hil2 ht a12 ⊢
    obtain ⟨Q, hQ⟩ : ∃ Q, Q = R ++ G := ⟨_, rfl⟩
    rw [← hQ] at ht
    have hac : acc.length ≤ i := by simp at hil2; omega
    have hap : ∀ X : Heap, apO 3 1 8 (some 0) (lv 0 1 acc.length) (lo 3 acc.length (encInts acc) :: X) (some ([.int .i64 i], 1)) = some (lv 0 1 (acc.length + 1), lo 3 (acc.length + 1) (encInts acc ++ [.int .i64 i]) :: X) :=
      fun X => lo_length (Nat.le_trans (Nat.mul_le_mul_right 8 (show acc.length + 1 ≤ 1000001 by omega)) (by decide)) (by omega) (by rw [encInts_length]; omega)
    have hen : encInts acc ++ [.int .i64 i] = encInts (acc ++ [(i : Int)]) := by rw [encInts_append]; rfl
    cases f with
    | true =>
      simp only [loopR_succ, ht]
      simp only [a2, a5, a6, a7, a8, a9, a11, a12, a71, a72, a73, hi0, hi2, hb, hw, Bool.not_true, loopR_succ, loopOf, findLoop, firstRegion, Option.some_or, Option.none_or, Option.getD_some, Option.some.injEq, Try.f7, EVb, EVc, Int.reduceEq, Int.reduceToNat, Int.reduceLE, Int.reduceLT, Int.reduceAdd, Int.reduceMul, Int.reduceSub, Int.reduceNeg, Nat.reduceAdd, Nat.reduceSub, Nat.reduceMul, Nat.reduceLT, Nat.reduceBEq, Nat.reduceEqDiff, Nat.reduceLeDiff, FACTS, TYPES]
      refine ⟨_, _, hc, rfl, (by rfl), (by rfl), (by rfl), (by rfl), (by rfl), (by rfl), (by rfl), ?_, (by rfl), (by rfl), (by rfl), ?_⟩
      · rw [hkt]; simp; rfl
      · exact ⟨G, by rw [hkt, hQ]; simp⟩
    | false =>
      simp only [loopR_succ, ht]
      simp only [a2, a5, a6, a7, a8, a9, a11, a12, a71, a72, a73, hi0, hi2, hb, hw, hap, Bool.not_false, List.getElem?_concat_length, loopR_succ, loopOf, findLoop, firstRegion, Option.some_or, Option.none_or, Option.getD_some, Option.some.injEq, Try.f7, EVb, EVc, Int.reduceEq, Int.reduceToNat, Int.reduceLE, Int.reduceLT, Int.reduceAdd, Int.reduceMul, Int.reduceSub, Int.reduceNeg, Nat.reduceAdd, Nat.reduceSub, Nat.reduceMul, Nat.reduceLT, Nat.reduceBEq, Nat.reduceEqDiff, Nat.reduceLeDiff, FACTS, TYPES]
      refine ⟨_, _, hc, rfl, (by rfl), (by rfl), (by rfl), (by rfl), (by rfl), (by rfl), (by rfl), ?_, (by rfl), (by rfl), (by rfl), ?_⟩
      · rw [hkt]; simp; rfl
      · exact ⟨G ++ [.row false 3 [.int .i64 i]], by rw [hkt, hen, hQ]; simp⟩
  · refine .inl ?_
    obtain rfl : i = code.length := by omega
    have he : code.take code.length = code := List.take_length
    have he2 : fl.take code.length = fl := by rw [← hfl]; exact List.take_length
    rw [he, he2] at ht a12 ⊢
    have hc' : ¬ ((code.length : Int) < code.length) := by omega
    simp only [loopR_succ, ht]
    simp only [a2, a5, a6, a7, a8, a9, a11, a12, a71, a72, a73, hc', loopR_succ, loopOf, findLoop, firstRegion, Option.some_or, Option.none_or, Option.getD_some, Option.some.injEq, Try.f7, EVb, EVc, Int.reduceEq, Int.reduceToNat, Int.reduceLE, Int.reduceLT, Int.reduceAdd, Int.reduceMul, Int.reduceSub, Int.reduceNeg, Nat.reduceAdd, Nat.reduceSub, Nat.reduceMul, Nat.reduceLT, Nat.reduceBEq, Nat.reduceEqDiff, Nat.reduceLeDiff, FACTS, TYPES]
    exact ⟨_, G, rfl, (by rfl), (by rfl), (by rfl), (by rfl), (by rfl), (by rfl), (by rfl), (by rfl)⟩

theorem loop_spoil_27 (kf : Nat) (o0 o1 o2 o3 o5 : AObj) (G : Heap) (x y ov : AV) (N : Nat) (hN : N ≤ 1000000) (cs : List IV) (hcs : cs.length = N * 5)
    (k m : Nat) (hm : G.length + 7 = m) (l : Ass) (z : Option Out) (hz : loopR Try.prog tab kf none LB7_27 7 127 [2, 5, 6, 112, 113] m k l (o0 :: o1 :: o2 :: o3 :: .row false 34 cs :: o5 :: .cells 25 [x, y, .hsl 4 0 N (N * 5) 5, ov] :: G) = z) (hk : N < k)
    (a2 : asc l 2 = .ptr 1 0) (a5 : asc l 5 = .ptr 3 0) (a6 : asc l 6 = .ptr 6 0) (a112 : asc l 112 = ii N) (a113 : asc l 113 = ii (0 : Nat)) :
    ∃ l' cs', z = some (.exit 4 (fr 127 l') (o0 :: o1 :: o2 :: o3 :: .row false 34 cs' :: o5 :: .cells 25 [x, y, .hsl 4 0 N (N * 5) 5, ov] :: G)) ∧ asc l' 2 = .ptr 1 0 ∧ asc l' 5 = .ptr 3 0 ∧ asc l' 6 = .ptr 6 0 := by
  subst hz
  refine loop_nat N (fun k l H => loopR Try.prog tab kf none LB7_27 7 127 [2, 5, 6, 112, 113] m k l H)
    (fun i l H => asc l 2 = .ptr 1 0 ∧ asc l 5 = .ptr 3 0 ∧ asc l 6 = .ptr 6 0 ∧ asc l 112 = ii N ∧ asc l 113 = ii i ∧ ∃ cs : List IV, cs.length = N * 5 ∧ H = (o0 :: o1 :: o2 :: o3 :: .row false 34 cs :: o5 :: .cells 25 [x, y, .hsl 4 0 N (N * 5) 5, ov] :: G))
    (fun z => ∃ l' cs', z = some (.exit 4 (fr 127 l') (o0 :: o1 :: o2 :: o3 :: .row false 34 cs' :: o5 :: .cells 25 [x, y, .hsl 4 0 N (N * 5) 5, ov] :: G)) ∧ asc l' 2 = .ptr 1 0 ∧ asc l' 5 = .ptr 3 0 ∧ asc l' 6 = .ptr 6 0) ?_ N 0 k l _ (by omega) hk ⟨a2, a5, a6, a112, a113, cs, hcs, rfl⟩
  clear a2 a5 a6 a112 a113 hk hcs cs
  rintro i k l H hi ⟨a2, a5, a6, a112, a113, cs, hcs, rfl⟩
  have ht : ∀ cs : List IV, trim m (fr 127 (keep l [2, 5, 6, 112, 113])) (o0 :: o1 :: o2 :: o3 :: .row false 34 cs :: o5 :: .cells 25 [x, y, .hsl 4 0 N (N * 5) 5, ov] :: G) = (o0 :: o1 :: o2 :: o3 :: .row false 34 cs :: o5 :: .cells 25 [x, y, .hsl 4 0 N (N * 5) 5, ov] :: G) := fun _ => trim_same (by simp; omega)
  by_cases hc : i < N
  · refine .inr ?_
    have hi0 : (0 : Int) ≤ i := by omega
    have hi1 : (i : Int) < N := by omega
    have hi2 : i * 5 + 1 < N * 5 := by omega
    have hw := wrap_succ hc (by omega)
    simp only [loopR_succ, ht]
    simp only [a2, a5, a6, a112, a113, hi0, hi1, hi2, hc, hw, hcs, loopR_succ, loopOf, findLoop, firstRegion, Option.some_or, Option.none_or, Option.getD_some, Option.some.injEq, Try.f7, EVb, EVc, Int.reduceEq, Int.reduceToNat, Int.reduceLE, Int.reduceLT, Int.reduceAdd, Int.reduceMul, Int.reduceSub, Int.reduceNeg, Nat.reduceAdd, Nat.reduceSub, Nat.reduceMul, Nat.reduceLT, Nat.reduceBEq, Nat.reduceEqDiff, Nat.reduceLeDiff, FACTS, TYPES]
    exact ⟨_, _, rfl, (by rfl), (by rfl), (by rfl), (by rfl), (by rfl), _, by rw [List.length_set]; exact hcs, rfl⟩
  · refine .inl ?_
    have hc' : ¬ ((i : Int) < N) := by omega
    simp only [loopR_succ, ht]
    simp only [a2, a5, a6, a112, a113, hc', loopR_succ, loopOf, findLoop, firstRegion, Option.some_or, Option.none_or, Option.getD_some, Option.some.injEq, Try.f7, EVb, EVc, Int.reduceEq, Int.reduceToNat, Int.reduceLE, Int.reduceLT, Int.reduceAdd, Int.reduceMul, Int.reduceSub, Int.reduceNeg, Nat.reduceAdd, Nat.reduceSub, Nat.reduceMul, Nat.reduceLT, Nat.reduceBEq, Nat.reduceEqDiff, Nat.reduceLeDiff, FACTS, TYPES]
    exact ⟨_, _, rfl, (by rfl), (by rfl), (by rfl)⟩
end Go.Proofs.Sw
namespace Go.Proofs.Sw
set_option linter.unusedVariables false
set_option linter.unusedSimpArgs false
set_option linter.unusedSectionVars false
open Go.Ab
variable [Globals]
theorem deadPass_badR (k : Nat) (p : Pg) (nl : Bool) (cap : Option Nat) (nl2 : Bool) (cap2 : Option Nat) (hk : p.outs.length + p.code.length + 12 ≤ k) (hr : rightM p = false) : ∃ HB,
    evalT Try.prog (mkHints tab) (k+1) (.fn 30) [aP p nl cap nl2 cap2] [] = some (.tup [aP zP true (some 0) true (some 0), ii 80], HB) := by
  obtain ⟨k, rfl⟩ : ∃ j, k = j + 1 := ⟨k - 1, by omega⟩
  obtain ⟨n, hc⟩ := check_ev k p nl cap nl2 cap2 (by omega)
  simp only [run, aP, ii, bb, checkE, hr] at hc
  rw [ev30]
  simp only [Try.f30, aP, ii, bb, hc, EVb, EVc, Int.reduceEq, Int.reduceToNat, Int.reduceLE, Int.reduceLT, Int.reduceAdd, Int.reduceMul, Int.reduceSub, Int.reduceNeg, Nat.reduceAdd, Nat.reduceSub, Nat.reduceMul, Nat.reduceLT, Nat.reduceBEq, Nat.reduceEqDiff, Nat.reduceLeDiff, FACTS, TYPES]
  exact ⟨_, rfl⟩
theorem keepO_none {x y z w e : IV} {HB H : Heap} : keepO (some (.tup [.agg [.c x, .c y, .c z, .c w], .c e], HB)) H = some (.tup [.agg [.c x, .c y, .c z, .c w], .c e], H) := by
  simp [keepO, AV.imp, imps1, AV.imp1, imps0, AV.imp0, rowsOf]
theorem keepO_A {x y e : IV} {N m : Nat} {E O : List IV} {a b : AObj} {H : Heap} (hN : 0 < N) :
    keepO (some (.tup [.agg [.c x, .c y, lv 0 5 N, .hsl 3 0 m m 1], .c e], [lo 34 N E, a, b, .row false 3 O])) H = some (.tup [.agg [.c x, .c y, .hsl H.length 0 N (N * 5) 5, .hsl (H.length + 1) 0 m m 1], .c e], H ++ [.row false 34 E, .row false 3 O]) := by
  rw [lv_pos hN, lo_pos hN]
  simp [keepO, AV.imp, imps1, AV.imp1, imps0, AV.imp0, rowsOf, rowAt]
  rfl
theorem keepO_B {x y e : IV} {m : Nat} {E O : List IV} {a b : AObj} {H : Heap} :
    keepO (some (.tup [.agg [.c x, .c y, lv 0 5 0, .hsl 3 0 m m 1], .c e], [lo 34 0 E, a, b, .row false 3 O])) H = some (.tup [.agg [.c x, .c y, .c (.slice [] 0 true (some 0)), .hsl H.length 0 m m 1], .c e], H ++ [.row false 3 O]) := by
  rw [lv_zero, lo_zero]
  simp [keepO, AV.imp, imps1, AV.imp1, imps0, AV.imp0, rowsOf, rowAt]
  rfl
theorem clear23 {H : Heap} {id n : Nat} {E : List IV} (hr : H[id]? = some (.row false 3 E)) (hl : E.length = n) (hn : 0 < n) : clearA Try.prog H 23 (.hsl id 0 n n 1) = some (H.set id (.row false 3 (E.take 0 ++ (List.replicate n [IV.int .i64 0]).flatten ++ E.drop (0 + n * 1)))) := by
  have h1 : rowOf H id n = some (3, E) := rowOf_eq hr hl
  have h2 : rowLive H id = true := by unfold rowLive; rw [hr]
  have e1 : elemOfSlice Try.prog 23 = some 3 := by kernel_rfl
  have e2 : sizeT Try.prog 3 = some 1 := by kernel_rfl
  have e3 : zeroCells Try.prog 3 = some [.int .i64 0] := by kernel_rfl
  simp only [clearA, e1, e2, e3, h1, Option.bind_some]
  rw [if_pos ⟨by omega, trivial, rfl, h2, hn⟩]
theorem under_tup1 {n : Nat} {x : AV} {xs : List AV} : AV.under n (.tup (x :: xs)) = false := rfl
/-- What lies in the loop's frame is not all below. -/
theorem rf7_under {m : Nat} {a1 b : Code} {f : Nat} {ps : Array Tmp} {st : LoopState} {pend : Option Code} {l : Ass} (h : AV.under m (asc l 29) = false) : AObj.under m (rfObj ps a1 b f st pend (fr 127 l)) = false := by
  cases hh : AObj.under m (rfObj ps a1 b f st pend (fr 127 l)) with
  | false => rfl
  | true =>
    have h2 : PT.all (AV.under m) (fr 127 l).t = true := hh
    have h3 := PT.all_get (p := AV.under m) rfl _ h2 29
    have h4 : PT.get (fr 127 l).t 29 = asc l 29 := get_fr (n := 127) (t := 29) (by decide)
    rw [h4, h] at h3
    cases h3
set_option maxHeartbeats 4000000 in
theorem DeadPasses_bad (k : Nat) (p : Pg) (nl : Bool) (cap : Option Nat) (nl2 : Bool) (cap2 : Option Nat) (e : Int) (hk : p.outs.length + p.code.length + 400 ≤ k) (hs : p.code.length * 40 ≤ roomBytes) (hs2 : p.outs.length * 8 ≤ roomBytes) (hl : ¬ (300 < p.code.length ∧ p.code.length ≤ 16384)) (hr : rightM p = false) :
    run (k+1) 7 [aP p nl cap nl2 cap2, ii e] = some (bb true) := by
  obtain ⟨k, rfl⟩ : ∃ j, k = j + 60 := ⟨k - 60, by omega⟩
  have hwk := l15works_ev k
  have hlg := long_ev (k + 59) p nl cap nl2 cap2
  have hro : (roomBytes : Nat) = 140737488355328 := rfl
  have hcp := rCopy_ev (k + 59) p nl nl2 cap cap2 hs hs2
  obtain ⟨HB, hps⟩ := deadPass_badR (k + 59) p nl cap nl2 cap2 (by omega) hr
  have has := Asked_bad (k + 59) p nl cap nl2 cap2 (by omega) hr
  have hbk := Idle_raw (k + 59) (ii p.ins) (ii p.regs) (sC p.code nl cap) (sI p.outs nl2 cap2) rfl
  have hba := Idle_ans (k + 59) (ii p.ins) (ii p.regs) (sC p.code nl cap) (sI p.outs nl2 cap2) rfl
  obtain ⟨cn, hck⟩ := check_ev (k + 58) p nl cap nl2 cap2 (by omega)
  have hids := idle_bad (k + 59) p nl cap nl2 cap2 (by omega) hr
  have hsm := rSame_ev (k + 59) p (nlE p.code) (nlE p.outs) nl nl2 (cpE p.code) (cpE p.outs) cap cap2 (by omega) (by omega) (by omega)
  have hrt := rRight_ev (k + 59) p nl cap nl2 cap2 (by omega)
  have hsz := rSame_ev (k + 59) zP true true true true (some 0) (some 0) (some 0) (some 0) (by decide) (by decide) (by show 0 + 0 + 10 ≤ _; omega)
  rw [show aP zP true (some 0) true (some 0) = .agg [.c (.int .i64 0), .c (.int .i64 0), .c (.slice [] 0 true (some 0)), .c (.slice [] 0 true (some 0))] from rfl] at hps hsz
  simp only [run, aP, ii, sC, sI, bb, hl, checkE, hr] at hwk hlg hcp hps has hbk hba hck hids hsm hrt hsz
  rw [run, ev7, ans_trim]
  simp only [Try.f7, aP, ii, bb, hwk, hlg, hcp, hps, keepO_none, has, hbk, hba, doCall_cxK, EVb, EVc, Int.reduceEq, Int.reduceToNat, Int.reduceLE, Int.reduceLT, Int.reduceAdd, Int.reduceMul, Int.reduceSub, Int.reduceNeg, Nat.reduceAdd, Nat.reduceSub, Nat.reduceMul, Nat.reduceLT, Nat.reduceBEq, Nat.reduceEqDiff, Nat.reduceLeDiff, FACTS, TYPES]
  rw [evalCode_rf RA7_10 RB7_10]; rotate_left; rfl; rfl
  simp only [ev80, Try.f80, hck, hids, hsm, hrt, hsz, rf7_under, under_tup1, EVb, EVc, Int.reduceEq, Int.reduceToNat, Int.reduceLE, Int.reduceLT, Int.reduceAdd, Int.reduceMul, Int.reduceSub, Int.reduceNeg, Nat.reduceAdd, Nat.reduceSub, Nat.reduceMul, Nat.reduceLT, Nat.reduceBEq, Nat.reduceEqDiff, Nat.reduceLeDiff, FACTS, TYPES]
end Go.Proofs.Sw
