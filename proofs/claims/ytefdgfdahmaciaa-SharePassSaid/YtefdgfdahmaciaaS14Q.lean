/- A part of the proof: what functions of the program answer, of whatever arguments, reckoned with letters by the interpreter's equations. Its conditions stand in each theorem. -/
import Derived.Test.YtefdgfdahmaciaaS14P
namespace Go.Proofs.Sw
set_option linter.unusedVariables false
set_option linter.unusedSimpArgs false
set_option linter.unusedSectionVars false
open Go.Ab
variable [Globals]
set_option maxHeartbeats 8000000 in
theorem loop_r14Pass (kf : Nat) (x0 x1 x2 x3 y0 y1 : IV) (zz : List AV) (hz0 : (zz.all fun e => AV.under 8 e) = true) (S0 : St) (code : List Ins) (nl : Bool) (cap : Option Nat) (hx2 : x2 = .slice (encCode code) code.length nl cap) (hcode : ∀ i ∈ code, mayM i S0.held.length = true) (hlen : code.length ≤ 1000) (hreg : S0.held.length ≤ 128) (hkf : 3000 ≤ kf) (hk0 : S0.keys = []) (hnx : 0 ≤ S0.next ∧ S0.next ≤ 100000) (k : Nat) (l : Ass) (z : Option Out) (hz : loopR Try.prog tab (kf + 8) none LB19_4 19 139 [1, 2, 3, 4, 5] 8 k l ([codeO (passAt S0 code 0).2, .slot, lo 110 (passAt S0 code 0).1.keys.length (encKeys (passAt S0 code 0).1.keys), .cells 25 [.c x0, .c x1, .c x2, .c x3], .cells 25 zz, .cells 61 [hI 6 (passAt S0 code 0).1.held.length, lv 2 6 (passAt S0 code 0).1.keys.length, ii (passAt S0 code 0).1.next], rI (passAt S0 code 0).1.held, .cells 25 [.c y0, .c y1, lv 0 5 (passAt S0 code 0).2.length, .c (.slice [] 0 true (some 0))]]) = z) (hk : code.length < k) (a1 : asc l 1 = .ptr 3 0) (a2 : asc l 2 = .ptr 4 0) (a3 : asc l 3 = .ptr 5 0) (a4 : asc l 4 = .ptr 7 0) (a5 : asc l 5 = ii 0) :
    ∃ l', z = some (.exit 0 (fr 139 l') ([codeO (passAt S0 code code.length).2, .slot, lo 110 (passAt S0 code code.length).1.keys.length (encKeys (passAt S0 code code.length).1.keys), .cells 25 [.c x0, .c x1, .c x2, .c x3], .cells 25 zz, .cells 61 [hI 6 (passAt S0 code code.length).1.held.length, lv 2 6 (passAt S0 code code.length).1.keys.length, ii (passAt S0 code code.length).1.next], rI (passAt S0 code code.length).1.held, .cells 25 [.c y0, .c y1, lv 0 5 (passAt S0 code code.length).2.length, .c (.slice [] 0 true (some 0))]])) ∧ asc l' 1 = .ptr 3 0 ∧ asc l' 2 = .ptr 4 0 ∧ asc l' 3 = .ptr 5 0 ∧ asc l' 4 = .ptr 7 0 ∧ asc l' 5 = ii code.length := by
  subst hz
  refine loop_nat code.length (fun k l H => loopR Try.prog tab (kf + 8) none LB19_4 19 139 [1, 2, 3, 4, 5] 8 k l H)
    (fun i l H => asc l 1 = .ptr 3 0 ∧ asc l 2 = .ptr 4 0 ∧ asc l 3 = .ptr 5 0 ∧ asc l 4 = .ptr 7 0 ∧ asc l 5 = ii i ∧ ∃ G, H = ([codeO (passAt S0 code i).2, .slot, lo 110 (passAt S0 code i).1.keys.length (encKeys (passAt S0 code i).1.keys), .cells 25 [.c x0, .c x1, .c x2, .c x3], .cells 25 zz, .cells 61 [hI 6 (passAt S0 code i).1.held.length, lv 2 6 (passAt S0 code i).1.keys.length, ii (passAt S0 code i).1.next], rI (passAt S0 code i).1.held, .cells 25 [.c y0, .c y1, lv 0 5 (passAt S0 code i).2.length, .c (.slice [] 0 true (some 0))]]) ++ G)
    (fun z => ∃ l', z = some (.exit 0 (fr 139 l') ([codeO (passAt S0 code code.length).2, .slot, lo 110 (passAt S0 code code.length).1.keys.length (encKeys (passAt S0 code code.length).1.keys), .cells 25 [.c x0, .c x1, .c x2, .c x3], .cells 25 zz, .cells 61 [hI 6 (passAt S0 code code.length).1.held.length, lv 2 6 (passAt S0 code code.length).1.keys.length, ii (passAt S0 code code.length).1.next], rI (passAt S0 code code.length).1.held, .cells 25 [.c y0, .c y1, lv 0 5 (passAt S0 code code.length).2.length, .c (.slice [] 0 true (some 0))]])) ∧ asc l' 1 = .ptr 3 0 ∧ asc l' 2 = .ptr 4 0 ∧ asc l' 3 = .ptr 5 0 ∧ asc l' 4 = .ptr 7 0 ∧ asc l' 5 = ii code.length) ?_ code.length 0 k l _ (by omega) hk ⟨a1, a2, a3, a4, a5, [], by rw [List.append_nil]⟩
  clear hk a1 a2 a3 a4 a5
  rintro i k l H hi ⟨a1, a2, a3, a4, a5, G, rfl⟩
  have ht : trim 8 (fr 139 (keep l [1, 2, 3, 4, 5])) (([codeO (passAt S0 code i).2, .slot, lo 110 (passAt S0 code i).1.keys.length (encKeys (passAt S0 code i).1.keys), .cells 25 [.c x0, .c x1, .c x2, .c x3], .cells 25 zz, .cells 61 [hI 6 (passAt S0 code i).1.held.length, lv 2 6 (passAt S0 code i).1.keys.length, ii (passAt S0 code i).1.next], rI (passAt S0 code i).1.held, .cells 25 [.c y0, .c y1, lv 0 5 (passAt S0 code i).2.length, .c (.slice [] 0 true (some 0))]]) ++ G) = ([codeO (passAt S0 code i).2, .slot, lo 110 (passAt S0 code i).1.keys.length (encKeys (passAt S0 code i).1.keys), .cells 25 [.c x0, .c x1, .c x2, .c x3], .cells 25 zz, .cells 61 [hI 6 (passAt S0 code i).1.held.length, lv 2 6 (passAt S0 code i).1.keys.length, ii (passAt S0 code i).1.next], rI (passAt S0 code i).1.held, .cells 25 [.c y0, .c y1, lv 0 5 (passAt S0 code i).2.length, .c (.slice [] 0 true (some 0))]]) := trim_app (by simp) (by simp only [a1, a2, a3, a4, a5, hz0, EVb, EVc, Int.reduceEq, Int.reduceToNat, Int.reduceLE, Int.reduceLT, Int.reduceAdd, Int.reduceMul, Int.reduceSub, Int.reduceNeg, Nat.reduceAdd, Nat.reduceSub, Nat.reduceMul, Nat.reduceLT, Nat.reduceBEq, Nat.reduceEqDiff, Nat.reduceLeDiff]) (by simp only [hz0, EVb, EVc, Int.reduceEq, Int.reduceToNat, Int.reduceLE, Int.reduceLT, Int.reduceAdd, Int.reduceMul, Int.reduceSub, Int.reduceNeg, Nat.reduceAdd, Nat.reduceSub, Nat.reduceMul, Nat.reduceLT, Nat.reduceBEq, Nat.reduceEqDiff, Nat.reduceLeDiff])
  by_cases hc : i < code.length
  · have hc' : (i : Int) < ((code.length : Nat) : Int) := by omega
    have hc0 : (0 : Int) ≤ i := by omega
    have hw : IntKind.wrap .i64 ((i : Int) + 1) = ((i + 1 : Nat) : Int) := by rw [wrap64 (by omega) (by omega)]; omega
    have hx := encCode_get hc
    obtain ⟨x, hX⟩ : ∃ x, x = code[i] := ⟨_, rfl⟩
    rw [← hX] at hx
    obtain ⟨f1, f2, f3, f4, f5⟩ := passAt_facts S0 code i
    have hmm := hcode x (by rw [hX]; exact List.getElem_mem hc)
    have hm := mayM_facts hmm
    have hmb := mayM_b hmm
    have hst : passAt S0 code (i + 1) = passStep (passAt S0 code i) i x := by rw [passAt_succ hc, hX]
    rw [hst]
    obtain ⟨S, hS⟩ : ∃ S, S = (passAt S0 code i).1 := ⟨_, rfl⟩
    obtain ⟨out, hO⟩ : ∃ out, out = (passAt S0 code i).2 := ⟨_, rfl⟩
    have hps : passAt S0 code i = (S, out) := by rw [hS, hO]
    rw [hps] at f1 f2 f3 f4 f5 ht ⊢
    simp only at f1 f2 f3 f4 f5 ht
    have hk0' : S0.keys.length = 0 := by rw [hk0]; rfl
    have hap := fun X cs => lo_length (e := 34) (n := out.length) (sz := 5) (by_ := 40) (cells := encCode out) (cs := cs) (X := X) (Nat.le_trans (Nat.mul_le_mul_right 40 (show out.length + 1 ≤ 20001 by omega)) (by decide)) (by decide) (encCode_length _)
    rw [← f1] at hm
    obtain ⟨⟨m1, m2⟩, ⟨m3, m4⟩, ⟨m5, m6⟩, m7⟩ := hm
    have hel := encInts_length S.held
    have ht2 : x.to.toNat < S.held.length := by omega
    have hxt := encInts_getD m3 m4
    have hxa := encInts_getD m5 m6
    clear hst hps hcode hX hmm
    by_cases h1 : x.op = 1
    · have hr1 := reckonM_one (S := S) (n := (i : Int)) h1
      simp only [passStep, hr1]
      obtain ⟨v, hv⟩ : ∃ v, v = S.held.getD x.a.toNat 0 := ⟨_, rfl⟩
      have h3 : ¬ x.op = 3 := by omega
      have h4 : ¬ x.op = 4 := by omega
      have hb0 := hmb h3 h4
      by_cases hK : S.keys = []
      · have hR := sReckon1A_ev (kf + 7) S hK i x.to x.a x.b x.c ⟨m5, m6⟩
        have hH := fun v => rHolderA_ev (kf + 7) S hK v (by omega) (by omega)
        have e1 : lv 2 6 S.keys.length = .c (.slice [] 0 true (some 0)) := by rw [hK]; rfl
        have e2 : lo 110 S.keys.length (encKeys S.keys) = .slot := by rw [hK]; rfl
        simp only [aI, ii, staO, e1] at hR hH
        rw [← hv] at hR hxa ⊢
        simp only [loopR_succ, ht]
        simp only [a1, a2, a3, a4, a5, hc', hc0, hw, hx, hR, h1, e1, e2, hx2, loopR_succ, loopOf, findLoop, firstRegion, Option.some_or, Option.none_or, Option.getD_some, Option.some.injEq, Try.f19, EVb, EVc, Int.reduceEq, Int.reduceToNat, Int.reduceLE, Int.reduceLT, Int.reduceAdd, Int.reduceMul, Int.reduceSub, Int.reduceNeg, Nat.reduceAdd, Nat.reduceSub, Nat.reduceMul, Nat.reduceLT, Nat.reduceBEq, Nat.reduceEqDiff, Nat.reduceLeDiff, FACTS, TYPES]
        rw [evalCode_drawn Try.f19 8 dr19_8]; rotate_left; rfl
        simp only [a1, a2, a3, a4, a5, hc', hc0, hw, hel, hxa, m5, m6, hH, e1, hx2, EVd, Nat.reducePow, Nat.reduceDiv, Nat.reduceMod, EVb, EVc, Int.reduceEq, Int.reduceToNat, Int.reduceLE, Int.reduceLT, Int.reduceAdd, Int.reduceMul, Int.reduceSub, Int.reduceNeg, Nat.reduceAdd, Nat.reduceSub, Nat.reduceMul, Nat.reduceLT, Nat.reduceBEq, Nat.reduceEqDiff, Nat.reduceLeDiff, FACTS, TYPES]
        try simp only [a1, a2, a3, a4, a5, hc', hc0, hw, h1, e1, hx2, EVb, EVc, Int.reduceEq, Int.reduceToNat, Int.reduceLE, Int.reduceLT, Int.reduceAdd, Int.reduceMul, Int.reduceSub, Int.reduceNeg, Nat.reduceAdd, Nat.reduceSub, Nat.reduceMul, Nat.reduceLT, Nat.reduceBEq, Nat.reduceEqDiff, Nat.reduceLeDiff, FACTS, TYPES]
        try simp only [a1, a2, a3, a4, a5, hc', hc0, hw, hH, ents_ids, h1, e1, e2, hx2, EVb, EVc, Int.reduceEq, Int.reduceToNat, Int.reduceLE, Int.reduceLT, Int.reduceAdd, Int.reduceMul, Int.reduceSub, Int.reduceNeg, Nat.reduceAdd, Nat.reduceSub, Nat.reduceMul, Nat.reduceLT, Nat.reduceBEq, Nat.reduceEqDiff, Nat.reduceLeDiff, FACTS, TYPES]
        rw [evalCode_drawn Try.f19 13 dr19_13]; rotate_left; rfl
        simp only [a1, a2, a3, a4, a5, hc', hc0, hw, hel, hxt, m3, m4, h1, e1, e2, hx2, EVd, Nat.reducePow, Nat.reduceDiv, Nat.reduceMod, EVb, EVc, Int.reduceEq, Int.reduceToNat, Int.reduceLE, Int.reduceLT, Int.reduceAdd, Int.reduceMul, Int.reduceSub, Int.reduceNeg, Nat.reduceAdd, Nat.reduceSub, Nat.reduceMul, Nat.reduceLT, Nat.reduceBEq, Nat.reduceEqDiff, Nat.reduceLeDiff, FACTS, TYPES]
        by_cases he : S.held.getD x.to.toNat 0 = v
        · rw [if_pos he]
          try simp only [a1, a2, a3, a4, a5, hc', hc0, hw, he, h1, e1, e2, hx2, EVb, EVc, Int.reduceEq, Int.reduceToNat, Int.reduceLE, Int.reduceLT, Int.reduceAdd, Int.reduceMul, Int.reduceSub, Int.reduceNeg, Nat.reduceAdd, Nat.reduceSub, Nat.reduceMul, Nat.reduceLT, Nat.reduceBEq, Nat.reduceEqDiff, Nat.reduceLeDiff, FACTS, TYPES]
          refine .inr ⟨_, _, hc, rfl, (by rfl), (by rfl), (by rfl), (by rfl), (by rfl), ?_⟩
          try simp only [codeO, h1, e1, e2]
          exact ⟨_, by rfl⟩
        · rw [if_neg he]
          try simp only [a1, a2, a3, a4, a5, hc', hc0, hw, he, h1, e1, e2, hx2, EVb, EVc, Int.reduceEq, Int.reduceToNat, Int.reduceLE, Int.reduceLT, Int.reduceAdd, Int.reduceMul, Int.reduceSub, Int.reduceNeg, Nat.reduceAdd, Nat.reduceSub, Nat.reduceMul, Nat.reduceLT, Nat.reduceBEq, Nat.reduceEqDiff, Nat.reduceLeDiff, FACTS, TYPES]
          by_cases h0 : 0 ≤ holdM v S.held 0
          · have hem : emitM v S.held x = ⟨1, x.to, holdM v S.held 0, 0, 0⟩ := if_pos h0
            rw [hem]
            try simp only [a1, a2, a3, a4, a5, hc', hc0, hw, h0, hap, h1, e1, e2, hx2, EVb, EVc, Int.reduceEq, Int.reduceToNat, Int.reduceLE, Int.reduceLT, Int.reduceAdd, Int.reduceMul, Int.reduceSub, Int.reduceNeg, Nat.reduceAdd, Nat.reduceSub, Nat.reduceMul, Nat.reduceLT, Nat.reduceBEq, Nat.reduceEqDiff, Nat.reduceLeDiff, FACTS, TYPES]
            rw [evalCode_drawn Try.f19 17 dr19_17]; rotate_left; rfl
            simp only [a1, a2, a3, a4, a5, hc', hc0, hw, hel, m3, m4, ht2, encInts_set, h1, e1, e2, hx2, EVd, Nat.reducePow, Nat.reduceDiv, Nat.reduceMod, EVb, EVc, Int.reduceEq, Int.reduceToNat, Int.reduceLE, Int.reduceLT, Int.reduceAdd, Int.reduceMul, Int.reduceSub, Int.reduceNeg, Nat.reduceAdd, Nat.reduceSub, Nat.reduceMul, Nat.reduceLT, Nat.reduceBEq, Nat.reduceEqDiff, Nat.reduceLeDiff, FACTS, TYPES]
            refine .inr ⟨_, _, hc, rfl, (by rfl), (by rfl), (by rfl), (by rfl), (by rfl), ?_⟩
            simp only [codeO, List.length_append, List.length_cons, List.length_nil, Nat.zero_add, List.length_set, encCode_append, encCode, enc1, List.append_nil, h1, e1, e2]
            exact ⟨_, by rfl⟩
          · have hem : emitM v S.held x = ⟨1, x.to, holdM v S.held 0, 0, x.c⟩ := by rw [emitM, if_neg h0]; (simp only [askM, h1, hb0, ← hv]; rfl)
            rw [hem]
            try simp only [a1, a2, a3, a4, a5, hc', hc0, hw, h0, hap, h1, e1, e2, hx2, EVb, EVc, Int.reduceEq, Int.reduceToNat, Int.reduceLE, Int.reduceLT, Int.reduceAdd, Int.reduceMul, Int.reduceSub, Int.reduceNeg, Nat.reduceAdd, Nat.reduceSub, Nat.reduceMul, Nat.reduceLT, Nat.reduceBEq, Nat.reduceEqDiff, Nat.reduceLeDiff, FACTS, TYPES]
            rw [evalCode_drawn Try.f19 17 dr19_17]; rotate_left; rfl
            simp only [a1, a2, a3, a4, a5, hc', hc0, hw, hel, m3, m4, ht2, encInts_set, h1, e1, e2, hx2, EVd, Nat.reducePow, Nat.reduceDiv, Nat.reduceMod, EVb, EVc, Int.reduceEq, Int.reduceToNat, Int.reduceLE, Int.reduceLT, Int.reduceAdd, Int.reduceMul, Int.reduceSub, Int.reduceNeg, Nat.reduceAdd, Nat.reduceSub, Nat.reduceMul, Nat.reduceLT, Nat.reduceBEq, Nat.reduceEqDiff, Nat.reduceLeDiff, FACTS, TYPES]
            refine .inr ⟨_, _, hc, rfl, (by rfl), (by rfl), (by rfl), (by rfl), (by rfl), ?_⟩
            simp only [codeO, List.length_append, List.length_cons, List.length_nil, Nat.zero_add, List.length_set, encCode_append, encCode, enc1, List.append_nil, h1, e1, e2]
            exact ⟨_, by rfl⟩
      · have hKp : 0 < S.keys.length := List.length_pos_iff.2 hK
        have hR := sReckon1B_ev (kf + 7) S hK i x.to x.a x.b x.c ⟨m5, m6⟩
        have hH := fun v => rHolderB_ev (kf + 7) S hK v (by omega) (by omega)
        have e1 := lv_pos (s := 2) (sz := 6) hKp
        have e2 := lo_pos (e := 110) (cells := encKeys S.keys) hKp
        simp only [aI, ii, staO, keO, e1, e2] at hR hH
        rw [← hv] at hR hxa ⊢
        simp only [loopR_succ, ht]
        simp only [a1, a2, a3, a4, a5, hc', hc0, hw, hx, hR, h1, e1, e2, hx2, loopR_succ, loopOf, findLoop, firstRegion, Option.some_or, Option.none_or, Option.getD_some, Option.some.injEq, Try.f19, EVb, EVc, Int.reduceEq, Int.reduceToNat, Int.reduceLE, Int.reduceLT, Int.reduceAdd, Int.reduceMul, Int.reduceSub, Int.reduceNeg, Nat.reduceAdd, Nat.reduceSub, Nat.reduceMul, Nat.reduceLT, Nat.reduceBEq, Nat.reduceEqDiff, Nat.reduceLeDiff, FACTS, TYPES]
        rw [evalCode_drawn Try.f19 8 dr19_8]; rotate_left; rfl
        simp only [a1, a2, a3, a4, a5, hc', hc0, hw, hel, hxa, m5, m6, hH, e1, e2, hx2, EVd, Nat.reducePow, Nat.reduceDiv, Nat.reduceMod, EVb, EVc, Int.reduceEq, Int.reduceToNat, Int.reduceLE, Int.reduceLT, Int.reduceAdd, Int.reduceMul, Int.reduceSub, Int.reduceNeg, Nat.reduceAdd, Nat.reduceSub, Nat.reduceMul, Nat.reduceLT, Nat.reduceBEq, Nat.reduceEqDiff, Nat.reduceLeDiff, FACTS, TYPES]
        try simp only [a1, a2, a3, a4, a5, hc', hc0, hw, h1, e1, e2, hx2, EVb, EVc, Int.reduceEq, Int.reduceToNat, Int.reduceLE, Int.reduceLT, Int.reduceAdd, Int.reduceMul, Int.reduceSub, Int.reduceNeg, Nat.reduceAdd, Nat.reduceSub, Nat.reduceMul, Nat.reduceLT, Nat.reduceBEq, Nat.reduceEqDiff, Nat.reduceLeDiff, FACTS, TYPES]
        try simp only [a1, a2, a3, a4, a5, hc', hc0, hw, hH, ents_ids, h1, e1, e2, hx2, EVb, EVc, Int.reduceEq, Int.reduceToNat, Int.reduceLE, Int.reduceLT, Int.reduceAdd, Int.reduceMul, Int.reduceSub, Int.reduceNeg, Nat.reduceAdd, Nat.reduceSub, Nat.reduceMul, Nat.reduceLT, Nat.reduceBEq, Nat.reduceEqDiff, Nat.reduceLeDiff, FACTS, TYPES]
        rw [evalCode_drawn Try.f19 13 dr19_13]; rotate_left; rfl
        simp only [a1, a2, a3, a4, a5, hc', hc0, hw, hel, hxt, m3, m4, h1, e1, e2, hx2, EVd, Nat.reducePow, Nat.reduceDiv, Nat.reduceMod, EVb, EVc, Int.reduceEq, Int.reduceToNat, Int.reduceLE, Int.reduceLT, Int.reduceAdd, Int.reduceMul, Int.reduceSub, Int.reduceNeg, Nat.reduceAdd, Nat.reduceSub, Nat.reduceMul, Nat.reduceLT, Nat.reduceBEq, Nat.reduceEqDiff, Nat.reduceLeDiff, FACTS, TYPES]
        by_cases he : S.held.getD x.to.toNat 0 = v
        · rw [if_pos he]
          try simp only [a1, a2, a3, a4, a5, hc', hc0, hw, he, h1, e1, e2, hx2, EVb, EVc, Int.reduceEq, Int.reduceToNat, Int.reduceLE, Int.reduceLT, Int.reduceAdd, Int.reduceMul, Int.reduceSub, Int.reduceNeg, Nat.reduceAdd, Nat.reduceSub, Nat.reduceMul, Nat.reduceLT, Nat.reduceBEq, Nat.reduceEqDiff, Nat.reduceLeDiff, FACTS, TYPES]
          refine .inr ⟨_, _, hc, rfl, (by rfl), (by rfl), (by rfl), (by rfl), (by rfl), ?_⟩
          try simp only [codeO, h1, e1, e2]
          exact ⟨_, by rfl⟩
        · rw [if_neg he]
          try simp only [a1, a2, a3, a4, a5, hc', hc0, hw, he, h1, e1, e2, hx2, EVb, EVc, Int.reduceEq, Int.reduceToNat, Int.reduceLE, Int.reduceLT, Int.reduceAdd, Int.reduceMul, Int.reduceSub, Int.reduceNeg, Nat.reduceAdd, Nat.reduceSub, Nat.reduceMul, Nat.reduceLT, Nat.reduceBEq, Nat.reduceEqDiff, Nat.reduceLeDiff, FACTS, TYPES]
          by_cases h0 : 0 ≤ holdM v S.held 0
          · have hem : emitM v S.held x = ⟨1, x.to, holdM v S.held 0, 0, 0⟩ := if_pos h0
            rw [hem]
            try simp only [a1, a2, a3, a4, a5, hc', hc0, hw, h0, hap, h1, e1, e2, hx2, EVb, EVc, Int.reduceEq, Int.reduceToNat, Int.reduceLE, Int.reduceLT, Int.reduceAdd, Int.reduceMul, Int.reduceSub, Int.reduceNeg, Nat.reduceAdd, Nat.reduceSub, Nat.reduceMul, Nat.reduceLT, Nat.reduceBEq, Nat.reduceEqDiff, Nat.reduceLeDiff, FACTS, TYPES]
            rw [evalCode_drawn Try.f19 17 dr19_17]; rotate_left; rfl
            simp only [a1, a2, a3, a4, a5, hc', hc0, hw, hel, m3, m4, ht2, encInts_set, h1, e1, e2, hx2, EVd, Nat.reducePow, Nat.reduceDiv, Nat.reduceMod, EVb, EVc, Int.reduceEq, Int.reduceToNat, Int.reduceLE, Int.reduceLT, Int.reduceAdd, Int.reduceMul, Int.reduceSub, Int.reduceNeg, Nat.reduceAdd, Nat.reduceSub, Nat.reduceMul, Nat.reduceLT, Nat.reduceBEq, Nat.reduceEqDiff, Nat.reduceLeDiff, FACTS, TYPES]
            refine .inr ⟨_, _, hc, rfl, (by rfl), (by rfl), (by rfl), (by rfl), (by rfl), ?_⟩
            simp only [codeO, List.length_append, List.length_cons, List.length_nil, Nat.zero_add, List.length_set, encCode_append, encCode, enc1, List.append_nil, h1, e1, e2]
            exact ⟨_, by rfl⟩
          · have hem : emitM v S.held x = ⟨1, x.to, holdM v S.held 0, 0, x.c⟩ := by rw [emitM, if_neg h0]; (simp only [askM, h1, hb0, ← hv]; rfl)
            rw [hem]
            try simp only [a1, a2, a3, a4, a5, hc', hc0, hw, h0, hap, h1, e1, e2, hx2, EVb, EVc, Int.reduceEq, Int.reduceToNat, Int.reduceLE, Int.reduceLT, Int.reduceAdd, Int.reduceMul, Int.reduceSub, Int.reduceNeg, Nat.reduceAdd, Nat.reduceSub, Nat.reduceMul, Nat.reduceLT, Nat.reduceBEq, Nat.reduceEqDiff, Nat.reduceLeDiff, FACTS, TYPES]
            rw [evalCode_drawn Try.f19 17 dr19_17]; rotate_left; rfl
            simp only [a1, a2, a3, a4, a5, hc', hc0, hw, hel, m3, m4, ht2, encInts_set, h1, e1, e2, hx2, EVd, Nat.reducePow, Nat.reduceDiv, Nat.reduceMod, EVb, EVc, Int.reduceEq, Int.reduceToNat, Int.reduceLE, Int.reduceLT, Int.reduceAdd, Int.reduceMul, Int.reduceSub, Int.reduceNeg, Nat.reduceAdd, Nat.reduceSub, Nat.reduceMul, Nat.reduceLT, Nat.reduceBEq, Nat.reduceEqDiff, Nat.reduceLeDiff, FACTS, TYPES]
            refine .inr ⟨_, _, hc, rfl, (by rfl), (by rfl), (by rfl), (by rfl), (by rfl), ?_⟩
            simp only [codeO, List.length_append, List.length_cons, List.length_nil, Nat.zero_add, List.length_set, encCode_append, encCode, enc1, List.append_nil, h1, e1, e2]
            exact ⟨_, by rfl⟩
    · obtain ⟨ks, nx, hRR⟩ : ∃ ks nx, (reckonM S i x).2.2 = ⟨S.held, ks, nx⟩ := ⟨(reckonM S i x).2.2.keys, (reckonM S i x).2.2.next, by rw [← reckonM_held S i x]⟩
      have hp := reckonM_pos (S := S) (n := (i : Int)) h1
      rw [hRR] at hp
      simp only at hp
      have hKs : ks ≠ [] := List.length_pos_iff.1 hp
      obtain ⟨v, hv⟩ : ∃ v, v = (reckonM S i x).1 := ⟨_, rfl⟩
      simp only [passStep, ← hv, hRR]
      have e3 := lv_pos (s := 2) (sz := 6) hp
      have e4 := lo_pos (e := 110) (cells := encKeys ks) hp
      have hH := fun v => rHolderB_ev (kf + 7) ⟨S.held, ks, nx⟩ hKs v (by simp only; omega) (by simp only; omega)
      simp only [ii, staO, keO, e3, e4] at hH
      by_cases hK : S.keys = []
      · obtain ⟨G0, hR⟩ := sReckonA_ev (kf + 6) S hK i x.op x.to x.a x.b x.c h1 ⟨m5, m6⟩ m7 (by omega) (by omega) (by omega)
        have e1 : lv 2 6 S.keys.length = .c (.slice [] 0 true (some 0)) := by rw [hK]; rfl
        have e2 : lo 110 S.keys.length (encKeys S.keys) = .slot := by rw [hK]; rfl
        rw [show (reckonM S i ⟨x.op, x.to, x.a, x.b, x.c⟩) = reckonM S i x from rfl, hRR, ← hv] at hR
        simp only [aI, ii, staO, keO, e1, e3, e4] at hR
        simp only [loopR_succ, ht]
        simp only [a1, a2, a3, a4, a5, hc', hc0, hw, hx, hR, h1, e1, e2, e3, e4, hx2, loopR_succ, loopOf, findLoop, firstRegion, Option.some_or, Option.none_or, Option.getD_some, Option.some.injEq, Try.f19, EVb, EVc, Int.reduceEq, Int.reduceToNat, Int.reduceLE, Int.reduceLT, Int.reduceAdd, Int.reduceMul, Int.reduceSub, Int.reduceNeg, Nat.reduceAdd, Nat.reduceSub, Nat.reduceMul, Nat.reduceLT, Nat.reduceBEq, Nat.reduceEqDiff, Nat.reduceLeDiff, FACTS, TYPES]
        rw [evalCode_drawn Try.f19 8 dr19_8]; rotate_left; rfl
        simp only [a1, a2, a3, a4, a5, hc', hc0, hw, hel, hxa, m5, m6, hH, e3, e4, hx2, EVd, Nat.reducePow, Nat.reduceDiv, Nat.reduceMod, EVb, EVc, Int.reduceEq, Int.reduceToNat, Int.reduceLE, Int.reduceLT, Int.reduceAdd, Int.reduceMul, Int.reduceSub, Int.reduceNeg, Nat.reduceAdd, Nat.reduceSub, Nat.reduceMul, Nat.reduceLT, Nat.reduceBEq, Nat.reduceEqDiff, Nat.reduceLeDiff, FACTS, TYPES]
        by_cases h3 : x.op = 3
        · obtain ⟨n1, n2⟩ := m7 (.inl h3)
          have hxb := encInts_getD n1 n2
          try simp only [a1, a2, a3, a4, a5, hc', hc0, hw, h3, e3, e4, hx2, EVb, EVc, Int.reduceEq, Int.reduceToNat, Int.reduceLE, Int.reduceLT, Int.reduceAdd, Int.reduceMul, Int.reduceSub, Int.reduceNeg, Nat.reduceAdd, Nat.reduceSub, Nat.reduceMul, Nat.reduceLT, Nat.reduceBEq, Nat.reduceEqDiff, Nat.reduceLeDiff, FACTS, TYPES]
          rw [evalCode_drawn Try.f19 11 dr19_11]; rotate_left; rfl
          simp only [a1, a2, a3, a4, a5, hc', hc0, hw, hel, hxb, n1, n2, hH, h3, e3, e4, hx2, EVd, Nat.reducePow, Nat.reduceDiv, Nat.reduceMod, EVb, EVc, Int.reduceEq, Int.reduceToNat, Int.reduceLE, Int.reduceLT, Int.reduceAdd, Int.reduceMul, Int.reduceSub, Int.reduceNeg, Nat.reduceAdd, Nat.reduceSub, Nat.reduceMul, Nat.reduceLT, Nat.reduceBEq, Nat.reduceEqDiff, Nat.reduceLeDiff, FACTS, TYPES]
          try simp only [a1, a2, a3, a4, a5, hc', hc0, hw, hH, ents_ids, h3, e3, e4, hx2, EVb, EVc, Int.reduceEq, Int.reduceToNat, Int.reduceLE, Int.reduceLT, Int.reduceAdd, Int.reduceMul, Int.reduceSub, Int.reduceNeg, Nat.reduceAdd, Nat.reduceSub, Nat.reduceMul, Nat.reduceLT, Nat.reduceBEq, Nat.reduceEqDiff, Nat.reduceLeDiff, FACTS, TYPES]
          rw [evalCode_drawn Try.f19 13 dr19_13]; rotate_left; rfl
          simp only [a1, a2, a3, a4, a5, hc', hc0, hw, hel, hxt, m3, m4, h3, e3, e4, hx2, EVd, Nat.reducePow, Nat.reduceDiv, Nat.reduceMod, EVb, EVc, Int.reduceEq, Int.reduceToNat, Int.reduceLE, Int.reduceLT, Int.reduceAdd, Int.reduceMul, Int.reduceSub, Int.reduceNeg, Nat.reduceAdd, Nat.reduceSub, Nat.reduceMul, Nat.reduceLT, Nat.reduceBEq, Nat.reduceEqDiff, Nat.reduceLeDiff, FACTS, TYPES]
          by_cases he : S.held.getD x.to.toNat 0 = v
          · rw [if_pos he]
            try simp only [a1, a2, a3, a4, a5, hc', hc0, hw, he, h3, e3, e4, hx2, EVb, EVc, Int.reduceEq, Int.reduceToNat, Int.reduceLE, Int.reduceLT, Int.reduceAdd, Int.reduceMul, Int.reduceSub, Int.reduceNeg, Nat.reduceAdd, Nat.reduceSub, Nat.reduceMul, Nat.reduceLT, Nat.reduceBEq, Nat.reduceEqDiff, Nat.reduceLeDiff, FACTS, TYPES]
            refine .inr ⟨_, _, hc, rfl, (by rfl), (by rfl), (by rfl), (by rfl), (by rfl), ?_⟩
            try simp only [codeO, h3, e3, e4]
            exact ⟨_, by rfl⟩
          · rw [if_neg he]
            try simp only [a1, a2, a3, a4, a5, hc', hc0, hw, he, h3, e3, e4, hx2, EVb, EVc, Int.reduceEq, Int.reduceToNat, Int.reduceLE, Int.reduceLT, Int.reduceAdd, Int.reduceMul, Int.reduceSub, Int.reduceNeg, Nat.reduceAdd, Nat.reduceSub, Nat.reduceMul, Nat.reduceLT, Nat.reduceBEq, Nat.reduceEqDiff, Nat.reduceLeDiff, FACTS, TYPES]
            by_cases h0 : 0 ≤ holdM v S.held 0
            · have hem : emitM v S.held x = ⟨1, x.to, holdM v S.held 0, 0, 0⟩ := if_pos h0
              rw [hem]
              try simp only [a1, a2, a3, a4, a5, hc', hc0, hw, h0, hap, h3, e3, e4, hx2, EVb, EVc, Int.reduceEq, Int.reduceToNat, Int.reduceLE, Int.reduceLT, Int.reduceAdd, Int.reduceMul, Int.reduceSub, Int.reduceNeg, Nat.reduceAdd, Nat.reduceSub, Nat.reduceMul, Nat.reduceLT, Nat.reduceBEq, Nat.reduceEqDiff, Nat.reduceLeDiff, FACTS, TYPES]
              rw [evalCode_drawn Try.f19 17 dr19_17]; rotate_left; rfl
              simp only [a1, a2, a3, a4, a5, hc', hc0, hw, hel, m3, m4, ht2, encInts_set, h3, e3, e4, hx2, EVd, Nat.reducePow, Nat.reduceDiv, Nat.reduceMod, EVb, EVc, Int.reduceEq, Int.reduceToNat, Int.reduceLE, Int.reduceLT, Int.reduceAdd, Int.reduceMul, Int.reduceSub, Int.reduceNeg, Nat.reduceAdd, Nat.reduceSub, Nat.reduceMul, Nat.reduceLT, Nat.reduceBEq, Nat.reduceEqDiff, Nat.reduceLeDiff, FACTS, TYPES]
              refine .inr ⟨_, _, hc, rfl, (by rfl), (by rfl), (by rfl), (by rfl), (by rfl), ?_⟩
              simp only [codeO, List.length_append, List.length_cons, List.length_nil, Nat.zero_add, List.length_set, encCode_append, encCode, enc1, List.append_nil, h3, e3, e4]
              exact ⟨_, by rfl⟩
            · have hem : emitM v S.held x = ⟨3, x.to, holdM (S.held.getD x.a.toNat 0) S.held 0, holdM (S.held.getD x.b.toNat 0) S.held 0, x.c⟩ := by rw [emitM, if_neg h0]; (simp only [askM, h3, true_or, if_true])
              rw [hem]
              try simp only [a1, a2, a3, a4, a5, hc', hc0, hw, h0, hap, h3, e3, e4, hx2, EVb, EVc, Int.reduceEq, Int.reduceToNat, Int.reduceLE, Int.reduceLT, Int.reduceAdd, Int.reduceMul, Int.reduceSub, Int.reduceNeg, Nat.reduceAdd, Nat.reduceSub, Nat.reduceMul, Nat.reduceLT, Nat.reduceBEq, Nat.reduceEqDiff, Nat.reduceLeDiff, FACTS, TYPES]
              rw [evalCode_drawn Try.f19 17 dr19_17]; rotate_left; rfl
              simp only [a1, a2, a3, a4, a5, hc', hc0, hw, hel, m3, m4, ht2, encInts_set, h3, e3, e4, hx2, EVd, Nat.reducePow, Nat.reduceDiv, Nat.reduceMod, EVb, EVc, Int.reduceEq, Int.reduceToNat, Int.reduceLE, Int.reduceLT, Int.reduceAdd, Int.reduceMul, Int.reduceSub, Int.reduceNeg, Nat.reduceAdd, Nat.reduceSub, Nat.reduceMul, Nat.reduceLT, Nat.reduceBEq, Nat.reduceEqDiff, Nat.reduceLeDiff, FACTS, TYPES]
              refine .inr ⟨_, _, hc, rfl, (by rfl), (by rfl), (by rfl), (by rfl), (by rfl), ?_⟩
              simp only [codeO, List.length_append, List.length_cons, List.length_nil, Nat.zero_add, List.length_set, encCode_append, encCode, enc1, List.append_nil, h3, e3, e4]
              exact ⟨_, by rfl⟩
        · by_cases h4 : x.op = 4
          · obtain ⟨n1, n2⟩ := m7 (.inr h4)
            have hxb := encInts_getD n1 n2
            try simp only [a1, a2, a3, a4, a5, hc', hc0, hw, h3, h4, e3, e4, hx2, EVb, EVc, Int.reduceEq, Int.reduceToNat, Int.reduceLE, Int.reduceLT, Int.reduceAdd, Int.reduceMul, Int.reduceSub, Int.reduceNeg, Nat.reduceAdd, Nat.reduceSub, Nat.reduceMul, Nat.reduceLT, Nat.reduceBEq, Nat.reduceEqDiff, Nat.reduceLeDiff, FACTS, TYPES]
            rw [evalCode_drawn Try.f19 11 dr19_11]; rotate_left; rfl
            simp only [a1, a2, a3, a4, a5, hc', hc0, hw, hel, hxb, n1, n2, hH, h3, h4, e3, e4, hx2, EVd, Nat.reducePow, Nat.reduceDiv, Nat.reduceMod, EVb, EVc, Int.reduceEq, Int.reduceToNat, Int.reduceLE, Int.reduceLT, Int.reduceAdd, Int.reduceMul, Int.reduceSub, Int.reduceNeg, Nat.reduceAdd, Nat.reduceSub, Nat.reduceMul, Nat.reduceLT, Nat.reduceBEq, Nat.reduceEqDiff, Nat.reduceLeDiff, FACTS, TYPES]
            try simp only [a1, a2, a3, a4, a5, hc', hc0, hw, hH, ents_ids, h4, e3, e4, hx2, EVb, EVc, Int.reduceEq, Int.reduceToNat, Int.reduceLE, Int.reduceLT, Int.reduceAdd, Int.reduceMul, Int.reduceSub, Int.reduceNeg, Nat.reduceAdd, Nat.reduceSub, Nat.reduceMul, Nat.reduceLT, Nat.reduceBEq, Nat.reduceEqDiff, Nat.reduceLeDiff, FACTS, TYPES]
            rw [evalCode_drawn Try.f19 13 dr19_13]; rotate_left; rfl
            simp only [a1, a2, a3, a4, a5, hc', hc0, hw, hel, hxt, m3, m4, h4, e3, e4, hx2, EVd, Nat.reducePow, Nat.reduceDiv, Nat.reduceMod, EVb, EVc, Int.reduceEq, Int.reduceToNat, Int.reduceLE, Int.reduceLT, Int.reduceAdd, Int.reduceMul, Int.reduceSub, Int.reduceNeg, Nat.reduceAdd, Nat.reduceSub, Nat.reduceMul, Nat.reduceLT, Nat.reduceBEq, Nat.reduceEqDiff, Nat.reduceLeDiff, FACTS, TYPES]
            by_cases he : S.held.getD x.to.toNat 0 = v
            · rw [if_pos he]
              try simp only [a1, a2, a3, a4, a5, hc', hc0, hw, he, h4, e3, e4, hx2, EVb, EVc, Int.reduceEq, Int.reduceToNat, Int.reduceLE, Int.reduceLT, Int.reduceAdd, Int.reduceMul, Int.reduceSub, Int.reduceNeg, Nat.reduceAdd, Nat.reduceSub, Nat.reduceMul, Nat.reduceLT, Nat.reduceBEq, Nat.reduceEqDiff, Nat.reduceLeDiff, FACTS, TYPES]
              refine .inr ⟨_, _, hc, rfl, (by rfl), (by rfl), (by rfl), (by rfl), (by rfl), ?_⟩
              try simp only [codeO, h4, e3, e4]
              exact ⟨_, by rfl⟩
            · rw [if_neg he]
              try simp only [a1, a2, a3, a4, a5, hc', hc0, hw, he, h4, e3, e4, hx2, EVb, EVc, Int.reduceEq, Int.reduceToNat, Int.reduceLE, Int.reduceLT, Int.reduceAdd, Int.reduceMul, Int.reduceSub, Int.reduceNeg, Nat.reduceAdd, Nat.reduceSub, Nat.reduceMul, Nat.reduceLT, Nat.reduceBEq, Nat.reduceEqDiff, Nat.reduceLeDiff, FACTS, TYPES]
              by_cases h0 : 0 ≤ holdM v S.held 0
              · have hem : emitM v S.held x = ⟨1, x.to, holdM v S.held 0, 0, 0⟩ := if_pos h0
                rw [hem]
                try simp only [a1, a2, a3, a4, a5, hc', hc0, hw, h0, hap, h4, e3, e4, hx2, EVb, EVc, Int.reduceEq, Int.reduceToNat, Int.reduceLE, Int.reduceLT, Int.reduceAdd, Int.reduceMul, Int.reduceSub, Int.reduceNeg, Nat.reduceAdd, Nat.reduceSub, Nat.reduceMul, Nat.reduceLT, Nat.reduceBEq, Nat.reduceEqDiff, Nat.reduceLeDiff, FACTS, TYPES]
                rw [evalCode_drawn Try.f19 17 dr19_17]; rotate_left; rfl
                simp only [a1, a2, a3, a4, a5, hc', hc0, hw, hel, m3, m4, ht2, encInts_set, h4, e3, e4, hx2, EVd, Nat.reducePow, Nat.reduceDiv, Nat.reduceMod, EVb, EVc, Int.reduceEq, Int.reduceToNat, Int.reduceLE, Int.reduceLT, Int.reduceAdd, Int.reduceMul, Int.reduceSub, Int.reduceNeg, Nat.reduceAdd, Nat.reduceSub, Nat.reduceMul, Nat.reduceLT, Nat.reduceBEq, Nat.reduceEqDiff, Nat.reduceLeDiff, FACTS, TYPES]
                refine .inr ⟨_, _, hc, rfl, (by rfl), (by rfl), (by rfl), (by rfl), (by rfl), ?_⟩
                simp only [codeO, List.length_append, List.length_cons, List.length_nil, Nat.zero_add, List.length_set, encCode_append, encCode, enc1, List.append_nil, h4, e3, e4]
                exact ⟨_, by rfl⟩
              · have hem : emitM v S.held x = ⟨4, x.to, holdM (S.held.getD x.a.toNat 0) S.held 0, holdM (S.held.getD x.b.toNat 0) S.held 0, x.c⟩ := by rw [emitM, if_neg h0]; (simp only [askM, h4, or_true, if_true])
                rw [hem]
                try simp only [a1, a2, a3, a4, a5, hc', hc0, hw, h0, hap, h4, e3, e4, hx2, EVb, EVc, Int.reduceEq, Int.reduceToNat, Int.reduceLE, Int.reduceLT, Int.reduceAdd, Int.reduceMul, Int.reduceSub, Int.reduceNeg, Nat.reduceAdd, Nat.reduceSub, Nat.reduceMul, Nat.reduceLT, Nat.reduceBEq, Nat.reduceEqDiff, Nat.reduceLeDiff, FACTS, TYPES]
                rw [evalCode_drawn Try.f19 17 dr19_17]; rotate_left; rfl
                simp only [a1, a2, a3, a4, a5, hc', hc0, hw, hel, m3, m4, ht2, encInts_set, h4, e3, e4, hx2, EVd, Nat.reducePow, Nat.reduceDiv, Nat.reduceMod, EVb, EVc, Int.reduceEq, Int.reduceToNat, Int.reduceLE, Int.reduceLT, Int.reduceAdd, Int.reduceMul, Int.reduceSub, Int.reduceNeg, Nat.reduceAdd, Nat.reduceSub, Nat.reduceMul, Nat.reduceLT, Nat.reduceBEq, Nat.reduceEqDiff, Nat.reduceLeDiff, FACTS, TYPES]
                refine .inr ⟨_, _, hc, rfl, (by rfl), (by rfl), (by rfl), (by rfl), (by rfl), ?_⟩
                simp only [codeO, List.length_append, List.length_cons, List.length_nil, Nat.zero_add, List.length_set, encCode_append, encCode, enc1, List.append_nil, h4, e3, e4]
                exact ⟨_, by rfl⟩
          · have hb0 := hmb h3 h4
            try simp only [a1, a2, a3, a4, a5, hc', hc0, hw, h3, h4, e3, e4, hx2, EVb, EVc, Int.reduceEq, Int.reduceToNat, Int.reduceLE, Int.reduceLT, Int.reduceAdd, Int.reduceMul, Int.reduceSub, Int.reduceNeg, Nat.reduceAdd, Nat.reduceSub, Nat.reduceMul, Nat.reduceLT, Nat.reduceBEq, Nat.reduceEqDiff, Nat.reduceLeDiff, FACTS, TYPES]
            try simp only [a1, a2, a3, a4, a5, hc', hc0, hw, hH, ents_ids, h3, h4, e3, e4, hx2, EVb, EVc, Int.reduceEq, Int.reduceToNat, Int.reduceLE, Int.reduceLT, Int.reduceAdd, Int.reduceMul, Int.reduceSub, Int.reduceNeg, Nat.reduceAdd, Nat.reduceSub, Nat.reduceMul, Nat.reduceLT, Nat.reduceBEq, Nat.reduceEqDiff, Nat.reduceLeDiff, FACTS, TYPES]
            rw [evalCode_drawn Try.f19 13 dr19_13]; rotate_left; rfl
            simp only [a1, a2, a3, a4, a5, hc', hc0, hw, hel, hxt, m3, m4, h3, h4, e3, e4, hx2, EVd, Nat.reducePow, Nat.reduceDiv, Nat.reduceMod, EVb, EVc, Int.reduceEq, Int.reduceToNat, Int.reduceLE, Int.reduceLT, Int.reduceAdd, Int.reduceMul, Int.reduceSub, Int.reduceNeg, Nat.reduceAdd, Nat.reduceSub, Nat.reduceMul, Nat.reduceLT, Nat.reduceBEq, Nat.reduceEqDiff, Nat.reduceLeDiff, FACTS, TYPES]
            by_cases he : S.held.getD x.to.toNat 0 = v
            · rw [if_pos he]
              try simp only [a1, a2, a3, a4, a5, hc', hc0, hw, he, h3, h4, e3, e4, hx2, EVb, EVc, Int.reduceEq, Int.reduceToNat, Int.reduceLE, Int.reduceLT, Int.reduceAdd, Int.reduceMul, Int.reduceSub, Int.reduceNeg, Nat.reduceAdd, Nat.reduceSub, Nat.reduceMul, Nat.reduceLT, Nat.reduceBEq, Nat.reduceEqDiff, Nat.reduceLeDiff, FACTS, TYPES]
              refine .inr ⟨_, _, hc, rfl, (by rfl), (by rfl), (by rfl), (by rfl), (by rfl), ?_⟩
              try simp only [codeO, h3, h4, e3, e4]
              exact ⟨_, by rfl⟩
            · rw [if_neg he]
              try simp only [a1, a2, a3, a4, a5, hc', hc0, hw, he, h3, h4, e3, e4, hx2, EVb, EVc, Int.reduceEq, Int.reduceToNat, Int.reduceLE, Int.reduceLT, Int.reduceAdd, Int.reduceMul, Int.reduceSub, Int.reduceNeg, Nat.reduceAdd, Nat.reduceSub, Nat.reduceMul, Nat.reduceLT, Nat.reduceBEq, Nat.reduceEqDiff, Nat.reduceLeDiff, FACTS, TYPES]
              by_cases h0 : 0 ≤ holdM v S.held 0
              · have hem : emitM v S.held x = ⟨1, x.to, holdM v S.held 0, 0, 0⟩ := if_pos h0
                rw [hem]
                try simp only [a1, a2, a3, a4, a5, hc', hc0, hw, h0, hap, h3, h4, e3, e4, hx2, EVb, EVc, Int.reduceEq, Int.reduceToNat, Int.reduceLE, Int.reduceLT, Int.reduceAdd, Int.reduceMul, Int.reduceSub, Int.reduceNeg, Nat.reduceAdd, Nat.reduceSub, Nat.reduceMul, Nat.reduceLT, Nat.reduceBEq, Nat.reduceEqDiff, Nat.reduceLeDiff, FACTS, TYPES]
                rw [evalCode_drawn Try.f19 17 dr19_17]; rotate_left; rfl
                simp only [a1, a2, a3, a4, a5, hc', hc0, hw, hel, m3, m4, ht2, encInts_set, h3, h4, e3, e4, hx2, EVd, Nat.reducePow, Nat.reduceDiv, Nat.reduceMod, EVb, EVc, Int.reduceEq, Int.reduceToNat, Int.reduceLE, Int.reduceLT, Int.reduceAdd, Int.reduceMul, Int.reduceSub, Int.reduceNeg, Nat.reduceAdd, Nat.reduceSub, Nat.reduceMul, Nat.reduceLT, Nat.reduceBEq, Nat.reduceEqDiff, Nat.reduceLeDiff, FACTS, TYPES]
                refine .inr ⟨_, _, hc, rfl, (by rfl), (by rfl), (by rfl), (by rfl), (by rfl), ?_⟩
                simp only [codeO, List.length_append, List.length_cons, List.length_nil, Nat.zero_add, List.length_set, encCode_append, encCode, enc1, List.append_nil, h3, h4, e3, e4]
                exact ⟨_, by rfl⟩
              · have hem : emitM v S.held x = ⟨x.op, x.to, holdM (S.held.getD x.a.toNat 0) S.held 0, 0, x.c⟩ := by rw [emitM, if_neg h0]; (simp only [askM, h3, h4, or_self, if_false, hb0])
                rw [hem]
                try simp only [a1, a2, a3, a4, a5, hc', hc0, hw, h0, hap, h3, h4, e3, e4, hx2, EVb, EVc, Int.reduceEq, Int.reduceToNat, Int.reduceLE, Int.reduceLT, Int.reduceAdd, Int.reduceMul, Int.reduceSub, Int.reduceNeg, Nat.reduceAdd, Nat.reduceSub, Nat.reduceMul, Nat.reduceLT, Nat.reduceBEq, Nat.reduceEqDiff, Nat.reduceLeDiff, FACTS, TYPES]
                rw [evalCode_drawn Try.f19 17 dr19_17]; rotate_left; rfl
                simp only [a1, a2, a3, a4, a5, hc', hc0, hw, hel, m3, m4, ht2, encInts_set, h3, h4, e3, e4, hx2, EVd, Nat.reducePow, Nat.reduceDiv, Nat.reduceMod, EVb, EVc, Int.reduceEq, Int.reduceToNat, Int.reduceLE, Int.reduceLT, Int.reduceAdd, Int.reduceMul, Int.reduceSub, Int.reduceNeg, Nat.reduceAdd, Nat.reduceSub, Nat.reduceMul, Nat.reduceLT, Nat.reduceBEq, Nat.reduceEqDiff, Nat.reduceLeDiff, FACTS, TYPES]
                refine .inr ⟨_, _, hc, rfl, (by rfl), (by rfl), (by rfl), (by rfl), (by rfl), ?_⟩
                simp only [codeO, List.length_append, List.length_cons, List.length_nil, Nat.zero_add, List.length_set, encCode_append, encCode, enc1, List.append_nil, h3, h4, e3, e4]
                exact ⟨_, by rfl⟩
      · have hKp : 0 < S.keys.length := List.length_pos_iff.2 hK
        obtain ⟨G0, hR⟩ := sReckonB_ev (kf + 6) S hK i x.op x.to x.a x.b x.c h1 ⟨m5, m6⟩ m7 (by omega) (by omega) (by omega)
        have e1 := lv_pos (s := 2) (sz := 6) hKp
        have e2 := lo_pos (e := 110) (cells := encKeys S.keys) hKp
        rw [show (reckonM S i ⟨x.op, x.to, x.a, x.b, x.c⟩) = reckonM S i x from rfl, hRR, ← hv] at hR
        simp only [aI, ii, staO, keO, e1, e2, e3, e4] at hR
        simp only [loopR_succ, ht]
        simp only [a1, a2, a3, a4, a5, hc', hc0, hw, hx, hR, h1, e1, e2, e3, e4, hx2, loopR_succ, loopOf, findLoop, firstRegion, Option.some_or, Option.none_or, Option.getD_some, Option.some.injEq, Try.f19, EVb, EVc, Int.reduceEq, Int.reduceToNat, Int.reduceLE, Int.reduceLT, Int.reduceAdd, Int.reduceMul, Int.reduceSub, Int.reduceNeg, Nat.reduceAdd, Nat.reduceSub, Nat.reduceMul, Nat.reduceLT, Nat.reduceBEq, Nat.reduceEqDiff, Nat.reduceLeDiff, FACTS, TYPES]
        rw [evalCode_drawn Try.f19 8 dr19_8]; rotate_left; rfl
        simp only [a1, a2, a3, a4, a5, hc', hc0, hw, hel, hxa, m5, m6, hH, e3, e4, hx2, EVd, Nat.reducePow, Nat.reduceDiv, Nat.reduceMod, EVb, EVc, Int.reduceEq, Int.reduceToNat, Int.reduceLE, Int.reduceLT, Int.reduceAdd, Int.reduceMul, Int.reduceSub, Int.reduceNeg, Nat.reduceAdd, Nat.reduceSub, Nat.reduceMul, Nat.reduceLT, Nat.reduceBEq, Nat.reduceEqDiff, Nat.reduceLeDiff, FACTS, TYPES]
        by_cases h3 : x.op = 3
        · obtain ⟨n1, n2⟩ := m7 (.inl h3)
          have hxb := encInts_getD n1 n2
          try simp only [a1, a2, a3, a4, a5, hc', hc0, hw, h3, e3, e4, hx2, EVb, EVc, Int.reduceEq, Int.reduceToNat, Int.reduceLE, Int.reduceLT, Int.reduceAdd, Int.reduceMul, Int.reduceSub, Int.reduceNeg, Nat.reduceAdd, Nat.reduceSub, Nat.reduceMul, Nat.reduceLT, Nat.reduceBEq, Nat.reduceEqDiff, Nat.reduceLeDiff, FACTS, TYPES]
          rw [evalCode_drawn Try.f19 11 dr19_11]; rotate_left; rfl
          simp only [a1, a2, a3, a4, a5, hc', hc0, hw, hel, hxb, n1, n2, hH, h3, e3, e4, hx2, EVd, Nat.reducePow, Nat.reduceDiv, Nat.reduceMod, EVb, EVc, Int.reduceEq, Int.reduceToNat, Int.reduceLE, Int.reduceLT, Int.reduceAdd, Int.reduceMul, Int.reduceSub, Int.reduceNeg, Nat.reduceAdd, Nat.reduceSub, Nat.reduceMul, Nat.reduceLT, Nat.reduceBEq, Nat.reduceEqDiff, Nat.reduceLeDiff, FACTS, TYPES]
          try simp only [a1, a2, a3, a4, a5, hc', hc0, hw, hH, ents_ids, h3, e3, e4, hx2, EVb, EVc, Int.reduceEq, Int.reduceToNat, Int.reduceLE, Int.reduceLT, Int.reduceAdd, Int.reduceMul, Int.reduceSub, Int.reduceNeg, Nat.reduceAdd, Nat.reduceSub, Nat.reduceMul, Nat.reduceLT, Nat.reduceBEq, Nat.reduceEqDiff, Nat.reduceLeDiff, FACTS, TYPES]
          rw [evalCode_drawn Try.f19 13 dr19_13]; rotate_left; rfl
          simp only [a1, a2, a3, a4, a5, hc', hc0, hw, hel, hxt, m3, m4, h3, e3, e4, hx2, EVd, Nat.reducePow, Nat.reduceDiv, Nat.reduceMod, EVb, EVc, Int.reduceEq, Int.reduceToNat, Int.reduceLE, Int.reduceLT, Int.reduceAdd, Int.reduceMul, Int.reduceSub, Int.reduceNeg, Nat.reduceAdd, Nat.reduceSub, Nat.reduceMul, Nat.reduceLT, Nat.reduceBEq, Nat.reduceEqDiff, Nat.reduceLeDiff, FACTS, TYPES]
          by_cases he : S.held.getD x.to.toNat 0 = v
          · rw [if_pos he]
            try simp only [a1, a2, a3, a4, a5, hc', hc0, hw, he, h3, e3, e4, hx2, EVb, EVc, Int.reduceEq, Int.reduceToNat, Int.reduceLE, Int.reduceLT, Int.reduceAdd, Int.reduceMul, Int.reduceSub, Int.reduceNeg, Nat.reduceAdd, Nat.reduceSub, Nat.reduceMul, Nat.reduceLT, Nat.reduceBEq, Nat.reduceEqDiff, Nat.reduceLeDiff, FACTS, TYPES]
            refine .inr ⟨_, _, hc, rfl, (by rfl), (by rfl), (by rfl), (by rfl), (by rfl), ?_⟩
            try simp only [codeO, h3, e3, e4]
            exact ⟨_, by rfl⟩
          · rw [if_neg he]
            try simp only [a1, a2, a3, a4, a5, hc', hc0, hw, he, h3, e3, e4, hx2, EVb, EVc, Int.reduceEq, Int.reduceToNat, Int.reduceLE, Int.reduceLT, Int.reduceAdd, Int.reduceMul, Int.reduceSub, Int.reduceNeg, Nat.reduceAdd, Nat.reduceSub, Nat.reduceMul, Nat.reduceLT, Nat.reduceBEq, Nat.reduceEqDiff, Nat.reduceLeDiff, FACTS, TYPES]
            by_cases h0 : 0 ≤ holdM v S.held 0
            · have hem : emitM v S.held x = ⟨1, x.to, holdM v S.held 0, 0, 0⟩ := if_pos h0
              rw [hem]
              try simp only [a1, a2, a3, a4, a5, hc', hc0, hw, h0, hap, h3, e3, e4, hx2, EVb, EVc, Int.reduceEq, Int.reduceToNat, Int.reduceLE, Int.reduceLT, Int.reduceAdd, Int.reduceMul, Int.reduceSub, Int.reduceNeg, Nat.reduceAdd, Nat.reduceSub, Nat.reduceMul, Nat.reduceLT, Nat.reduceBEq, Nat.reduceEqDiff, Nat.reduceLeDiff, FACTS, TYPES]
              rw [evalCode_drawn Try.f19 17 dr19_17]; rotate_left; rfl
              simp only [a1, a2, a3, a4, a5, hc', hc0, hw, hel, m3, m4, ht2, encInts_set, h3, e3, e4, hx2, EVd, Nat.reducePow, Nat.reduceDiv, Nat.reduceMod, EVb, EVc, Int.reduceEq, Int.reduceToNat, Int.reduceLE, Int.reduceLT, Int.reduceAdd, Int.reduceMul, Int.reduceSub, Int.reduceNeg, Nat.reduceAdd, Nat.reduceSub, Nat.reduceMul, Nat.reduceLT, Nat.reduceBEq, Nat.reduceEqDiff, Nat.reduceLeDiff, FACTS, TYPES]
              refine .inr ⟨_, _, hc, rfl, (by rfl), (by rfl), (by rfl), (by rfl), (by rfl), ?_⟩
              simp only [codeO, List.length_append, List.length_cons, List.length_nil, Nat.zero_add, List.length_set, encCode_append, encCode, enc1, List.append_nil, h3, e3, e4]
              exact ⟨_, by rfl⟩
            · have hem : emitM v S.held x = ⟨3, x.to, holdM (S.held.getD x.a.toNat 0) S.held 0, holdM (S.held.getD x.b.toNat 0) S.held 0, x.c⟩ := by rw [emitM, if_neg h0]; (simp only [askM, h3, true_or, if_true])
              rw [hem]
              try simp only [a1, a2, a3, a4, a5, hc', hc0, hw, h0, hap, h3, e3, e4, hx2, EVb, EVc, Int.reduceEq, Int.reduceToNat, Int.reduceLE, Int.reduceLT, Int.reduceAdd, Int.reduceMul, Int.reduceSub, Int.reduceNeg, Nat.reduceAdd, Nat.reduceSub, Nat.reduceMul, Nat.reduceLT, Nat.reduceBEq, Nat.reduceEqDiff, Nat.reduceLeDiff, FACTS, TYPES]
              rw [evalCode_drawn Try.f19 17 dr19_17]; rotate_left; rfl
              simp only [a1, a2, a3, a4, a5, hc', hc0, hw, hel, m3, m4, ht2, encInts_set, h3, e3, e4, hx2, EVd, Nat.reducePow, Nat.reduceDiv, Nat.reduceMod, EVb, EVc, Int.reduceEq, Int.reduceToNat, Int.reduceLE, Int.reduceLT, Int.reduceAdd, Int.reduceMul, Int.reduceSub, Int.reduceNeg, Nat.reduceAdd, Nat.reduceSub, Nat.reduceMul, Nat.reduceLT, Nat.reduceBEq, Nat.reduceEqDiff, Nat.reduceLeDiff, FACTS, TYPES]
              refine .inr ⟨_, _, hc, rfl, (by rfl), (by rfl), (by rfl), (by rfl), (by rfl), ?_⟩
              simp only [codeO, List.length_append, List.length_cons, List.length_nil, Nat.zero_add, List.length_set, encCode_append, encCode, enc1, List.append_nil, h3, e3, e4]
              exact ⟨_, by rfl⟩
        · by_cases h4 : x.op = 4
          · obtain ⟨n1, n2⟩ := m7 (.inr h4)
            have hxb := encInts_getD n1 n2
            try simp only [a1, a2, a3, a4, a5, hc', hc0, hw, h3, h4, e3, e4, hx2, EVb, EVc, Int.reduceEq, Int.reduceToNat, Int.reduceLE, Int.reduceLT, Int.reduceAdd, Int.reduceMul, Int.reduceSub, Int.reduceNeg, Nat.reduceAdd, Nat.reduceSub, Nat.reduceMul, Nat.reduceLT, Nat.reduceBEq, Nat.reduceEqDiff, Nat.reduceLeDiff, FACTS, TYPES]
            rw [evalCode_drawn Try.f19 11 dr19_11]; rotate_left; rfl
            simp only [a1, a2, a3, a4, a5, hc', hc0, hw, hel, hxb, n1, n2, hH, h3, h4, e3, e4, hx2, EVd, Nat.reducePow, Nat.reduceDiv, Nat.reduceMod, EVb, EVc, Int.reduceEq, Int.reduceToNat, Int.reduceLE, Int.reduceLT, Int.reduceAdd, Int.reduceMul, Int.reduceSub, Int.reduceNeg, Nat.reduceAdd, Nat.reduceSub, Nat.reduceMul, Nat.reduceLT, Nat.reduceBEq, Nat.reduceEqDiff, Nat.reduceLeDiff, FACTS, TYPES]
            try simp only [a1, a2, a3, a4, a5, hc', hc0, hw, hH, ents_ids, h4, e3, e4, hx2, EVb, EVc, Int.reduceEq, Int.reduceToNat, Int.reduceLE, Int.reduceLT, Int.reduceAdd, Int.reduceMul, Int.reduceSub, Int.reduceNeg, Nat.reduceAdd, Nat.reduceSub, Nat.reduceMul, Nat.reduceLT, Nat.reduceBEq, Nat.reduceEqDiff, Nat.reduceLeDiff, FACTS, TYPES]
            rw [evalCode_drawn Try.f19 13 dr19_13]; rotate_left; rfl
            simp only [a1, a2, a3, a4, a5, hc', hc0, hw, hel, hxt, m3, m4, h4, e3, e4, hx2, EVd, Nat.reducePow, Nat.reduceDiv, Nat.reduceMod, EVb, EVc, Int.reduceEq, Int.reduceToNat, Int.reduceLE, Int.reduceLT, Int.reduceAdd, Int.reduceMul, Int.reduceSub, Int.reduceNeg, Nat.reduceAdd, Nat.reduceSub, Nat.reduceMul, Nat.reduceLT, Nat.reduceBEq, Nat.reduceEqDiff, Nat.reduceLeDiff, FACTS, TYPES]
            by_cases he : S.held.getD x.to.toNat 0 = v
            · rw [if_pos he]
              try simp only [a1, a2, a3, a4, a5, hc', hc0, hw, he, h4, e3, e4, hx2, EVb, EVc, Int.reduceEq, Int.reduceToNat, Int.reduceLE, Int.reduceLT, Int.reduceAdd, Int.reduceMul, Int.reduceSub, Int.reduceNeg, Nat.reduceAdd, Nat.reduceSub, Nat.reduceMul, Nat.reduceLT, Nat.reduceBEq, Nat.reduceEqDiff, Nat.reduceLeDiff, FACTS, TYPES]
              refine .inr ⟨_, _, hc, rfl, (by rfl), (by rfl), (by rfl), (by rfl), (by rfl), ?_⟩
              try simp only [codeO, h4, e3, e4]
              exact ⟨_, by rfl⟩
            · rw [if_neg he]
              try simp only [a1, a2, a3, a4, a5, hc', hc0, hw, he, h4, e3, e4, hx2, EVb, EVc, Int.reduceEq, Int.reduceToNat, Int.reduceLE, Int.reduceLT, Int.reduceAdd, Int.reduceMul, Int.reduceSub, Int.reduceNeg, Nat.reduceAdd, Nat.reduceSub, Nat.reduceMul, Nat.reduceLT, Nat.reduceBEq, Nat.reduceEqDiff, Nat.reduceLeDiff, FACTS, TYPES]
              by_cases h0 : 0 ≤ holdM v S.held 0
              · have hem : emitM v S.held x = ⟨1, x.to, holdM v S.held 0, 0, 0⟩ := if_pos h0
                rw [hem]
                try simp only [a1, a2, a3, a4, a5, hc', hc0, hw, h0, hap, h4, e3, e4, hx2, EVb, EVc, Int.reduceEq, Int.reduceToNat, Int.reduceLE, Int.reduceLT, Int.reduceAdd, Int.reduceMul, Int.reduceSub, Int.reduceNeg, Nat.reduceAdd, Nat.reduceSub, Nat.reduceMul, Nat.reduceLT, Nat.reduceBEq, Nat.reduceEqDiff, Nat.reduceLeDiff, FACTS, TYPES]
                rw [evalCode_drawn Try.f19 17 dr19_17]; rotate_left; rfl
                simp only [a1, a2, a3, a4, a5, hc', hc0, hw, hel, m3, m4, ht2, encInts_set, h4, e3, e4, hx2, EVd, Nat.reducePow, Nat.reduceDiv, Nat.reduceMod, EVb, EVc, Int.reduceEq, Int.reduceToNat, Int.reduceLE, Int.reduceLT, Int.reduceAdd, Int.reduceMul, Int.reduceSub, Int.reduceNeg, Nat.reduceAdd, Nat.reduceSub, Nat.reduceMul, Nat.reduceLT, Nat.reduceBEq, Nat.reduceEqDiff, Nat.reduceLeDiff, FACTS, TYPES]
                refine .inr ⟨_, _, hc, rfl, (by rfl), (by rfl), (by rfl), (by rfl), (by rfl), ?_⟩
                simp only [codeO, List.length_append, List.length_cons, List.length_nil, Nat.zero_add, List.length_set, encCode_append, encCode, enc1, List.append_nil, h4, e3, e4]
                exact ⟨_, by rfl⟩
              · have hem : emitM v S.held x = ⟨4, x.to, holdM (S.held.getD x.a.toNat 0) S.held 0, holdM (S.held.getD x.b.toNat 0) S.held 0, x.c⟩ := by rw [emitM, if_neg h0]; (simp only [askM, h4, or_true, if_true])
                rw [hem]
                try simp only [a1, a2, a3, a4, a5, hc', hc0, hw, h0, hap, h4, e3, e4, hx2, EVb, EVc, Int.reduceEq, Int.reduceToNat, Int.reduceLE, Int.reduceLT, Int.reduceAdd, Int.reduceMul, Int.reduceSub, Int.reduceNeg, Nat.reduceAdd, Nat.reduceSub, Nat.reduceMul, Nat.reduceLT, Nat.reduceBEq, Nat.reduceEqDiff, Nat.reduceLeDiff, FACTS, TYPES]
                rw [evalCode_drawn Try.f19 17 dr19_17]; rotate_left; rfl
                simp only [a1, a2, a3, a4, a5, hc', hc0, hw, hel, m3, m4, ht2, encInts_set, h4, e3, e4, hx2, EVd, Nat.reducePow, Nat.reduceDiv, Nat.reduceMod, EVb, EVc, Int.reduceEq, Int.reduceToNat, Int.reduceLE, Int.reduceLT, Int.reduceAdd, Int.reduceMul, Int.reduceSub, Int.reduceNeg, Nat.reduceAdd, Nat.reduceSub, Nat.reduceMul, Nat.reduceLT, Nat.reduceBEq, Nat.reduceEqDiff, Nat.reduceLeDiff, FACTS, TYPES]
                refine .inr ⟨_, _, hc, rfl, (by rfl), (by rfl), (by rfl), (by rfl), (by rfl), ?_⟩
                simp only [codeO, List.length_append, List.length_cons, List.length_nil, Nat.zero_add, List.length_set, encCode_append, encCode, enc1, List.append_nil, h4, e3, e4]
                exact ⟨_, by rfl⟩
          · have hb0 := hmb h3 h4
            try simp only [a1, a2, a3, a4, a5, hc', hc0, hw, h3, h4, e3, e4, hx2, EVb, EVc, Int.reduceEq, Int.reduceToNat, Int.reduceLE, Int.reduceLT, Int.reduceAdd, Int.reduceMul, Int.reduceSub, Int.reduceNeg, Nat.reduceAdd, Nat.reduceSub, Nat.reduceMul, Nat.reduceLT, Nat.reduceBEq, Nat.reduceEqDiff, Nat.reduceLeDiff, FACTS, TYPES]
            try simp only [a1, a2, a3, a4, a5, hc', hc0, hw, hH, ents_ids, h3, h4, e3, e4, hx2, EVb, EVc, Int.reduceEq, Int.reduceToNat, Int.reduceLE, Int.reduceLT, Int.reduceAdd, Int.reduceMul, Int.reduceSub, Int.reduceNeg, Nat.reduceAdd, Nat.reduceSub, Nat.reduceMul, Nat.reduceLT, Nat.reduceBEq, Nat.reduceEqDiff, Nat.reduceLeDiff, FACTS, TYPES]
            rw [evalCode_drawn Try.f19 13 dr19_13]; rotate_left; rfl
            simp only [a1, a2, a3, a4, a5, hc', hc0, hw, hel, hxt, m3, m4, h3, h4, e3, e4, hx2, EVd, Nat.reducePow, Nat.reduceDiv, Nat.reduceMod, EVb, EVc, Int.reduceEq, Int.reduceToNat, Int.reduceLE, Int.reduceLT, Int.reduceAdd, Int.reduceMul, Int.reduceSub, Int.reduceNeg, Nat.reduceAdd, Nat.reduceSub, Nat.reduceMul, Nat.reduceLT, Nat.reduceBEq, Nat.reduceEqDiff, Nat.reduceLeDiff, FACTS, TYPES]
            by_cases he : S.held.getD x.to.toNat 0 = v
            · rw [if_pos he]
              try simp only [a1, a2, a3, a4, a5, hc', hc0, hw, he, h3, h4, e3, e4, hx2, EVb, EVc, Int.reduceEq, Int.reduceToNat, Int.reduceLE, Int.reduceLT, Int.reduceAdd, Int.reduceMul, Int.reduceSub, Int.reduceNeg, Nat.reduceAdd, Nat.reduceSub, Nat.reduceMul, Nat.reduceLT, Nat.reduceBEq, Nat.reduceEqDiff, Nat.reduceLeDiff, FACTS, TYPES]
              refine .inr ⟨_, _, hc, rfl, (by rfl), (by rfl), (by rfl), (by rfl), (by rfl), ?_⟩
              try simp only [codeO, h3, h4, e3, e4]
              exact ⟨_, by rfl⟩
            · rw [if_neg he]
              try simp only [a1, a2, a3, a4, a5, hc', hc0, hw, he, h3, h4, e3, e4, hx2, EVb, EVc, Int.reduceEq, Int.reduceToNat, Int.reduceLE, Int.reduceLT, Int.reduceAdd, Int.reduceMul, Int.reduceSub, Int.reduceNeg, Nat.reduceAdd, Nat.reduceSub, Nat.reduceMul, Nat.reduceLT, Nat.reduceBEq, Nat.reduceEqDiff, Nat.reduceLeDiff, FACTS, TYPES]
              by_cases h0 : 0 ≤ holdM v S.held 0
              · have hem : emitM v S.held x = ⟨1, x.to, holdM v S.held 0, 0, 0⟩ := if_pos h0
                rw [hem]
                try simp only [a1, a2, a3, a4, a5, hc', hc0, hw, h0, hap, h3, h4, e3, e4, hx2, EVb, EVc, Int.reduceEq, Int.reduceToNat, Int.reduceLE, Int.reduceLT, Int.reduceAdd, Int.reduceMul, Int.reduceSub, Int.reduceNeg, Nat.reduceAdd, Nat.reduceSub, Nat.reduceMul, Nat.reduceLT, Nat.reduceBEq, Nat.reduceEqDiff, Nat.reduceLeDiff, FACTS, TYPES]
                rw [evalCode_drawn Try.f19 17 dr19_17]; rotate_left; rfl
                simp only [a1, a2, a3, a4, a5, hc', hc0, hw, hel, m3, m4, ht2, encInts_set, h3, h4, e3, e4, hx2, EVd, Nat.reducePow, Nat.reduceDiv, Nat.reduceMod, EVb, EVc, Int.reduceEq, Int.reduceToNat, Int.reduceLE, Int.reduceLT, Int.reduceAdd, Int.reduceMul, Int.reduceSub, Int.reduceNeg, Nat.reduceAdd, Nat.reduceSub, Nat.reduceMul, Nat.reduceLT, Nat.reduceBEq, Nat.reduceEqDiff, Nat.reduceLeDiff, FACTS, TYPES]
                refine .inr ⟨_, _, hc, rfl, (by rfl), (by rfl), (by rfl), (by rfl), (by rfl), ?_⟩
                simp only [codeO, List.length_append, List.length_cons, List.length_nil, Nat.zero_add, List.length_set, encCode_append, encCode, enc1, List.append_nil, h3, h4, e3, e4]
                exact ⟨_, by rfl⟩
              · have hem : emitM v S.held x = ⟨x.op, x.to, holdM (S.held.getD x.a.toNat 0) S.held 0, 0, x.c⟩ := by rw [emitM, if_neg h0]; (simp only [askM, h3, h4, or_self, if_false, hb0])
                rw [hem]
                try simp only [a1, a2, a3, a4, a5, hc', hc0, hw, h0, hap, h3, h4, e3, e4, hx2, EVb, EVc, Int.reduceEq, Int.reduceToNat, Int.reduceLE, Int.reduceLT, Int.reduceAdd, Int.reduceMul, Int.reduceSub, Int.reduceNeg, Nat.reduceAdd, Nat.reduceSub, Nat.reduceMul, Nat.reduceLT, Nat.reduceBEq, Nat.reduceEqDiff, Nat.reduceLeDiff, FACTS, TYPES]
                rw [evalCode_drawn Try.f19 17 dr19_17]; rotate_left; rfl
                simp only [a1, a2, a3, a4, a5, hc', hc0, hw, hel, m3, m4, ht2, encInts_set, h3, h4, e3, e4, hx2, EVd, Nat.reducePow, Nat.reduceDiv, Nat.reduceMod, EVb, EVc, Int.reduceEq, Int.reduceToNat, Int.reduceLE, Int.reduceLT, Int.reduceAdd, Int.reduceMul, Int.reduceSub, Int.reduceNeg, Nat.reduceAdd, Nat.reduceSub, Nat.reduceMul, Nat.reduceLT, Nat.reduceBEq, Nat.reduceEqDiff, Nat.reduceLeDiff, FACTS, TYPES]
                refine .inr ⟨_, _, hc, rfl, (by rfl), (by rfl), (by rfl), (by rfl), (by rfl), ?_⟩
                simp only [codeO, List.length_append, List.length_cons, List.length_nil, Nat.zero_add, List.length_set, encCode_append, encCode, enc1, List.append_nil, h3, h4, e3, e4]
                exact ⟨_, by rfl⟩
  · refine .inl ?_
    obtain rfl : i = code.length := by omega
    have hc' : ¬ (((code.length : Nat) : Int) < ((code.length : Nat) : Int)) := by omega
    simp only [loopR_succ, ht]
    simp only [a1, a2, a3, a4, a5, hc', hx2, loopR_succ, loopOf, findLoop, firstRegion, Option.some_or, Option.none_or, Option.getD_some, Option.some.injEq, Try.f19, EVb, EVc, Int.reduceEq, Int.reduceToNat, Int.reduceLE, Int.reduceLT, Int.reduceAdd, Int.reduceMul, Int.reduceSub, Int.reduceNeg, Nat.reduceAdd, Nat.reduceSub, Nat.reduceMul, Nat.reduceLT, Nat.reduceBEq, Nat.reduceEqDiff, Nat.reduceLeDiff, FACTS, TYPES]
    exact ⟨_, rfl, (by rfl), (by rfl), (by rfl), (by rfl), (by rfl)⟩

end Go.Proofs.Sw
