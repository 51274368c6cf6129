/- A part of the proof: what functions of the program answer, of whatever arguments, reckoned with letters by the interpreter's equations. Its conditions stand in each theorem. -/
import Derived.Test.YtefdgfdahmaciaaS14I
namespace Go.Proofs.Sw
set_option linter.unusedVariables false
set_option linter.unusedSimpArgs false
set_option linter.unusedSectionVars false
open Go.Ab
variable [Globals]
/-- What the pass makes of an instruction: its value's holder, else itself, asking the first holders. -/
def emitM (v : Int) (held : List Int) (x : Ins) : Ins := if 0 ≤ holdM v held 0 then ⟨1, x.to, holdM v held 0, 0, 0⟩ else askM held x
theorem askM_op (held : List Int) (x : Ins) : (askM held x).op = x.op := rfl
theorem askM_to (held : List Int) (x : Ins) : (askM held x).to = x.to := rfl
theorem askM_c (held : List Int) (x : Ins) : (askM held x).c = x.c := rfl
def passStep (q : St × List Ins) (n : Int) (x : Ins) : St × List Ins :=
  let r := reckonM q.1 n x
  if q.1.held.getD x.to.toNat 0 = r.1 then (r.2.2, q.2) else ({ r.2.2 with held := q.1.held.set x.to.toNat r.1 }, q.2 ++ [emitM r.1 q.1.held x])
def passAt (S0 : St) (code : List Ins) : Nat → St × List Ins
  | 0 => (S0, [])
  | i + 1 => match code[i]? with
    | some x => passStep (passAt S0 code i) i x
    | none => passAt S0 code i
theorem passAt_succ {S0 : St} {code : List Ins} {i : Nat} (h : i < code.length) : passAt S0 code (i + 1) = passStep (passAt S0 code i) i code[i] := by
  rw [passAt, List.getElem?_eq_getElem h]
theorem passAt_facts (S0 : St) (code : List Ins) : ∀ i, (passAt S0 code i).1.held.length = S0.held.length ∧ S0.next ≤ (passAt S0 code i).1.next ∧ (passAt S0 code i).1.next ≤ S0.next + i ∧ (passAt S0 code i).1.keys.length ≤ S0.keys.length + i ∧ (passAt S0 code i).2.length ≤ i
  | 0 => ⟨rfl, Int.le_refl _, by simp [passAt], Nat.le_refl _, Nat.le_refl _⟩
  | i + 1 => by
    obtain ⟨h1, h2, h3, h4, h5⟩ := passAt_facts S0 code i
    rw [passAt]
    split
    · rename_i x hx
      have h6 := reckonM_next (passAt S0 code i).1 i x
      have h7 := reckonM_keys (passAt S0 code i).1 i x
      have h8 := reckonM_held (passAt S0 code i).1 i x
      simp only [passStep]
      split
      · simp only [h8]
        exact ⟨h1, by omega, by omega, by omega, by omega⟩
      · simp only [List.length_set, List.length_append, List.length_cons, List.length_nil]
        exact ⟨h1, by omega, by omega, by omega, by omega⟩
    · exact ⟨h1, h2, by omega, by omega, by omega⟩
abbrev passS (ins : Int) (n : Nat) (code : List Ins) : St := (passAt (startS ins n) code code.length).1
abbrev passC (ins : Int) (n : Nat) (code : List Ins) : List Ins := (passAt (startS ins n) code code.length).2
def outsL (held outs : List Int) : List Int := outs.map fun r => holdM (held.getD r.toNat 0) held 0
/-- What the pass makes of a program. -/
def sharePg (ins : Int) (n : Nat) (code : List Ins) (outs : List Int) : Pg := ⟨ins, n, passC ins n code, outsL (passS ins n code).held outs⟩
abbrev codeO (l : List Ins) : AObj := lo 34 l.length (encCode l)
theorem loop_sharePass (kf : Nat) (x0 x1 x2 x3 y0 y1 : IV) (zz : List AV) (hz0 : (zz.all fun e => AV.under 9 e) = true) (S0 : St) (code : List Ins) (nl : Bool) (cap : Option Nat) (hcode : ∀ i ∈ code, mayM i S0.held.length = true) (hlen : code.length ≤ 20000) (hreg : S0.held.length ≤ 128) (hkf : 200 ≤ kf) (hnx : 0 ≤ S0.next ∧ S0.next ≤ 100000) (k : Nat) (l : Ass) (z : Option Out) (hz : loopR Try.prog tab (kf + 8) none LB16_7 16 106 [1, 2, 6, 7, 32, 33, 34] 9 k l ([codeO (passAt S0 code 0).2, .slot, .cells 25 [.c x0, .c x1, .c x2, .c x3], .cells 25 zz, .cells 97 [hI 5 (passAt S0 code 0).1.held.length, .hmap 6, .hmap 7, ii (passAt S0 code 0).1.next], rI (passAt S0 code 0).1.held, knO (passAt S0 code 0).1.keys, fsO (passAt S0 code 0).1.keys, .cells 25 [.c y0, .c y1, lv 0 5 (passAt S0 code 0).2.length, .c (.slice [] 0 true (some 0))]]) = z) (hk : code.length < k) (a1 : asc l 1 = .ptr 2 0) (a2 : asc l 2 = .ptr 3 0) (a6 : asc l 6 = .ptr 4 0) (a7 : asc l 7 = .ptr 8 0) (a32 : asc l 32 = sC code nl cap) (a33 : asc l 33 = ii code.length) (a34 : asc l 34 = ii 0) :
    ∃ l', z = some (.exit 0 (fr 106 l') ([codeO (passAt S0 code code.length).2, .slot, .cells 25 [.c x0, .c x1, .c x2, .c x3], .cells 25 zz, .cells 97 [hI 5 (passAt S0 code code.length).1.held.length, .hmap 6, .hmap 7, ii (passAt S0 code code.length).1.next], rI (passAt S0 code code.length).1.held, knO (passAt S0 code code.length).1.keys, fsO (passAt S0 code code.length).1.keys, .cells 25 [.c y0, .c y1, lv 0 5 (passAt S0 code code.length).2.length, .c (.slice [] 0 true (some 0))]])) ∧ asc l' 1 = .ptr 2 0 ∧ asc l' 2 = .ptr 3 0 ∧ asc l' 6 = .ptr 4 0 ∧ asc l' 7 = .ptr 8 0 ∧ asc l' 32 = sC code nl cap ∧ asc l' 33 = ii code.length ∧ asc l' 34 = ii code.length := by
  subst hz
  refine loop_nat code.length (fun k l H => loopR Try.prog tab (kf + 8) none LB16_7 16 106 [1, 2, 6, 7, 32, 33, 34] 9 k l H)
    (fun i l H => asc l 1 = .ptr 2 0 ∧ asc l 2 = .ptr 3 0 ∧ asc l 6 = .ptr 4 0 ∧ asc l 7 = .ptr 8 0 ∧ asc l 32 = sC code nl cap ∧ asc l 33 = ii code.length ∧ asc l 34 = ii i ∧ ∃ G, H = ([codeO (passAt S0 code i).2, .slot, .cells 25 [.c x0, .c x1, .c x2, .c x3], .cells 25 zz, .cells 97 [hI 5 (passAt S0 code i).1.held.length, .hmap 6, .hmap 7, ii (passAt S0 code i).1.next], rI (passAt S0 code i).1.held, knO (passAt S0 code i).1.keys, fsO (passAt S0 code i).1.keys, .cells 25 [.c y0, .c y1, lv 0 5 (passAt S0 code i).2.length, .c (.slice [] 0 true (some 0))]]) ++ G)
    (fun z => ∃ l', z = some (.exit 0 (fr 106 l') ([codeO (passAt S0 code code.length).2, .slot, .cells 25 [.c x0, .c x1, .c x2, .c x3], .cells 25 zz, .cells 97 [hI 5 (passAt S0 code code.length).1.held.length, .hmap 6, .hmap 7, ii (passAt S0 code code.length).1.next], rI (passAt S0 code code.length).1.held, knO (passAt S0 code code.length).1.keys, fsO (passAt S0 code code.length).1.keys, .cells 25 [.c y0, .c y1, lv 0 5 (passAt S0 code code.length).2.length, .c (.slice [] 0 true (some 0))]])) ∧ asc l' 1 = .ptr 2 0 ∧ asc l' 2 = .ptr 3 0 ∧ asc l' 6 = .ptr 4 0 ∧ asc l' 7 = .ptr 8 0 ∧ asc l' 32 = sC code nl cap ∧ asc l' 33 = ii code.length ∧ asc l' 34 = ii code.length) ?_ code.length 0 k l _ (by omega) hk ⟨a1, a2, a6, a7, a32, a33, a34, [], by rw [List.append_nil]⟩
  clear hk a1 a2 a6 a7 a32 a33 a34
  rintro i k l H hi ⟨a1, a2, a6, a7, a32, a33, a34, G, rfl⟩
  have ht : trim 9 (fr 106 (keep l [1, 2, 6, 7, 32, 33, 34])) (([codeO (passAt S0 code i).2, .slot, .cells 25 [.c x0, .c x1, .c x2, .c x3], .cells 25 zz, .cells 97 [hI 5 (passAt S0 code i).1.held.length, .hmap 6, .hmap 7, ii (passAt S0 code i).1.next], rI (passAt S0 code i).1.held, knO (passAt S0 code i).1.keys, fsO (passAt S0 code i).1.keys, .cells 25 [.c y0, .c y1, lv 0 5 (passAt S0 code i).2.length, .c (.slice [] 0 true (some 0))]]) ++ G) = ([codeO (passAt S0 code i).2, .slot, .cells 25 [.c x0, .c x1, .c x2, .c x3], .cells 25 zz, .cells 97 [hI 5 (passAt S0 code i).1.held.length, .hmap 6, .hmap 7, ii (passAt S0 code i).1.next], rI (passAt S0 code i).1.held, knO (passAt S0 code i).1.keys, fsO (passAt S0 code i).1.keys, .cells 25 [.c y0, .c y1, lv 0 5 (passAt S0 code i).2.length, .c (.slice [] 0 true (some 0))]]) := trim_app (by simp) (by simp only [a1, a2, a6, a7, a32, a33, a34, ents_under, hz0, EVb, EVc, Int.reduceEq, Int.reduceToNat, Int.reduceLE, Int.reduceLT, Int.reduceAdd, Int.reduceMul, Int.reduceSub, Int.reduceNeg, Nat.reduceAdd, Nat.reduceSub, Nat.reduceMul, Nat.reduceLT, Nat.reduceBEq, Nat.reduceEqDiff, Nat.reduceLeDiff]) (by simp only [ents_under, hz0, EVb, EVc, Int.reduceEq, Int.reduceToNat, Int.reduceLE, Int.reduceLT, Int.reduceAdd, Int.reduceMul, Int.reduceSub, Int.reduceNeg, Nat.reduceAdd, Nat.reduceSub, Nat.reduceMul, Nat.reduceLT, Nat.reduceBEq, Nat.reduceEqDiff, Nat.reduceLeDiff])
  by_cases hc : i < code.length
  · have hc' : (i : Int) < ((code.length : Nat) : Int) := by omega
    have hc0 : (0 : Int) ≤ i := by omega
    have hw : IntKind.wrap .i64 ((i : Int) + 1) = ((i + 1 : Nat) : Int) := by rw [wrap64 (by omega) (by omega)]; omega
    have hx := encCode_get hc
    obtain ⟨x, hX⟩ : ∃ x, x = code[i] := ⟨_, rfl⟩
    rw [← hX] at hx
    obtain ⟨f1, f2, f3, f4, f5⟩ := passAt_facts S0 code i
    have hm := mayM_facts (hcode x (by rw [hX]; exact List.getElem_mem hc))
    have hst : passAt S0 code (i + 1) = passStep (passAt S0 code i) i x := by rw [passAt_succ hc, hX]
    rw [hst]
    obtain ⟨S, hS⟩ : ∃ S, S = (passAt S0 code i).1 := ⟨_, rfl⟩
    obtain ⟨out, hO⟩ : ∃ out, out = (passAt S0 code i).2 := ⟨_, rfl⟩
    have hps : passAt S0 code i = (S, out) := by rw [hS, hO]
    rw [hps] at f1 f2 f3 f4 f5 ht ⊢
    simp only at f1 f2 f3 f4 f5 ht
    have hap := fun X cs => lo_length (e := 34) (n := out.length) (sz := 5) (by_ := 40) (cells := encCode out) (cs := cs) (X := X) (Nat.le_trans (Nat.mul_le_mul_right 40 (show out.length + 1 ≤ 20001 by omega)) (by decide)) (by decide) (encCode_length _)
    rw [← f1] at hm
    obtain ⟨⟨m1, m2⟩, ⟨m3, m4⟩, ⟨m5, m6⟩, m7⟩ := hm
    have hR := tReckon_ev (kf + 5) S i x.op x.to x.a x.b x.c ⟨m5, m6⟩ m7 (by omega)
    have hel := encInts_length S.held
    have ht2 : x.to.toNat < S.held.length := by omega
    have hxt := encInts_getD m3 m4
    obtain ⟨ks, nx, hRR⟩ : ∃ ks nx, (reckonM S i x).2.2 = ⟨S.held, ks, nx⟩ := ⟨(reckonM S i x).2.2.keys, (reckonM S i x).2.2.next, by rw [← reckonM_held S i x]⟩
    obtain ⟨v, hv⟩ : ∃ v, v = (reckonM S i x).1 := ⟨_, rfl⟩
    have hA := tAsked_ev (kf + 6) ⟨S.held, ks, nx⟩ x.op x.to x.a x.b x.c (by simp only; omega) (by simp only; omega) ⟨m5, m6⟩ m7
    have hH := tHolder_ev (kf + 7) ⟨S.held, ks, nx⟩ v (by simp only; omega) (by simp only; omega)
    rw [show (reckonM S i ⟨x.op, x.to, x.a, x.b, x.c⟩) = reckonM S i x from rfl, hRR, ← hv] at hR
    rw [show (Ins.mk x.op x.to x.a x.b x.c) = x from rfl] at hA
    simp only [aI, ii] at hR hA hH
    simp only [passStep, ← hv, hRR]
    clear hst hps hcode hX
    by_cases he : S.held.getD x.to.toNat 0 = v
    · rw [if_pos he]
      simp only [loopR_succ, ht]
      simp only [a1, a2, a6, a7, a32, a33, a34, hc', hc0, hw, hx, hR, hA, askM_to, ents_ids, ents_ren, loopR_succ, loopOf, findLoop, firstRegion, Option.some_or, Option.none_or, Option.getD_some, Option.some.injEq, Try.f16, EVb, EVc, Int.reduceEq, Int.reduceToNat, Int.reduceLE, Int.reduceLT, Int.reduceAdd, Int.reduceMul, Int.reduceSub, Int.reduceNeg, Nat.reduceAdd, Nat.reduceSub, Nat.reduceMul, Nat.reduceLT, Nat.reduceBEq, Nat.reduceEqDiff, Nat.reduceLeDiff, FACTS, TYPES]
      rw [evalCode_drawn Try.f16 11 dr16_11]; rotate_left; rfl
      simp only [a1, a2, a6, a7, a32, a33, a34, hc', hc0, hw, hel, hxt, he, m3, m4, EVd, Nat.reducePow, Nat.reduceDiv, Nat.reduceMod, EVb, EVc, Int.reduceEq, Int.reduceToNat, Int.reduceLE, Int.reduceLT, Int.reduceAdd, Int.reduceMul, Int.reduceSub, Int.reduceNeg, Nat.reduceAdd, Nat.reduceSub, Nat.reduceMul, Nat.reduceLT, Nat.reduceBEq, Nat.reduceEqDiff, Nat.reduceLeDiff, FACTS, TYPES]
      refine .inr ⟨_, _, hc, rfl, (by rfl), (by rfl), (by rfl), (by rfl), (by rfl), (by rfl), (by rfl), ?_⟩
      exact ⟨_, by rfl⟩
    · rw [if_neg he]
      simp only [loopR_succ, ht]
      simp only [a1, a2, a6, a7, a32, a33, a34, hc', hc0, hw, hx, hR, hA, askM_to, ents_ids, ents_ren, loopR_succ, loopOf, findLoop, firstRegion, Option.some_or, Option.none_or, Option.getD_some, Option.some.injEq, Try.f16, EVb, EVc, Int.reduceEq, Int.reduceToNat, Int.reduceLE, Int.reduceLT, Int.reduceAdd, Int.reduceMul, Int.reduceSub, Int.reduceNeg, Nat.reduceAdd, Nat.reduceSub, Nat.reduceMul, Nat.reduceLT, Nat.reduceBEq, Nat.reduceEqDiff, Nat.reduceLeDiff, FACTS, TYPES]
      rw [evalCode_drawn Try.f16 11 dr16_11]; rotate_left; rfl
      simp only [a1, a2, a6, a7, a32, a33, a34, hc', hc0, hw, hel, hxt, he, m3, m4, EVd, Nat.reducePow, Nat.reduceDiv, Nat.reduceMod, EVb, EVc, Int.reduceEq, Int.reduceToNat, Int.reduceLE, Int.reduceLT, Int.reduceAdd, Int.reduceMul, Int.reduceSub, Int.reduceNeg, Nat.reduceAdd, Nat.reduceSub, Nat.reduceMul, Nat.reduceLT, Nat.reduceBEq, Nat.reduceEqDiff, Nat.reduceLeDiff, FACTS, TYPES]
      by_cases h0 : 0 ≤ holdM v S.held 0
      · have hem : emitM v S.held x = ⟨1, x.to, holdM v S.held 0, 0, 0⟩ := if_pos h0
        rw [hem]
        try simp only [a1, a2, a6, a7, a32, a33, a34, hc', hc0, hw, hH, h0, ents_ids, ents_ren, hap, EVb, EVc, Int.reduceEq, Int.reduceToNat, Int.reduceLE, Int.reduceLT, Int.reduceAdd, Int.reduceMul, Int.reduceSub, Int.reduceNeg, Nat.reduceAdd, Nat.reduceSub, Nat.reduceMul, Nat.reduceLT, Nat.reduceBEq, Nat.reduceEqDiff, Nat.reduceLeDiff, FACTS, TYPES]
        rw [evalCode_drawn Try.f16 16 dr16_16]; rotate_left; rfl
        simp only [a1, a2, a6, a7, a32, a33, a34, hc', hc0, hw, hel, m3, m4, ht2, encInts_set, EVd, Nat.reducePow, Nat.reduceDiv, Nat.reduceMod, EVb, EVc, Int.reduceEq, Int.reduceToNat, Int.reduceLE, Int.reduceLT, Int.reduceAdd, Int.reduceMul, Int.reduceSub, Int.reduceNeg, Nat.reduceAdd, Nat.reduceSub, Nat.reduceMul, Nat.reduceLT, Nat.reduceBEq, Nat.reduceEqDiff, Nat.reduceLeDiff, FACTS, TYPES]
        refine .inr ⟨_, _, hc, rfl, (by rfl), (by rfl), (by rfl), (by rfl), (by rfl), (by rfl), (by rfl), ?_⟩
        simp only [codeO, List.length_append, List.length_cons, List.length_nil, Nat.zero_add, List.length_set, encCode_append, encCode, enc1, List.append_nil]
        exact ⟨_, by rfl⟩
      · have hem : emitM v S.held x = askM S.held x := if_neg h0
        rw [hem]
        try simp only [a1, a2, a6, a7, a32, a33, a34, hc', hc0, hw, hH, h0, ents_ids, ents_ren, hap, EVb, EVc, Int.reduceEq, Int.reduceToNat, Int.reduceLE, Int.reduceLT, Int.reduceAdd, Int.reduceMul, Int.reduceSub, Int.reduceNeg, Nat.reduceAdd, Nat.reduceSub, Nat.reduceMul, Nat.reduceLT, Nat.reduceBEq, Nat.reduceEqDiff, Nat.reduceLeDiff, FACTS, TYPES]
        rw [evalCode_drawn Try.f16 16 dr16_16]; rotate_left; rfl
        simp only [a1, a2, a6, a7, a32, a33, a34, hc', hc0, hw, hel, m3, m4, ht2, encInts_set, askM_to, EVd, Nat.reducePow, Nat.reduceDiv, Nat.reduceMod, EVb, EVc, Int.reduceEq, Int.reduceToNat, Int.reduceLE, Int.reduceLT, Int.reduceAdd, Int.reduceMul, Int.reduceSub, Int.reduceNeg, Nat.reduceAdd, Nat.reduceSub, Nat.reduceMul, Nat.reduceLT, Nat.reduceBEq, Nat.reduceEqDiff, Nat.reduceLeDiff, FACTS, TYPES]
        refine .inr ⟨_, _, hc, rfl, (by rfl), (by rfl), (by rfl), (by rfl), (by rfl), (by rfl), (by rfl), ?_⟩
        simp only [codeO, List.length_append, List.length_cons, List.length_nil, Nat.zero_add, List.length_set, encCode_append, encCode, enc1, List.append_nil]
        exact ⟨_, by rfl⟩
  · refine .inl ?_
    obtain rfl : i = code.length := by omega
    have hc' : ¬ (((code.length : Nat) : Int) < ((code.length : Nat) : Int)) := by omega
    simp only [loopR_succ, ht]
    simp only [a1, a2, a6, a7, a32, a33, a34, hc', loopR_succ, loopOf, findLoop, firstRegion, Option.some_or, Option.none_or, Option.getD_some, Option.some.injEq, Try.f16, EVb, EVc, Int.reduceEq, Int.reduceToNat, Int.reduceLE, Int.reduceLT, Int.reduceAdd, Int.reduceMul, Int.reduceSub, Int.reduceNeg, Nat.reduceAdd, Nat.reduceSub, Nat.reduceMul, Nat.reduceLT, Nat.reduceBEq, Nat.reduceEqDiff, Nat.reduceLeDiff, FACTS, TYPES]
    exact ⟨_, rfl, (by rfl), (by rfl), (by rfl), (by rfl), (by rfl), (by rfl), (by rfl)⟩

theorem outsL_take {held outs : List Int} {i : Nat} (h : i < outs.length) : outsL held (outs.take (i + 1)) = outsL held (outs.take i) ++ [holdM (held.getD outs[i].toNat 0) held 0] := by
  rw [List.take_succ_eq_append_getElem h, outsL, outsL, List.map_append]; rfl
theorem outsL_length (held outs : List Int) : (outsL held outs).length = outs.length := by simp [outsL]
theorem loop_sharePass2 (kf : Nat) (x0 x1 x2 x3 y0 y1 : IV) (zz : List AV) (hz0 : (zz.all fun e => AV.under 9 e) = true) (cl : Nat) (cc : List IV) (S : St) (outs : List Int) (nl : Bool) (cap : Option Nat) (hr : ∀ r ∈ outs, 0 ≤ r ∧ r < S.held.length) (hlen : outs.length ≤ 20000) (hreg : S.held.length ≤ 128) (hkf : 200 ≤ kf) (k : Nat) (l : Ass) (z : Option Out) (hz : loopR Try.prog tab (kf + 8) none LB16_19 16 106 [2, 6, 7, 84, 85, 86] 9 k l ([lo 34 cl cc, lo 3 0 (encInts (outsL S.held (outs.take 0))), .cells 25 [.c x0, .c x1, .c x2, .c x3], .cells 25 zz, .cells 97 [hI 5 S.held.length, .hmap 6, .hmap 7, ii S.next], rI S.held, knO S.keys, fsO S.keys, .cells 25 [.c y0, .c y1, lv 0 5 cl, lv 1 1 0]]) = z) (hk : outs.length < k) (a2 : asc l 2 = .ptr 3 0) (a6 : asc l 6 = .ptr 4 0) (a7 : asc l 7 = .ptr 8 0) (a84 : asc l 84 = sI outs nl cap) (a85 : asc l 85 = ii outs.length) (a86 : asc l 86 = ii 0) :
    ∃ l', z = some (.exit 2 (fr 106 l') ([lo 34 cl cc, lo 3 outs.length (encInts (outsL S.held (outs.take outs.length))), .cells 25 [.c x0, .c x1, .c x2, .c x3], .cells 25 zz, .cells 97 [hI 5 S.held.length, .hmap 6, .hmap 7, ii S.next], rI S.held, knO S.keys, fsO S.keys, .cells 25 [.c y0, .c y1, lv 0 5 cl, lv 1 1 outs.length]])) ∧ asc l' 2 = .ptr 3 0 ∧ asc l' 6 = .ptr 4 0 ∧ asc l' 7 = .ptr 8 0 ∧ asc l' 84 = sI outs nl cap ∧ asc l' 85 = ii outs.length ∧ asc l' 86 = ii outs.length := by
  subst hz
  refine loop_nat outs.length (fun k l H => loopR Try.prog tab (kf + 8) none LB16_19 16 106 [2, 6, 7, 84, 85, 86] 9 k l H)
    (fun i l H => asc l 2 = .ptr 3 0 ∧ asc l 6 = .ptr 4 0 ∧ asc l 7 = .ptr 8 0 ∧ asc l 84 = sI outs nl cap ∧ asc l 85 = ii outs.length ∧ asc l 86 = ii i ∧ ∃ G, H = ([lo 34 cl cc, lo 3 i (encInts (outsL S.held (outs.take i))), .cells 25 [.c x0, .c x1, .c x2, .c x3], .cells 25 zz, .cells 97 [hI 5 S.held.length, .hmap 6, .hmap 7, ii S.next], rI S.held, knO S.keys, fsO S.keys, .cells 25 [.c y0, .c y1, lv 0 5 cl, lv 1 1 i]]) ++ G)
    (fun z => ∃ l', z = some (.exit 2 (fr 106 l') ([lo 34 cl cc, lo 3 outs.length (encInts (outsL S.held (outs.take outs.length))), .cells 25 [.c x0, .c x1, .c x2, .c x3], .cells 25 zz, .cells 97 [hI 5 S.held.length, .hmap 6, .hmap 7, ii S.next], rI S.held, knO S.keys, fsO S.keys, .cells 25 [.c y0, .c y1, lv 0 5 cl, lv 1 1 outs.length]])) ∧ asc l' 2 = .ptr 3 0 ∧ asc l' 6 = .ptr 4 0 ∧ asc l' 7 = .ptr 8 0 ∧ asc l' 84 = sI outs nl cap ∧ asc l' 85 = ii outs.length ∧ asc l' 86 = ii outs.length) ?_ outs.length 0 k l _ (by omega) hk ⟨a2, a6, a7, a84, a85, a86, [], by rw [List.append_nil]⟩
  clear hk a2 a6 a7 a84 a85 a86
  rintro i k l H hi ⟨a2, a6, a7, a84, a85, a86, G, rfl⟩
  have ht : trim 9 (fr 106 (keep l [2, 6, 7, 84, 85, 86])) (([lo 34 cl cc, lo 3 i (encInts (outsL S.held (outs.take i))), .cells 25 [.c x0, .c x1, .c x2, .c x3], .cells 25 zz, .cells 97 [hI 5 S.held.length, .hmap 6, .hmap 7, ii S.next], rI S.held, knO S.keys, fsO S.keys, .cells 25 [.c y0, .c y1, lv 0 5 cl, lv 1 1 i]]) ++ G) = ([lo 34 cl cc, lo 3 i (encInts (outsL S.held (outs.take i))), .cells 25 [.c x0, .c x1, .c x2, .c x3], .cells 25 zz, .cells 97 [hI 5 S.held.length, .hmap 6, .hmap 7, ii S.next], rI S.held, knO S.keys, fsO S.keys, .cells 25 [.c y0, .c y1, lv 0 5 cl, lv 1 1 i]]) := trim_app (by simp) (by simp only [a2, a6, a7, a84, a85, a86, ents_under, hz0, EVb, EVc, Int.reduceEq, Int.reduceToNat, Int.reduceLE, Int.reduceLT, Int.reduceAdd, Int.reduceMul, Int.reduceSub, Int.reduceNeg, Nat.reduceAdd, Nat.reduceSub, Nat.reduceMul, Nat.reduceLT, Nat.reduceBEq, Nat.reduceEqDiff, Nat.reduceLeDiff]) (by simp only [ents_under, hz0, EVb, EVc, Int.reduceEq, Int.reduceToNat, Int.reduceLE, Int.reduceLT, Int.reduceAdd, Int.reduceMul, Int.reduceSub, Int.reduceNeg, Nat.reduceAdd, Nat.reduceSub, Nat.reduceMul, Nat.reduceLT, Nat.reduceBEq, Nat.reduceEqDiff, Nat.reduceLeDiff])
  by_cases hc : i < outs.length
  · have hc' : (i : Int) < ((outs.length : Nat) : Int) := by omega
    have hc0 : (0 : Int) ≤ i := by omega
    have hw : IntKind.wrap .i64 ((i : Int) + 1) = ((i + 1 : Nat) : Int) := by rw [wrap64 (by omega) (by omega)]; omega
    have hx := encInts_get hc
    have hlen2 : (outsL S.held (outs.take i)).length = i := by rw [outsL_length, List.length_take]; omega
    have hap := fun x0 X cs => apO_lv (e := 3) (s := 1) (n := i) (m := 1) (sz := 1) (by_ := 8) (cells := encInts (outsL S.held (outs.take i))) (cs := cs) (H := x0 :: lo 3 i (encInts (outsL S.held (outs.take i))) :: X) (by decide) (Nat.le_trans (Nat.mul_le_mul_right 8 (show i + 1 ≤ 20001 by omega)) (by decide)) (by decide) rfl (by rw [encInts_length, hlen2, Nat.mul_one])
    obtain ⟨r, hR⟩ : ∃ r, r = outs[i] := ⟨_, rfl⟩
    obtain ⟨r0, r1⟩ := hr r (by rw [hR]; exact List.getElem_mem hc)
    have hnx := outsL_take (held := S.held) hc
    rw [← hR] at hx hnx
    have hel := encInts_length S.held
    have hxr := encInts_getD r0 r1
    have hH := tHolder_ev (kf + 7) S (S.held.getD r.toNat 0) (by omega) (by omega)
    simp only [ii] at hH
    rw [hnx, encInts_append]
    simp only [loopR_succ, ht]
    simp only [a2, a6, a7, a84, a85, a86, hc', hc0, hw, hx, loopR_succ, loopOf, findLoop, firstRegion, Option.some_or, Option.none_or, Option.getD_some, Option.some.injEq, Try.f16, EVb, EVc, Int.reduceEq, Int.reduceToNat, Int.reduceLE, Int.reduceLT, Int.reduceAdd, Int.reduceMul, Int.reduceSub, Int.reduceNeg, Nat.reduceAdd, Nat.reduceSub, Nat.reduceMul, Nat.reduceLT, Nat.reduceBEq, Nat.reduceEqDiff, Nat.reduceLeDiff, FACTS, TYPES]
    rw [evalCode_drawn Try.f16 21 dr16_21]; rotate_left; rfl
    simp only [a2, a6, a7, a84, a85, a86, hc', hc0, hw, hx, hxr, hel, r0, r1, hH, ents_ids, ents_ren, hap, EVd, Nat.reducePow, Nat.reduceDiv, Nat.reduceMod, EVb, EVc, Int.reduceEq, Int.reduceToNat, Int.reduceLE, Int.reduceLT, Int.reduceAdd, Int.reduceMul, Int.reduceSub, Int.reduceNeg, Nat.reduceAdd, Nat.reduceSub, Nat.reduceMul, Nat.reduceLT, Nat.reduceBEq, Nat.reduceEqDiff, Nat.reduceLeDiff, FACTS, TYPES]
    refine .inr ⟨_, _, hc, rfl, (by rfl), (by rfl), (by rfl), (by rfl), (by rfl), (by rfl), ?_⟩
    exact ⟨_, by rfl⟩
  · refine .inl ?_
    obtain rfl : i = outs.length := by omega
    have hc' : ¬ (((outs.length : Nat) : Int) < ((outs.length : Nat) : Int)) := by omega
    simp only [loopR_succ, ht]
    simp only [a2, a6, a7, a84, a85, a86, hc', loopR_succ, loopOf, findLoop, firstRegion, Option.some_or, Option.none_or, Option.getD_some, Option.some.injEq, Try.f16, EVb, EVc, Int.reduceEq, Int.reduceToNat, Int.reduceLE, Int.reduceLT, Int.reduceAdd, Int.reduceMul, Int.reduceSub, Int.reduceNeg, Nat.reduceAdd, Nat.reduceSub, Nat.reduceMul, Nat.reduceLT, Nat.reduceBEq, Nat.reduceEqDiff, Nat.reduceLeDiff, FACTS, TYPES]
    exact ⟨_, rfl, (by rfl), (by rfl), (by rfl), (by rfl), (by rfl), (by rfl)⟩

end Go.Proofs.Sw
