/- A part of the proof: what functions of the program answer, of whatever arguments, reckoned with letters by the interpreter's equations. Its conditions stand in each theorem. -/
import Derived.Test.YtefdgfdahmaciaaS14G
namespace Go.Proofs.Sw
set_option linter.unusedVariables false
set_option linter.unusedSimpArgs false
set_option linter.unusedSectionVars false
open Go.Ab
variable [Globals]
theorem sReckon1A_ev (k : Nat) (S : St) (hS : S.keys = []) (n t a b c : Int) (ha : 0 ≤ a ∧ a < S.held.length) :
    evalT Try.prog (mkHints tab) (k+1) (.fn 28) [.ptr 0 0, ii n, aI 1 t a b c] [staO S, rI S.held] = some (.tup [ii (S.held.getD a.toNat 0), ii (-1)], [staO S, rI S.held]) := by
  obtain ⟨a0, a1⟩ := ha
  have hel := encInts_length S.held
  have hxa := encInts_getD a0 a1
  have hl : S.keys.length = 0 ∨ 0 < S.keys.length := by omega
  rw [ev28]
  simp only [Try.f28, aI, ii, EVb, EVc, Int.reduceEq, Int.reduceToNat, Int.reduceLE, Int.reduceLT, Int.reduceAdd, Int.reduceMul, Int.reduceSub, Int.reduceNeg, Nat.reduceAdd, Nat.reduceSub, Nat.reduceMul, Nat.reduceLT, Nat.reduceBEq, Nat.reduceEqDiff, Nat.reduceLeDiff, FACTS, TYPES]
  rw [evalCode_drawn Try.f28 2 dr28_2]; rotate_left; rfl
  simp only [a0, a1, hel, hxa, hS, List.length_nil, EVd, Nat.reducePow, Nat.reduceDiv, Nat.reduceMod, EVb, EVc, Int.reduceEq, Int.reduceToNat, Int.reduceLE, Int.reduceLT, Int.reduceAdd, Int.reduceMul, Int.reduceSub, Int.reduceNeg, Nat.reduceAdd, Nat.reduceSub, Nat.reduceMul, Nat.reduceLT, Nat.reduceBEq, Nat.reduceEqDiff, Nat.reduceLeDiff, FACTS, TYPES]
theorem sReckon1B_ev (k : Nat) (S : St) (hS : S.keys ≠ []) (n t a b c : Int) (ha : 0 ≤ a ∧ a < S.held.length) :
    evalT Try.prog (mkHints tab) (k+1) (.fn 28) [.ptr 0 0, ii n, aI 1 t a b c] [staO S, rI S.held, keO S.keys] = some (.tup [ii (S.held.getD a.toNat 0), ii (-1)], [staO S, rI S.held, keO S.keys]) := by
  obtain ⟨a0, a1⟩ := ha
  have hel := encInts_length S.held
  have hxa := encInts_getD a0 a1
  have hl : S.keys.length = 0 ∨ 0 < S.keys.length := by omega
  rw [ev28]
  simp only [Try.f28, aI, ii, EVb, EVc, Int.reduceEq, Int.reduceToNat, Int.reduceLE, Int.reduceLT, Int.reduceAdd, Int.reduceMul, Int.reduceSub, Int.reduceNeg, Nat.reduceAdd, Nat.reduceSub, Nat.reduceMul, Nat.reduceLT, Nat.reduceBEq, Nat.reduceEqDiff, Nat.reduceLeDiff, FACTS, TYPES]
  rw [evalCode_drawn Try.f28 2 dr28_2]; rotate_left; rfl
  simp only [a0, a1, hel, hxa, hS, List.length_nil, EVd, Nat.reducePow, Nat.reduceDiv, Nat.reduceMod, EVb, EVc, Int.reduceEq, Int.reduceToNat, Int.reduceLE, Int.reduceLT, Int.reduceAdd, Int.reduceMul, Int.reduceSub, Int.reduceNeg, Nat.reduceAdd, Nat.reduceSub, Nat.reduceMul, Nat.reduceLT, Nat.reduceBEq, Nat.reduceEqDiff, Nat.reduceLeDiff, FACTS, TYPES]
/-- The state behind an instruction. -/
def stepS (S : St) (n : Int) (i : Ins) : St := { (reckonM S n i).2.2 with held := (reckonM S n i).2.2.held.set i.to.toNat (reckonM S n i).1 }
def stAt (S0 : St) (code : List Ins) : Nat → St
  | 0 => S0
  | i + 1 => match code[i]? with
    | some x => stepS (stAt S0 code i) i x
    | none => stAt S0 code i
/-- What the i-th instruction reckons. -/
def valAt (S0 : St) (code : List Ins) (i : Nat) : Int := (reckonM (stAt S0 code i) i (code.getD i ⟨0, 0, 0, 0, 0⟩)).1
def firstAt (S0 : St) (code : List Ins) (i : Nat) : Int := (reckonM (stAt S0 code i) i (code.getD i ⟨0, 0, 0, 0, 0⟩)).2.1
def valsL (S0 : St) (code : List Ins) (i : Nat) : List Int := (List.range i).map (valAt S0 code)
theorem valsL_length (S0 : St) (code : List Ins) (i : Nat) : (valsL S0 code i).length = i := by simp [valsL]
theorem valsL_succ (S0 : St) (code : List Ins) (i : Nat) : valsL S0 code (i + 1) = valsL S0 code i ++ [valAt S0 code i] := by simp [valsL, List.range_succ]
theorem reckonM_held (S : St) (n : Int) (i : Ins) : (reckonM S n i).2.2.held = S.held := by
  unfold reckonM
  split
  · rfl
  · split <;> rfl
theorem reckonM_next (S : St) (n : Int) (i : Ins) : S.next ≤ (reckonM S n i).2.2.next ∧ (reckonM S n i).2.2.next ≤ S.next + 1 := by
  unfold reckonM
  split
  · exact ⟨Int.le_refl _, by show S.next ≤ S.next + 1; omega⟩
  · split
    · exact ⟨Int.le_refl _, by show S.next ≤ S.next + 1; omega⟩
    · exact ⟨by show S.next ≤ S.next + 1; omega, Int.le_refl _⟩
theorem reckonM_keys (S : St) (n : Int) (i : Ins) : (reckonM S n i).2.2.keys.length ≤ S.keys.length + 1 ∧ S.keys.length ≤ (reckonM S n i).2.2.keys.length := by
  unfold reckonM
  split
  · exact ⟨Nat.le_succ _, Nat.le_refl _⟩
  · split
    · exact ⟨Nat.le_succ _, Nat.le_refl _⟩
    · simp
theorem reckonM_pos {S : St} {n : Int} {i : Ins} (h : i.op ≠ 1) : 0 < (reckonM S n i).2.2.keys.length := by
  unfold reckonM
  rw [if_neg h]
  split
  · rename_i p hp
    have := (lookK_at hp).1
    exact Nat.lt_of_le_of_lt (Nat.zero_le _) (List.getElem?_eq_some_iff.1 this).1
  · simp
theorem reckonM_one {S : St} {n : Int} {i : Ins} (h : i.op = 1) : reckonM S n i = (S.held.getD i.a.toNat 0, -1, S) := if_pos h
theorem stAt_succ {S0 : St} {code : List Ins} {i : Nat} (h : i < code.length) : stAt S0 code (i + 1) = stepS (stAt S0 code i) i code[i] := by
  rw [stAt, List.getElem?_eq_getElem h]
theorem stAt_facts (S0 : St) (code : List Ins) : ∀ i, (stAt S0 code i).held.length = S0.held.length ∧ S0.next ≤ (stAt S0 code i).next ∧ (stAt S0 code i).next ≤ S0.next + i ∧ (stAt S0 code i).keys.length ≤ S0.keys.length + i
  | 0 => ⟨rfl, Int.le_refl _, by simp [stAt], Nat.le_refl _⟩
  | i + 1 => by
    obtain ⟨h1, h2, h3, h4⟩ := stAt_facts S0 code i
    rw [stAt]
    split
    · rename_i x hx
      have h5 := reckonM_next (stAt S0 code i) i x
      have h6 := reckonM_keys (stAt S0 code i) i x
      simp only [stepS, reckonM_held, List.length_set]
      exact ⟨h1, by omega, by omega, by omega⟩
    · exact ⟨h1, h2, by omega, by omega⟩
theorem encInts_set {l : List Int} {r : Nat} {v : Int} : (encInts l).set r (.int .i64 v) = encInts (l.set r v) := by simp [encInts, List.map_set]
/-- What the law knows of an instruction that may be. -/
theorem mayM_facts {i : Ins} {regs : Int} (h : mayM i regs = true) : (1 ≤ i.op ∧ i.op ≤ 8) ∧ (0 ≤ i.to ∧ i.to < regs) ∧ (0 ≤ i.a ∧ i.a < regs) ∧ (i.op = 3 ∨ i.op = 4 → 0 ≤ i.b ∧ i.b < regs) := by
  simp only [mayM, Bool.and_eq_true, decide_eq_true_eq] at h
  obtain ⟨⟨⟨⟨m1, m2, m3, m4, m5⟩, _⟩, m6⟩, m7⟩ := h
  exact ⟨⟨m1, m2⟩, ⟨m3, m4⟩, m6, m7⟩
theorem loop_Values (kf : Nat) (x0 x1 x2 x3 : IV) (S0 : St) (code : List Ins) (nl : Bool) (cap : Option Nat) (hcode : ∀ i ∈ code, mayM i S0.held.length = true) (hlen : code.length ≤ 150000) (hnx : 0 ≤ S0.next ∧ S0.next ≤ 100000) (k : Nat) (l : Ass) (z : Option Out) (hz : loopR Try.prog tab (kf + 4) none LB25_7 25 51 [6, 7, 23, 24, 25] 6 k l ([lo 3 0 (encInts (valsL S0 code 0)), .cells 25 [.c x0, .c x1, .c x2, .c x3], .cells 97 [hI 3 (stAt S0 code 0).held.length, .hmap 4, .hmap 5, ii (stAt S0 code 0).next], rI (stAt S0 code 0).held, knO (stAt S0 code 0).keys, fsO (stAt S0 code 0).keys]) = z) (hk : code.length < k) (a6 : asc l 6 = .ptr 2 0) (a7 : asc l 7 = lv 0 1 0) (a23 : asc l 23 = sC code nl cap) (a24 : asc l 24 = ii code.length) (a25 : asc l 25 = ii 0) :
    ∃ l', z = some (.exit 0 (fr 51 l') ([lo 3 code.length (encInts (valsL S0 code code.length)), .cells 25 [.c x0, .c x1, .c x2, .c x3], .cells 97 [hI 3 (stAt S0 code code.length).held.length, .hmap 4, .hmap 5, ii (stAt S0 code code.length).next], rI (stAt S0 code code.length).held, knO (stAt S0 code code.length).keys, fsO (stAt S0 code code.length).keys])) ∧ asc l' 6 = .ptr 2 0 ∧ asc l' 7 = lv 0 1 code.length ∧ asc l' 23 = sC code nl cap ∧ asc l' 24 = ii code.length ∧ asc l' 25 = ii code.length := by
  subst hz
  refine loop_nat code.length (fun k l H => loopR Try.prog tab (kf + 4) none LB25_7 25 51 [6, 7, 23, 24, 25] 6 k l H)
    (fun i l H => asc l 6 = .ptr 2 0 ∧ asc l 7 = lv 0 1 i ∧ asc l 23 = sC code nl cap ∧ asc l 24 = ii code.length ∧ asc l 25 = ii i ∧ ∃ G, H = ([lo 3 i (encInts (valsL S0 code i)), .cells 25 [.c x0, .c x1, .c x2, .c x3], .cells 97 [hI 3 (stAt S0 code i).held.length, .hmap 4, .hmap 5, ii (stAt S0 code i).next], rI (stAt S0 code i).held, knO (stAt S0 code i).keys, fsO (stAt S0 code i).keys]) ++ G)
    (fun z => ∃ l', z = some (.exit 0 (fr 51 l') ([lo 3 code.length (encInts (valsL S0 code code.length)), .cells 25 [.c x0, .c x1, .c x2, .c x3], .cells 97 [hI 3 (stAt S0 code code.length).held.length, .hmap 4, .hmap 5, ii (stAt S0 code code.length).next], rI (stAt S0 code code.length).held, knO (stAt S0 code code.length).keys, fsO (stAt S0 code code.length).keys])) ∧ asc l' 6 = .ptr 2 0 ∧ asc l' 7 = lv 0 1 code.length ∧ asc l' 23 = sC code nl cap ∧ asc l' 24 = ii code.length ∧ asc l' 25 = ii code.length) ?_ code.length 0 k l _ (by omega) hk ⟨a6, a7, a23, a24, a25, [], by rw [List.append_nil]⟩
  clear hk a6 a7 a23 a24 a25
  rintro i k l H hi ⟨a6, a7, a23, a24, a25, G, rfl⟩
  have ht : trim 6 (fr 51 (keep l [6, 7, 23, 24, 25])) (([lo 3 i (encInts (valsL S0 code i)), .cells 25 [.c x0, .c x1, .c x2, .c x3], .cells 97 [hI 3 (stAt S0 code i).held.length, .hmap 4, .hmap 5, ii (stAt S0 code i).next], rI (stAt S0 code i).held, knO (stAt S0 code i).keys, fsO (stAt S0 code i).keys]) ++ G) = ([lo 3 i (encInts (valsL S0 code i)), .cells 25 [.c x0, .c x1, .c x2, .c x3], .cells 97 [hI 3 (stAt S0 code i).held.length, .hmap 4, .hmap 5, ii (stAt S0 code i).next], rI (stAt S0 code i).held, knO (stAt S0 code i).keys, fsO (stAt S0 code i).keys]) := trim_app (by simp) (by simp only [a6, a7, a23, a24, a25, ents_under, EVb, EVc, Int.reduceEq, Int.reduceToNat, Int.reduceLE, Int.reduceLT, Int.reduceAdd, Int.reduceMul, Int.reduceSub, Int.reduceNeg, Nat.reduceAdd, Nat.reduceSub, Nat.reduceMul, Nat.reduceLT, Nat.reduceBEq, Nat.reduceEqDiff, Nat.reduceLeDiff]) (by simp only [ents_under, EVb, EVc, Int.reduceEq, Int.reduceToNat, Int.reduceLE, Int.reduceLT, Int.reduceAdd, Int.reduceMul, Int.reduceSub, Int.reduceNeg, Nat.reduceAdd, Nat.reduceSub, Nat.reduceMul, Nat.reduceLT, Nat.reduceBEq, Nat.reduceEqDiff, Nat.reduceLeDiff])
  by_cases hc : i < code.length
  · have hc' : (i : Int) < ((code.length : Nat) : Int) := by omega
    have hc0 : (0 : Int) ≤ i := by omega
    have hw : IntKind.wrap .i64 ((i : Int) + 1) = ((i + 1 : Nat) : Int) := by rw [wrap64 (by omega) (by omega)]; omega
    have hx := encCode_get hc
    have hap := fun X x => lo_length (e := 3) (n := i) (sz := 1) (by_ := 8) (cells := encInts (valsL S0 code i)) (cs := [x]) (X := X) (Nat.le_trans (Nat.mul_le_mul_right 8 (show i + 1 ≤ 150001 by omega)) (by decide)) (by decide) (by rw [encInts_length, valsL_length, Nat.mul_one])
    obtain ⟨x, hX⟩ : ∃ x, x = code[i] := ⟨_, rfl⟩
    rw [← hX] at hx
    obtain ⟨f1, f2, f3, f4⟩ := stAt_facts S0 code i
    have hm := mayM_facts (hcode x (by rw [hX]; exact List.getElem_mem hc))
    have hst : stAt S0 code (i + 1) = stepS (stAt S0 code i) i x := by rw [stAt_succ hc, hX]
    have hva : valAt S0 code i = (reckonM (stAt S0 code i) i x).1 := by unfold valAt; rw [List.getD_eq_getElem?_getD, List.getElem?_eq_getElem hc, ← hX]; rfl
    have hvs : valsL S0 code (i + 1) = valsL S0 code i ++ [(reckonM (stAt S0 code i) i x).1] := by rw [valsL_succ, hva]
    obtain ⟨S, hS⟩ : ∃ S, S = stAt S0 code i := ⟨_, rfl⟩
    rw [hst, hvs]
    rw [← hS] at f1 f2 f3 f4 ht ⊢
    rw [← f1] at hm
    obtain ⟨⟨m1, m2⟩, ⟨m3, m4⟩, ⟨m5, m6⟩, m7⟩ := hm
    have hR := tReckon_ev (kf + 1) S i x.op x.to x.a x.b x.c ⟨m5, m6⟩ m7 (by omega)
    have hel := encInts_length S.held
    have ht2 : x.to.toNat < S.held.length := by omega
    have hh := reckonM_held S i x
    simp only [aI, ii, hh] at hR
    simp only [loopR_succ, ht]
    simp only [a6, a7, a23, a24, a25, hc', hc0, hw, hx, hR, ents_ids, ents_ren, loopR_succ, loopOf, findLoop, firstRegion, Option.some_or, Option.none_or, Option.getD_some, Option.some.injEq, Try.f25, EVb, EVc, Int.reduceEq, Int.reduceToNat, Int.reduceLE, Int.reduceLT, Int.reduceAdd, Int.reduceMul, Int.reduceSub, Int.reduceNeg, Nat.reduceAdd, Nat.reduceSub, Nat.reduceMul, Nat.reduceLT, Nat.reduceBEq, Nat.reduceEqDiff, Nat.reduceLeDiff, FACTS, TYPES]
    rw [evalCode_drawn Try.f25 10 dr25_10]; rotate_left; rfl
    simp only [a6, a7, a23, a24, a25, hc', hc0, hw, hel, hh, m3, m4, ht2, encInts_set, EVd, Nat.reducePow, Nat.reduceDiv, Nat.reduceMod, EVb, EVc, Int.reduceEq, Int.reduceToNat, Int.reduceLE, Int.reduceLT, Int.reduceAdd, Int.reduceMul, Int.reduceSub, Int.reduceNeg, Nat.reduceAdd, Nat.reduceSub, Nat.reduceMul, Nat.reduceLT, Nat.reduceBEq, Nat.reduceEqDiff, Nat.reduceLeDiff, FACTS, TYPES]
    try simp only [a6, a7, a23, a24, a25, hc', hc0, hw, hap, EVb, EVc, Int.reduceEq, Int.reduceToNat, Int.reduceLE, Int.reduceLT, Int.reduceAdd, Int.reduceMul, Int.reduceSub, Int.reduceNeg, Nat.reduceAdd, Nat.reduceSub, Nat.reduceMul, Nat.reduceLT, Nat.reduceBEq, Nat.reduceEqDiff, Nat.reduceLeDiff, FACTS, TYPES]
    refine .inr ⟨_, _, hc, rfl, (by rfl), (by rfl), (by rfl), (by rfl), (by rfl), ?_⟩
    simp only [stepS, hh, List.length_set, encInts_append]
    exact ⟨_, by rfl⟩
  · refine .inl ?_
    obtain rfl : i = code.length := by omega
    have hc' : ¬ (((code.length : Nat) : Int) < ((code.length : Nat) : Int)) := by omega
    simp only [loopR_succ, ht]
    simp only [a6, a7, a23, a24, a25, hc', loopR_succ, loopOf, findLoop, firstRegion, Option.some_or, Option.none_or, Option.getD_some, Option.some.injEq, Try.f25, EVb, EVc, Int.reduceEq, Int.reduceToNat, Int.reduceLE, Int.reduceLT, Int.reduceAdd, Int.reduceMul, Int.reduceSub, Int.reduceNeg, Nat.reduceAdd, Nat.reduceSub, Nat.reduceMul, Nat.reduceLT, Nat.reduceBEq, Nat.reduceEqDiff, Nat.reduceLeDiff, FACTS, TYPES]
    exact ⟨_, rfl, (by rfl), (by rfl), (by rfl), (by rfl), (by rfl)⟩

end Go.Proofs.Sw
