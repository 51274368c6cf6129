/- A part of the proof: what functions of the program answer, of whatever arguments, reckoned with letters by the interpreter's equations. Its conditions stand in each theorem. -/
import Derived.Test.YtefdgfdahmaciaaS14I
namespace Go.Proofs.Sw
set_option linter.unusedVariables false
set_option linter.unusedSimpArgs false
set_option linter.unusedSectionVars false
open Go.Ab
variable [Globals]
def encPairs : List (Int × Int) → List IV
  | [] => []
  | p :: l => .int .i64 p.1 :: .int .i64 p.2 :: encPairs l
theorem encPairs_length : ∀ l : List (Int × Int), (encPairs l).length = l.length * 2
  | [] => rfl
  | p :: l => by rw [encPairs, List.length_cons, List.length_cons, encPairs_length l, List.length_cons]; omega
theorem encPairs_append : ∀ l m : List (Int × Int), encPairs (l ++ m) = encPairs l ++ encPairs m
  | [], m => rfl
  | p :: l, m => by rw [List.cons_append, encPairs, encPairs, encPairs_append l m]; rfl
theorem encPairs_get : ∀ {l : List (Int × Int)} {i : Nat} (h : i < l.length), (encPairs l)[i * 2]? = some (.int .i64 l[i].1) ∧ (encPairs l)[i * 2 + 1]? = some (.int .i64 l[i].2)
  | p :: l, 0, _ => ⟨rfl, rfl⟩
  | p :: l, i + 1, h => by
    have := encPairs_get (l := l) (i := i) (by simpa using h)
    rw [show (i + 1) * 2 = i * 2 + 2 by omega]
    exact this
/-- The pairs that come up twice among the first i instructions. -/
def twL (S0 : St) (code : List Ins) : Nat → List (Int × Int)
  | 0 => []
  | i + 1 => if 0 ≤ firstAt S0 code i ∧ firstAt S0 code i < i then twL S0 code i ++ [((i : Int), firstAt S0 code i)] else twL S0 code i
theorem twL_length (S0 : St) (code : List Ins) : ∀ i, (twL S0 code i).length ≤ i
  | 0 => Nat.le_refl _
  | i + 1 => by
    have := twL_length S0 code i
    rw [twL]
    split
    · simp; omega
    · omega
theorem reckonM_pos {S : St} {n : Int} {i : Ins} (h : i.op ≠ 1) : 0 < (reckonM S n i).2.2.keys.length := by
  unfold reckonM
  rw [if_neg h]
  split
  · rename_i p hp
    have := (lookK_at hp).1
    exact Nat.lt_of_le_of_lt (Nat.zero_le _) (List.getElem?_eq_some_iff.1 this).1
  · simp
theorem reckonM_one {S : St} {n : Int} {i : Ins} (h : i.op = 1) : reckonM S n i = (S.held.getD i.a.toNat 0, -1, S) := if_pos h
abbrev twO (l : List (Int × Int)) : AObj := lo 62 l.length (encPairs l)
theorem encCode_to' {l : List Ins} {i : Nat} (h : i < l.length) : (encCode l)[i * 5 + 1]? = some (.int .i64 l[i].to) := by
  have h2 := encCode_get h
  rw [encCode_length, if_pos (by omega)] at h2
  injection h2 with h2
  have h3 := congrArg (fun q : List IV => q[1]?) h2
  simp only [List.getElem?_take_of_lt (show 1 < 5 by omega), List.getElem?_drop] at h3
  exact h3
theorem loop_law (kf : Nat) (x0 x1 x2 x3 y0 y1 y2 y3 : IV) (stop : Int) (S0 : St) (code : List Ins) (nl : Bool) (cap : Option Nat) (nl3 : Bool) (cap3 : Option Nat) (hx2 : x2 = .slice (encCode code) code.length nl cap) (hcode : ∀ i ∈ code, mayM i S0.held.length = true) (hlen : code.length ≤ 1000) (hkf : 3000 ≤ kf) (hk0 : S0.keys = []) (hnx : 0 ≤ S0.next ∧ S0.next ≤ 100000) (k : Nat) (l : Ass) (z : Option Out) (hz : loopR Try.prog tab (kf + 5) none LB5_19 5 163 [2, 3, 4, 5, 7, 9, 10, 11] 9 k l ([twO (twL S0 code 0), lo 110 (stAt S0 code 0).keys.length (encKeys (stAt S0 code 0).keys), .cells 25 [.c x0, .c x1, .c x2, .c x3], .cells 3 [ii stop], .cells 4 [bb false], .cells 25 [.c y0, .c y1, .c y2, .c y3], .cells 61 [hI 7 (stAt S0 code 0).held.length, lv 1 6 (stAt S0 code 0).keys.length, ii (stAt S0 code 0).next], rI (stAt S0 code 0).held, .cells 56 [lv 0 2 (twL S0 code 0).length]]) = z) (hk : code.length < k) (a2 : asc l 2 = .ptr 2 0) (a3 : asc l 3 = .ptr 3 0) (a4 : asc l 4 = .ptr 4 0) (a5 : asc l 5 = .c (.slice (encInts (valsL S0 code code.length)) code.length nl3 cap3)) (a7 : asc l 7 = .clo 73 [] [.ptr 5 0]) (a9 : asc l 9 = .ptr 6 0) (a10 : asc l 10 = .ptr 8 0) (a11 : asc l 11 = ii 0) :
    ∃ l', z = some (.exit 2 (fr 163 l') ([twO (twL S0 code code.length), lo 110 (stAt S0 code code.length).keys.length (encKeys (stAt S0 code code.length).keys), .cells 25 [.c x0, .c x1, .c x2, .c x3], .cells 3 [ii stop], .cells 4 [bb false], .cells 25 [.c y0, .c y1, .c y2, .c y3], .cells 61 [hI 7 (stAt S0 code code.length).held.length, lv 1 6 (stAt S0 code code.length).keys.length, ii (stAt S0 code code.length).next], rI (stAt S0 code code.length).held, .cells 56 [lv 0 2 (twL S0 code code.length).length]])) ∧ asc l' 2 = .ptr 2 0 ∧ asc l' 3 = .ptr 3 0 ∧ asc l' 4 = .ptr 4 0 ∧ asc l' 5 = .c (.slice (encInts (valsL S0 code code.length)) code.length nl3 cap3) ∧ asc l' 7 = .clo 73 [] [.ptr 5 0] ∧ asc l' 9 = .ptr 6 0 ∧ asc l' 10 = .ptr 8 0 ∧ asc l' 11 = ii code.length := by
  subst hz
  refine loop_nat code.length (fun k l H => loopR Try.prog tab (kf + 5) none LB5_19 5 163 [2, 3, 4, 5, 7, 9, 10, 11] 9 k l H)
    (fun i l H => asc l 2 = .ptr 2 0 ∧ asc l 3 = .ptr 3 0 ∧ asc l 4 = .ptr 4 0 ∧ asc l 5 = .c (.slice (encInts (valsL S0 code code.length)) code.length nl3 cap3) ∧ asc l 7 = .clo 73 [] [.ptr 5 0] ∧ asc l 9 = .ptr 6 0 ∧ asc l 10 = .ptr 8 0 ∧ asc l 11 = ii i ∧ ∃ G, H = ([twO (twL S0 code i), lo 110 (stAt S0 code i).keys.length (encKeys (stAt S0 code i).keys), .cells 25 [.c x0, .c x1, .c x2, .c x3], .cells 3 [ii stop], .cells 4 [bb false], .cells 25 [.c y0, .c y1, .c y2, .c y3], .cells 61 [hI 7 (stAt S0 code i).held.length, lv 1 6 (stAt S0 code i).keys.length, ii (stAt S0 code i).next], rI (stAt S0 code i).held, .cells 56 [lv 0 2 (twL S0 code i).length]]) ++ G)
    (fun z => ∃ l', z = some (.exit 2 (fr 163 l') ([twO (twL S0 code code.length), lo 110 (stAt S0 code code.length).keys.length (encKeys (stAt S0 code code.length).keys), .cells 25 [.c x0, .c x1, .c x2, .c x3], .cells 3 [ii stop], .cells 4 [bb false], .cells 25 [.c y0, .c y1, .c y2, .c y3], .cells 61 [hI 7 (stAt S0 code code.length).held.length, lv 1 6 (stAt S0 code code.length).keys.length, ii (stAt S0 code code.length).next], rI (stAt S0 code code.length).held, .cells 56 [lv 0 2 (twL S0 code code.length).length]])) ∧ asc l' 2 = .ptr 2 0 ∧ asc l' 3 = .ptr 3 0 ∧ asc l' 4 = .ptr 4 0 ∧ asc l' 5 = .c (.slice (encInts (valsL S0 code code.length)) code.length nl3 cap3) ∧ asc l' 7 = .clo 73 [] [.ptr 5 0] ∧ asc l' 9 = .ptr 6 0 ∧ asc l' 10 = .ptr 8 0 ∧ asc l' 11 = ii code.length) ?_ code.length 0 k l _ (by omega) hk ⟨a2, a3, a4, a5, a7, a9, a10, a11, [], by rw [List.append_nil]⟩
  clear hk a2 a3 a4 a5 a7 a9 a10 a11
  rintro i k l H hi ⟨a2, a3, a4, a5, a7, a9, a10, a11, G, rfl⟩
  have ht : trim 9 (fr 163 (keep l [2, 3, 4, 5, 7, 9, 10, 11])) (([twO (twL S0 code i), lo 110 (stAt S0 code i).keys.length (encKeys (stAt S0 code i).keys), .cells 25 [.c x0, .c x1, .c x2, .c x3], .cells 3 [ii stop], .cells 4 [bb false], .cells 25 [.c y0, .c y1, .c y2, .c y3], .cells 61 [hI 7 (stAt S0 code i).held.length, lv 1 6 (stAt S0 code i).keys.length, ii (stAt S0 code i).next], rI (stAt S0 code i).held, .cells 56 [lv 0 2 (twL S0 code i).length]]) ++ G) = ([twO (twL S0 code i), lo 110 (stAt S0 code i).keys.length (encKeys (stAt S0 code i).keys), .cells 25 [.c x0, .c x1, .c x2, .c x3], .cells 3 [ii stop], .cells 4 [bb false], .cells 25 [.c y0, .c y1, .c y2, .c y3], .cells 61 [hI 7 (stAt S0 code i).held.length, lv 1 6 (stAt S0 code i).keys.length, ii (stAt S0 code i).next], rI (stAt S0 code i).held, .cells 56 [lv 0 2 (twL S0 code i).length]]) := trim_app (by simp) (by simp only [a2, a3, a4, a5, a7, a9, a10, a11, EVb, EVc, Int.reduceEq, Int.reduceToNat, Int.reduceLE, Int.reduceLT, Int.reduceAdd, Int.reduceMul, Int.reduceSub, Int.reduceNeg, Nat.reduceAdd, Nat.reduceSub, Nat.reduceMul, Nat.reduceLT, Nat.reduceBEq, Nat.reduceEqDiff, Nat.reduceLeDiff]) (by simp only [EVb, EVc, Int.reduceEq, Int.reduceToNat, Int.reduceLE, Int.reduceLT, Int.reduceAdd, Int.reduceMul, Int.reduceSub, Int.reduceNeg, Nat.reduceAdd, Nat.reduceSub, Nat.reduceMul, Nat.reduceLT, Nat.reduceBEq, Nat.reduceEqDiff, Nat.reduceLeDiff])
  by_cases hc : i < code.length
  · have hc' : (i : Int) < ((code.length : Nat) : Int) := by omega
    have hc0 : (0 : Int) ≤ i := by omega
    have hw : IntKind.wrap .i64 ((i : Int) + 1) = ((i + 1 : Nat) : Int) := by rw [wrap64 (by omega) (by omega)]; omega
    have hx := encCode_get hc
    have hxt := encCode_to' hc
    have htl := twL_length S0 code i
    have hap := fun X cs => lo_length (e := 62) (n := (twL S0 code i).length) (sz := 2) (by_ := 16) (cells := encPairs (twL S0 code i)) (cs := cs) (X := X) (Nat.le_trans (Nat.mul_le_mul_right 16 (show (twL S0 code i).length + 1 ≤ 1001 by omega)) (by decide)) (by decide) (encPairs_length _)
    obtain ⟨x, hX⟩ : ∃ x, x = code[i] := ⟨_, rfl⟩
    rw [← hX] at hx hxt
    obtain ⟨f1, f2, f3, f4⟩ := stAt_facts S0 code i
    have hm := mayM_facts (hcode x (by rw [hX]; exact List.getElem_mem hc))
    have hst : stAt S0 code (i + 1) = stepS (stAt S0 code i) i x := by rw [stAt_succ hc, hX]
    have hva : valAt S0 code i = (reckonM (stAt S0 code i) i x).1 := by unfold valAt; rw [List.getD_eq_getElem?_getD, List.getElem?_eq_getElem hc, ← hX]; rfl
    have hfa : firstAt S0 code i = (reckonM (stAt S0 code i) i x).2.1 := by unfold firstAt; rw [List.getD_eq_getElem?_getD, List.getElem?_eq_getElem hc, ← hX]; rfl
    have hvx : (encInts (valsL S0 code code.length))[i]? = some (.int .i64 (valAt S0 code i)) := by simp [encInts, valsL, hc]
    have hel2 : (encInts (valsL S0 code code.length)).length = code.length := by rw [encInts_length, valsL_length]
    have htw : twL S0 code (i + 1) = if 0 ≤ firstAt S0 code i ∧ firstAt S0 code i < i then twL S0 code i ++ [((i : Int), firstAt S0 code i)] else twL S0 code i := rfl
    rw [hva] at hvx
    rw [hfa] at htw
    rw [hst, htw]
    obtain ⟨S, hS⟩ : ∃ S, S = stAt S0 code i := ⟨_, rfl⟩
    obtain ⟨tw, htwe⟩ : ∃ tw, tw = twL S0 code i := ⟨_, rfl⟩
    rw [← hS] at f1 f2 f3 f4 ht hvx ⊢
    rw [← htwe] at hap ht htl ⊢
    rw [← f1] at hm
    have hk0' : S0.keys.length = 0 := by rw [hk0]; rfl
    obtain ⟨⟨m1, m2⟩, ⟨m3, m4⟩, ⟨m5, m6⟩, m7⟩ := hm
    have hel := encInts_length S.held
    have ht2 : x.to.toNat < S.held.length := by omega
    have hh := reckonM_held S i x
    clear hst htw hva hfa hcode
    by_cases h1 : x.op = 1
    · have hr1 := reckonM_one (S := S) (n := (i : Int)) h1
      rw [hr1]
      rw [hr1] at hvx
      obtain ⟨f, hf⟩ : ∃ f : Int, f = -1 := ⟨_, rfl⟩
      have hh : S.held = S.held := rfl
      have hst1 : stepS S i x = { S with held := S.held.set x.to.toNat (S.held.getD x.a.toNat 0) } := by rw [stepS, hr1]
      rw [hst1]
      simp only [← hf]
      by_cases hK : S.keys = []
      · have hR := sReckon1A_ev (kf + 4) S hK i x.to x.a x.b x.c ⟨m5, m6⟩
        have e1 : lv 1 6 S.keys.length = .c (.slice [] 0 true (some 0)) := by rw [hK]; rfl
        have e1' : lv 2 6 S.keys.length = .c (.slice [] 0 true (some 0)) := by rw [hK]; rfl
        rw [← hf] at hR
        simp only [aI, ii, staO, e1'] at hR
        simp only [loopR_succ, ht]
        simp only [a2, a3, a4, a5, a7, a9, a10, a11, hc', hc0, hw, hx, hR, h1, e1, hx2, loopR_succ, loopOf, findLoop, firstRegion, Option.some_or, Option.none_or, Option.getD_some, Option.some.injEq, Try.f5, EVb, EVc, Int.reduceEq, Int.reduceToNat, Int.reduceLE, Int.reduceLT, Int.reduceAdd, Int.reduceMul, Int.reduceSub, Int.reduceNeg, Nat.reduceAdd, Nat.reduceSub, Nat.reduceMul, Nat.reduceLT, Nat.reduceBEq, Nat.reduceEqDiff, Nat.reduceLeDiff, FACTS, TYPES]
        by_cases hf0 : 0 ≤ f
        · by_cases hf1 : f < i
          · rw [if_pos ⟨hf0, hf1⟩]
            rw [evalCode_drawn Try.f5 22 dr5_22]; rotate_left; rfl
            simp only [a2, a3, a4, a5, a7, a9, a10, a11, hc', hc0, hw, hel, hx, hxt, m3, m4, ht2, encInts_set, e1, hx2, EVd, Nat.reducePow, Nat.reduceDiv, Nat.reduceMod, EVb, EVc, Int.reduceEq, Int.reduceToNat, Int.reduceLE, Int.reduceLT, Int.reduceAdd, Int.reduceMul, Int.reduceSub, Int.reduceNeg, Nat.reduceAdd, Nat.reduceSub, Nat.reduceMul, Nat.reduceLT, Nat.reduceBEq, Nat.reduceEqDiff, Nat.reduceLeDiff, FACTS, TYPES]
            simp only [a2, a3, a4, a5, a7, a9, a10, a11, hc', hc0, hw, hvx, hel2, hf0, hf1, hap, e1, hx2, EVb, EVc, Int.reduceEq, Int.reduceToNat, Int.reduceLE, Int.reduceLT, Int.reduceAdd, Int.reduceMul, Int.reduceSub, Int.reduceNeg, Nat.reduceAdd, Nat.reduceSub, Nat.reduceMul, Nat.reduceLT, Nat.reduceBEq, Nat.reduceEqDiff, Nat.reduceLeDiff, FACTS, TYPES]
            refine .inr ⟨_, _, hc, rfl, (by rfl), (by rfl), (by rfl), (by rfl), (by rfl), (by rfl), (by rfl), (by rfl), ?_⟩
            try simp only [twO, stepS, hh, List.length_set, List.length_append, List.length_cons, List.length_nil, Nat.zero_add, encPairs_append, encPairs, e1, e1]
            exact ⟨_, by rfl⟩
          · rw [if_neg (fun h => hf1 h.2)]
            rw [evalCode_drawn Try.f5 22 dr5_22]; rotate_left; rfl
            simp only [a2, a3, a4, a5, a7, a9, a10, a11, hc', hc0, hw, hel, hx, hxt, m3, m4, ht2, encInts_set, e1, hx2, EVd, Nat.reducePow, Nat.reduceDiv, Nat.reduceMod, EVb, EVc, Int.reduceEq, Int.reduceToNat, Int.reduceLE, Int.reduceLT, Int.reduceAdd, Int.reduceMul, Int.reduceSub, Int.reduceNeg, Nat.reduceAdd, Nat.reduceSub, Nat.reduceMul, Nat.reduceLT, Nat.reduceBEq, Nat.reduceEqDiff, Nat.reduceLeDiff, FACTS, TYPES]
            simp only [a2, a3, a4, a5, a7, a9, a10, a11, hc', hc0, hw, hvx, hel2, hf0, hf1, e1, hx2, EVb, EVc, Int.reduceEq, Int.reduceToNat, Int.reduceLE, Int.reduceLT, Int.reduceAdd, Int.reduceMul, Int.reduceSub, Int.reduceNeg, Nat.reduceAdd, Nat.reduceSub, Nat.reduceMul, Nat.reduceLT, Nat.reduceBEq, Nat.reduceEqDiff, Nat.reduceLeDiff, FACTS, TYPES]
            refine .inr ⟨_, _, hc, rfl, (by rfl), (by rfl), (by rfl), (by rfl), (by rfl), (by rfl), (by rfl), (by rfl), ?_⟩
            try simp only [stepS, hh, List.length_set, e1, e1]
            exact ⟨_, by rfl⟩
        · rw [if_neg (fun h => hf0 h.1)]
          rw [evalCode_drawn Try.f5 22 dr5_22]; rotate_left; rfl
          simp only [a2, a3, a4, a5, a7, a9, a10, a11, hc', hc0, hw, hel, hx, hxt, m3, m4, ht2, encInts_set, e1, hx2, EVd, Nat.reducePow, Nat.reduceDiv, Nat.reduceMod, EVb, EVc, Int.reduceEq, Int.reduceToNat, Int.reduceLE, Int.reduceLT, Int.reduceAdd, Int.reduceMul, Int.reduceSub, Int.reduceNeg, Nat.reduceAdd, Nat.reduceSub, Nat.reduceMul, Nat.reduceLT, Nat.reduceBEq, Nat.reduceEqDiff, Nat.reduceLeDiff, FACTS, TYPES]
          simp only [a2, a3, a4, a5, a7, a9, a10, a11, hc', hc0, hw, hvx, hel2, hf0, e1, hx2, EVb, EVc, Int.reduceEq, Int.reduceToNat, Int.reduceLE, Int.reduceLT, Int.reduceAdd, Int.reduceMul, Int.reduceSub, Int.reduceNeg, Nat.reduceAdd, Nat.reduceSub, Nat.reduceMul, Nat.reduceLT, Nat.reduceBEq, Nat.reduceEqDiff, Nat.reduceLeDiff, FACTS, TYPES]
          refine .inr ⟨_, _, hc, rfl, (by rfl), (by rfl), (by rfl), (by rfl), (by rfl), (by rfl), (by rfl), (by rfl), ?_⟩
          try simp only [stepS, hh, List.length_set, e1, e1]
          exact ⟨_, by rfl⟩
      · have hKp : 0 < S.keys.length := List.length_pos_iff.2 hK
        have hR := sReckon1B_ev (kf + 4) S hK i x.to x.a x.b x.c ⟨m5, m6⟩
        have e1 := lv_pos (s := 1) (sz := 6) hKp
        have e2 := lo_pos (e := 110) (cells := encKeys S.keys) hKp
        have e1' := lv_pos (s := 2) (sz := 6) hKp
        rw [← hf] at hR
        simp only [aI, ii, staO, keO, e1', e2] at hR
        simp only [loopR_succ, ht]
        simp only [a2, a3, a4, a5, a7, a9, a10, a11, hc', hc0, hw, hx, hR, h1, e1, e2, hx2, loopR_succ, loopOf, findLoop, firstRegion, Option.some_or, Option.none_or, Option.getD_some, Option.some.injEq, Try.f5, EVb, EVc, Int.reduceEq, Int.reduceToNat, Int.reduceLE, Int.reduceLT, Int.reduceAdd, Int.reduceMul, Int.reduceSub, Int.reduceNeg, Nat.reduceAdd, Nat.reduceSub, Nat.reduceMul, Nat.reduceLT, Nat.reduceBEq, Nat.reduceEqDiff, Nat.reduceLeDiff, FACTS, TYPES]
        by_cases hf0 : 0 ≤ f
        · by_cases hf1 : f < i
          · rw [if_pos ⟨hf0, hf1⟩]
            rw [evalCode_drawn Try.f5 22 dr5_22]; rotate_left; rfl
            simp only [a2, a3, a4, a5, a7, a9, a10, a11, hc', hc0, hw, hel, hx, hxt, m3, m4, ht2, encInts_set, e1, e2, hx2, EVd, Nat.reducePow, Nat.reduceDiv, Nat.reduceMod, EVb, EVc, Int.reduceEq, Int.reduceToNat, Int.reduceLE, Int.reduceLT, Int.reduceAdd, Int.reduceMul, Int.reduceSub, Int.reduceNeg, Nat.reduceAdd, Nat.reduceSub, Nat.reduceMul, Nat.reduceLT, Nat.reduceBEq, Nat.reduceEqDiff, Nat.reduceLeDiff, FACTS, TYPES]
            simp only [a2, a3, a4, a5, a7, a9, a10, a11, hc', hc0, hw, hvx, hel2, hf0, hf1, hap, e1, e2, hx2, EVb, EVc, Int.reduceEq, Int.reduceToNat, Int.reduceLE, Int.reduceLT, Int.reduceAdd, Int.reduceMul, Int.reduceSub, Int.reduceNeg, Nat.reduceAdd, Nat.reduceSub, Nat.reduceMul, Nat.reduceLT, Nat.reduceBEq, Nat.reduceEqDiff, Nat.reduceLeDiff, FACTS, TYPES]
            refine .inr ⟨_, _, hc, rfl, (by rfl), (by rfl), (by rfl), (by rfl), (by rfl), (by rfl), (by rfl), (by rfl), ?_⟩
            try simp only [twO, stepS, hh, List.length_set, List.length_append, List.length_cons, List.length_nil, Nat.zero_add, encPairs_append, encPairs, e1, e2, e1, e2]
            exact ⟨_, by rfl⟩
          · rw [if_neg (fun h => hf1 h.2)]
            rw [evalCode_drawn Try.f5 22 dr5_22]; rotate_left; rfl
            simp only [a2, a3, a4, a5, a7, a9, a10, a11, hc', hc0, hw, hel, hx, hxt, m3, m4, ht2, encInts_set, e1, e2, hx2, EVd, Nat.reducePow, Nat.reduceDiv, Nat.reduceMod, EVb, EVc, Int.reduceEq, Int.reduceToNat, Int.reduceLE, Int.reduceLT, Int.reduceAdd, Int.reduceMul, Int.reduceSub, Int.reduceNeg, Nat.reduceAdd, Nat.reduceSub, Nat.reduceMul, Nat.reduceLT, Nat.reduceBEq, Nat.reduceEqDiff, Nat.reduceLeDiff, FACTS, TYPES]
            simp only [a2, a3, a4, a5, a7, a9, a10, a11, hc', hc0, hw, hvx, hel2, hf0, hf1, e1, e2, hx2, EVb, EVc, Int.reduceEq, Int.reduceToNat, Int.reduceLE, Int.reduceLT, Int.reduceAdd, Int.reduceMul, Int.reduceSub, Int.reduceNeg, Nat.reduceAdd, Nat.reduceSub, Nat.reduceMul, Nat.reduceLT, Nat.reduceBEq, Nat.reduceEqDiff, Nat.reduceLeDiff, FACTS, TYPES]
            refine .inr ⟨_, _, hc, rfl, (by rfl), (by rfl), (by rfl), (by rfl), (by rfl), (by rfl), (by rfl), (by rfl), ?_⟩
            try simp only [stepS, hh, List.length_set, e1, e2, e1, e2]
            exact ⟨_, by rfl⟩
        · rw [if_neg (fun h => hf0 h.1)]
          rw [evalCode_drawn Try.f5 22 dr5_22]; rotate_left; rfl
          simp only [a2, a3, a4, a5, a7, a9, a10, a11, hc', hc0, hw, hel, hx, hxt, m3, m4, ht2, encInts_set, e1, e2, hx2, EVd, Nat.reducePow, Nat.reduceDiv, Nat.reduceMod, EVb, EVc, Int.reduceEq, Int.reduceToNat, Int.reduceLE, Int.reduceLT, Int.reduceAdd, Int.reduceMul, Int.reduceSub, Int.reduceNeg, Nat.reduceAdd, Nat.reduceSub, Nat.reduceMul, Nat.reduceLT, Nat.reduceBEq, Nat.reduceEqDiff, Nat.reduceLeDiff, FACTS, TYPES]
          simp only [a2, a3, a4, a5, a7, a9, a10, a11, hc', hc0, hw, hvx, hel2, hf0, e1, e2, hx2, EVb, EVc, Int.reduceEq, Int.reduceToNat, Int.reduceLE, Int.reduceLT, Int.reduceAdd, Int.reduceMul, Int.reduceSub, Int.reduceNeg, Nat.reduceAdd, Nat.reduceSub, Nat.reduceMul, Nat.reduceLT, Nat.reduceBEq, Nat.reduceEqDiff, Nat.reduceLeDiff, FACTS, TYPES]
          refine .inr ⟨_, _, hc, rfl, (by rfl), (by rfl), (by rfl), (by rfl), (by rfl), (by rfl), (by rfl), (by rfl), ?_⟩
          try simp only [stepS, hh, List.length_set, e1, e2, e1, e2]
          exact ⟨_, by rfl⟩
    · have hp := reckonM_pos (S := S) (n := (i : Int)) h1
      obtain ⟨v, hv⟩ : ∃ v, v = (reckonM S i x).1 := ⟨_, rfl⟩
      obtain ⟨f, hf⟩ : ∃ f, f = (reckonM S i x).2.1 := ⟨_, rfl⟩
      have hst1 : stepS S i x = { (reckonM S i x).2.2 with held := S.held.set x.to.toNat v } := by rw [stepS, hh, hv]
      rw [hst1]
      rw [← hv] at hvx
      rw [← hf]
      have e3 := lv_pos (s := 2) (sz := 6) hp
      have e4 := lo_pos (e := 110) (cells := encKeys (reckonM S i x).2.2.keys) hp
      have e5 := lv_pos (s := 1) (sz := 6) hp
      by_cases hK : S.keys = []
      · obtain ⟨G0, hR⟩ := sReckonA_ev (kf + 3) S hK i x.op x.to x.a x.b x.c h1 ⟨m5, m6⟩ m7 (by omega) (by omega) (by omega)
        have e1 : lv 1 6 S.keys.length = .c (.slice [] 0 true (some 0)) := by rw [hK]; rfl
        have e1' : lv 2 6 S.keys.length = .c (.slice [] 0 true (some 0)) := by rw [hK]; rfl
        have e2 : lo 110 S.keys.length (encKeys S.keys) = .slot := by rw [hK]; rfl
        simp only [aI, ii, staO, keO, e1', e3, e4, hh] at hR
        rw [show (reckonM S i ⟨x.op, x.to, x.a, x.b, x.c⟩) = reckonM S i x from rfl, ← hv, ← hf] at hR
        simp only [loopR_succ, ht]
        simp only [a2, a3, a4, a5, a7, a9, a10, a11, hc', hc0, hw, hx, hR, h1, e1, e2, e3, e4, hx2, loopR_succ, loopOf, findLoop, firstRegion, Option.some_or, Option.none_or, Option.getD_some, Option.some.injEq, Try.f5, EVb, EVc, Int.reduceEq, Int.reduceToNat, Int.reduceLE, Int.reduceLT, Int.reduceAdd, Int.reduceMul, Int.reduceSub, Int.reduceNeg, Nat.reduceAdd, Nat.reduceSub, Nat.reduceMul, Nat.reduceLT, Nat.reduceBEq, Nat.reduceEqDiff, Nat.reduceLeDiff, FACTS, TYPES]
        by_cases hf0 : 0 ≤ f
        · by_cases hf1 : f < i
          · rw [if_pos ⟨hf0, hf1⟩]
            rw [evalCode_drawn Try.f5 22 dr5_22]; rotate_left; rfl
            simp only [a2, a3, a4, a5, a7, a9, a10, a11, hc', hc0, hw, hel, hx, hxt, m3, m4, ht2, encInts_set, e5, hx2, EVd, Nat.reducePow, Nat.reduceDiv, Nat.reduceMod, EVb, EVc, Int.reduceEq, Int.reduceToNat, Int.reduceLE, Int.reduceLT, Int.reduceAdd, Int.reduceMul, Int.reduceSub, Int.reduceNeg, Nat.reduceAdd, Nat.reduceSub, Nat.reduceMul, Nat.reduceLT, Nat.reduceBEq, Nat.reduceEqDiff, Nat.reduceLeDiff, FACTS, TYPES]
            simp only [a2, a3, a4, a5, a7, a9, a10, a11, hc', hc0, hw, hvx, hel2, hf0, hf1, hap, e5, hx2, EVb, EVc, Int.reduceEq, Int.reduceToNat, Int.reduceLE, Int.reduceLT, Int.reduceAdd, Int.reduceMul, Int.reduceSub, Int.reduceNeg, Nat.reduceAdd, Nat.reduceSub, Nat.reduceMul, Nat.reduceLT, Nat.reduceBEq, Nat.reduceEqDiff, Nat.reduceLeDiff, FACTS, TYPES]
            refine .inr ⟨_, _, hc, rfl, (by rfl), (by rfl), (by rfl), (by rfl), (by rfl), (by rfl), (by rfl), (by rfl), ?_⟩
            try simp only [twO, stepS, hh, List.length_set, List.length_append, List.length_cons, List.length_nil, Nat.zero_add, encPairs_append, encPairs, e5, e5, e4]
            exact ⟨_, by rfl⟩
          · rw [if_neg (fun h => hf1 h.2)]
            rw [evalCode_drawn Try.f5 22 dr5_22]; rotate_left; rfl
            simp only [a2, a3, a4, a5, a7, a9, a10, a11, hc', hc0, hw, hel, hx, hxt, m3, m4, ht2, encInts_set, e5, hx2, EVd, Nat.reducePow, Nat.reduceDiv, Nat.reduceMod, EVb, EVc, Int.reduceEq, Int.reduceToNat, Int.reduceLE, Int.reduceLT, Int.reduceAdd, Int.reduceMul, Int.reduceSub, Int.reduceNeg, Nat.reduceAdd, Nat.reduceSub, Nat.reduceMul, Nat.reduceLT, Nat.reduceBEq, Nat.reduceEqDiff, Nat.reduceLeDiff, FACTS, TYPES]
            simp only [a2, a3, a4, a5, a7, a9, a10, a11, hc', hc0, hw, hvx, hel2, hf0, hf1, e5, hx2, EVb, EVc, Int.reduceEq, Int.reduceToNat, Int.reduceLE, Int.reduceLT, Int.reduceAdd, Int.reduceMul, Int.reduceSub, Int.reduceNeg, Nat.reduceAdd, Nat.reduceSub, Nat.reduceMul, Nat.reduceLT, Nat.reduceBEq, Nat.reduceEqDiff, Nat.reduceLeDiff, FACTS, TYPES]
            refine .inr ⟨_, _, hc, rfl, (by rfl), (by rfl), (by rfl), (by rfl), (by rfl), (by rfl), (by rfl), (by rfl), ?_⟩
            try simp only [stepS, hh, List.length_set, e5, e5, e4]
            exact ⟨_, by rfl⟩
        · rw [if_neg (fun h => hf0 h.1)]
          rw [evalCode_drawn Try.f5 22 dr5_22]; rotate_left; rfl
          simp only [a2, a3, a4, a5, a7, a9, a10, a11, hc', hc0, hw, hel, hx, hxt, m3, m4, ht2, encInts_set, e5, hx2, EVd, Nat.reducePow, Nat.reduceDiv, Nat.reduceMod, EVb, EVc, Int.reduceEq, Int.reduceToNat, Int.reduceLE, Int.reduceLT, Int.reduceAdd, Int.reduceMul, Int.reduceSub, Int.reduceNeg, Nat.reduceAdd, Nat.reduceSub, Nat.reduceMul, Nat.reduceLT, Nat.reduceBEq, Nat.reduceEqDiff, Nat.reduceLeDiff, FACTS, TYPES]
          simp only [a2, a3, a4, a5, a7, a9, a10, a11, hc', hc0, hw, hvx, hel2, hf0, e5, hx2, EVb, EVc, Int.reduceEq, Int.reduceToNat, Int.reduceLE, Int.reduceLT, Int.reduceAdd, Int.reduceMul, Int.reduceSub, Int.reduceNeg, Nat.reduceAdd, Nat.reduceSub, Nat.reduceMul, Nat.reduceLT, Nat.reduceBEq, Nat.reduceEqDiff, Nat.reduceLeDiff, FACTS, TYPES]
          refine .inr ⟨_, _, hc, rfl, (by rfl), (by rfl), (by rfl), (by rfl), (by rfl), (by rfl), (by rfl), (by rfl), ?_⟩
          try simp only [stepS, hh, List.length_set, e5, e5, e4]
          exact ⟨_, by rfl⟩
      · have hKp : 0 < S.keys.length := List.length_pos_iff.2 hK
        obtain ⟨G0, hR⟩ := sReckonB_ev (kf + 3) S hK i x.op x.to x.a x.b x.c h1 ⟨m5, m6⟩ m7 (by omega) (by omega) (by omega)
        have e1 := lv_pos (s := 1) (sz := 6) hKp
        have e2 := lo_pos (e := 110) (cells := encKeys S.keys) hKp
        have e1' := lv_pos (s := 2) (sz := 6) hKp
        simp only [aI, ii, staO, keO, e1', e2, e3, e4, hh] at hR
        rw [show (reckonM S i ⟨x.op, x.to, x.a, x.b, x.c⟩) = reckonM S i x from rfl, ← hv, ← hf] at hR
        simp only [loopR_succ, ht]
        simp only [a2, a3, a4, a5, a7, a9, a10, a11, hc', hc0, hw, hx, hR, h1, e1, e2, e3, e4, hx2, loopR_succ, loopOf, findLoop, firstRegion, Option.some_or, Option.none_or, Option.getD_some, Option.some.injEq, Try.f5, EVb, EVc, Int.reduceEq, Int.reduceToNat, Int.reduceLE, Int.reduceLT, Int.reduceAdd, Int.reduceMul, Int.reduceSub, Int.reduceNeg, Nat.reduceAdd, Nat.reduceSub, Nat.reduceMul, Nat.reduceLT, Nat.reduceBEq, Nat.reduceEqDiff, Nat.reduceLeDiff, FACTS, TYPES]
        by_cases hf0 : 0 ≤ f
        · by_cases hf1 : f < i
          · rw [if_pos ⟨hf0, hf1⟩]
            rw [evalCode_drawn Try.f5 22 dr5_22]; rotate_left; rfl
            simp only [a2, a3, a4, a5, a7, a9, a10, a11, hc', hc0, hw, hel, hx, hxt, m3, m4, ht2, encInts_set, e5, hx2, EVd, Nat.reducePow, Nat.reduceDiv, Nat.reduceMod, EVb, EVc, Int.reduceEq, Int.reduceToNat, Int.reduceLE, Int.reduceLT, Int.reduceAdd, Int.reduceMul, Int.reduceSub, Int.reduceNeg, Nat.reduceAdd, Nat.reduceSub, Nat.reduceMul, Nat.reduceLT, Nat.reduceBEq, Nat.reduceEqDiff, Nat.reduceLeDiff, FACTS, TYPES]
            simp only [a2, a3, a4, a5, a7, a9, a10, a11, hc', hc0, hw, hvx, hel2, hf0, hf1, hap, e5, hx2, EVb, EVc, Int.reduceEq, Int.reduceToNat, Int.reduceLE, Int.reduceLT, Int.reduceAdd, Int.reduceMul, Int.reduceSub, Int.reduceNeg, Nat.reduceAdd, Nat.reduceSub, Nat.reduceMul, Nat.reduceLT, Nat.reduceBEq, Nat.reduceEqDiff, Nat.reduceLeDiff, FACTS, TYPES]
            refine .inr ⟨_, _, hc, rfl, (by rfl), (by rfl), (by rfl), (by rfl), (by rfl), (by rfl), (by rfl), (by rfl), ?_⟩
            try simp only [twO, stepS, hh, List.length_set, List.length_append, List.length_cons, List.length_nil, Nat.zero_add, encPairs_append, encPairs, e5, e5, e4]
            exact ⟨_, by rfl⟩
          · rw [if_neg (fun h => hf1 h.2)]
            rw [evalCode_drawn Try.f5 22 dr5_22]; rotate_left; rfl
            simp only [a2, a3, a4, a5, a7, a9, a10, a11, hc', hc0, hw, hel, hx, hxt, m3, m4, ht2, encInts_set, e5, hx2, EVd, Nat.reducePow, Nat.reduceDiv, Nat.reduceMod, EVb, EVc, Int.reduceEq, Int.reduceToNat, Int.reduceLE, Int.reduceLT, Int.reduceAdd, Int.reduceMul, Int.reduceSub, Int.reduceNeg, Nat.reduceAdd, Nat.reduceSub, Nat.reduceMul, Nat.reduceLT, Nat.reduceBEq, Nat.reduceEqDiff, Nat.reduceLeDiff, FACTS, TYPES]
            simp only [a2, a3, a4, a5, a7, a9, a10, a11, hc', hc0, hw, hvx, hel2, hf0, hf1, e5, hx2, EVb, EVc, Int.reduceEq, Int.reduceToNat, Int.reduceLE, Int.reduceLT, Int.reduceAdd, Int.reduceMul, Int.reduceSub, Int.reduceNeg, Nat.reduceAdd, Nat.reduceSub, Nat.reduceMul, Nat.reduceLT, Nat.reduceBEq, Nat.reduceEqDiff, Nat.reduceLeDiff, FACTS, TYPES]
            refine .inr ⟨_, _, hc, rfl, (by rfl), (by rfl), (by rfl), (by rfl), (by rfl), (by rfl), (by rfl), (by rfl), ?_⟩
            try simp only [stepS, hh, List.length_set, e5, e5, e4]
            exact ⟨_, by rfl⟩
        · rw [if_neg (fun h => hf0 h.1)]
          rw [evalCode_drawn Try.f5 22 dr5_22]; rotate_left; rfl
          simp only [a2, a3, a4, a5, a7, a9, a10, a11, hc', hc0, hw, hel, hx, hxt, m3, m4, ht2, encInts_set, e5, hx2, EVd, Nat.reducePow, Nat.reduceDiv, Nat.reduceMod, EVb, EVc, Int.reduceEq, Int.reduceToNat, Int.reduceLE, Int.reduceLT, Int.reduceAdd, Int.reduceMul, Int.reduceSub, Int.reduceNeg, Nat.reduceAdd, Nat.reduceSub, Nat.reduceMul, Nat.reduceLT, Nat.reduceBEq, Nat.reduceEqDiff, Nat.reduceLeDiff, FACTS, TYPES]
          simp only [a2, a3, a4, a5, a7, a9, a10, a11, hc', hc0, hw, hvx, hel2, hf0, e5, hx2, EVb, EVc, Int.reduceEq, Int.reduceToNat, Int.reduceLE, Int.reduceLT, Int.reduceAdd, Int.reduceMul, Int.reduceSub, Int.reduceNeg, Nat.reduceAdd, Nat.reduceSub, Nat.reduceMul, Nat.reduceLT, Nat.reduceBEq, Nat.reduceEqDiff, Nat.reduceLeDiff, FACTS, TYPES]
          refine .inr ⟨_, _, hc, rfl, (by rfl), (by rfl), (by rfl), (by rfl), (by rfl), (by rfl), (by rfl), (by rfl), ?_⟩
          try simp only [stepS, hh, List.length_set, e5, e5, e4]
          exact ⟨_, by rfl⟩
  · refine .inl ?_
    obtain rfl : i = code.length := by omega
    have hc' : ¬ (((code.length : Nat) : Int) < ((code.length : Nat) : Int)) := by omega
    simp only [loopR_succ, ht]
    simp only [a2, a3, a4, a5, a7, a9, a10, a11, hc', hx2, loopR_succ, loopOf, findLoop, firstRegion, Option.some_or, Option.none_or, Option.getD_some, Option.some.injEq, Try.f5, EVb, EVc, Int.reduceEq, Int.reduceToNat, Int.reduceLE, Int.reduceLT, Int.reduceAdd, Int.reduceMul, Int.reduceSub, Int.reduceNeg, Nat.reduceAdd, Nat.reduceSub, Nat.reduceMul, Nat.reduceLT, Nat.reduceBEq, Nat.reduceEqDiff, Nat.reduceLeDiff, FACTS, TYPES]
    exact ⟨_, rfl, (by rfl), (by rfl), (by rfl), (by rfl), (by rfl), (by rfl), (by rfl), (by rfl)⟩

end Go.Proofs.Sw
