/- A part of the proof: what functions of the program answer, of whatever arguments, reckoned with letters by the interpreter's equations. Its conditions stand in each theorem. -/
import Derived.Test.YtefdgfdahmaciaaWB
namespace Go.Proofs.Sw
set_option linter.unusedVariables false
set_option linter.unusedSimpArgs false
set_option linter.unusedSectionVars false
open Go.Ab
variable [Globals]
def nothing (i : Ins) : Bool := decide (i.op = 1 ∧ i.to = i.a)
theorem nothing_ev (k : Nat) (o t a b c : Int) : run (k+1) 76 [aI o t a b c] = some (bb (nothing ⟨o, t, a, b, c⟩)) := by
  rw [run, ev76, ans_trim]
  simp only [Try.f76, aI, ii, bb, EVb, EVc, Int.reduceEq, Int.reduceToNat, Int.reduceLE, Int.reduceLT, Int.reduceAdd, Int.reduceMul, Int.reduceSub, Int.reduceNeg, Nat.reduceAdd, Nat.reduceSub, Nat.reduceMul, Nat.reduceLT, Nat.reduceBEq, Nat.reduceEqDiff, Nat.reduceLeDiff, FACTS, TYPES]
  repeat' (first
    | (rw [condO_dec]; split <;> simp only [*, EVb, EVc, Int.reduceEq, Int.reduceToNat, Int.reduceLE, Int.reduceLT, Int.reduceAdd, Int.reduceMul, Int.reduceSub, Int.reduceNeg, Nat.reduceAdd, Nat.reduceSub, Nat.reduceMul, Nat.reduceLT, Nat.reduceBEq, Nat.reduceEqDiff, Nat.reduceLeDiff, FACTS, TYPES])
    | (rw [condO_ite]; split <;> simp only [*, EVb, EVc, Int.reduceEq, Int.reduceToNat, Int.reduceLE, Int.reduceLT, Int.reduceAdd, Int.reduceMul, Int.reduceSub, Int.reduceNeg, Nat.reduceAdd, Nat.reduceSub, Nat.reduceMul, Nat.reduceLT, Nat.reduceBEq, Nat.reduceEqDiff, Nat.reduceLeDiff, FACTS, TYPES])
    | (split <;> simp only [*, EVb, EVc, Int.reduceEq, Int.reduceToNat, Int.reduceLE, Int.reduceLT, Int.reduceAdd, Int.reduceMul, Int.reduceSub, Int.reduceNeg, Nat.reduceAdd, Nat.reduceSub, Nat.reduceMul, Nat.reduceLT, Nat.reduceBEq, Nat.reduceEqDiff, Nat.reduceLeDiff, FACTS, TYPES]))
  all_goals simp [nothing, *]
theorem clone_raw (k : Nat) (outs : List Int) (cap : Option Nat) (hl : 0 < outs.length) (ho : outs.length ≤ 1000000) : evalT Try.prog (mkHints tab) (k+1) (.fn 77) [sI outs false cap] [] = some (.hsl 0 0 outs.length outs.length 1, [.row false 3 (encInts outs)]) := by
  have hl2 := encInts_length outs
  have hap : ∀ o : AObj, apO 3 1 8 none (.hsl 0 0 0 0 1) [.row false 3 []] (some (encInts outs, outs.length)) = some (.hsl 0 0 outs.length outs.length 1, [.row false 3 (encInts outs)]) := by
    intro _
    have := apO_row (sl := none) (e := 3) (sz := 1) (by_ := 8) (m := outs.length) (len := 0) (id := 0) (H := [.row false 3 []]) (cells := []) (cs := encInts outs) hl (Nat.le_trans (Nat.mul_le_mul_right 8 (show 0 + outs.length ≤ 1000000 by omega)) (by decide)) (by omega) rfl rfl
    simpa using this
  have htk : (encInts outs).take outs.length = encInts outs := by rw [← hl2, List.take_length]
  have hle : outs.length ≤ outs.length := by omega
  rw [ev77]
  simp only [Try.f77, sI, EVb, EVc, Int.reduceEq, Int.reduceToNat, Int.reduceLE, Int.reduceLT, Int.reduceAdd, Int.reduceMul, Int.reduceSub, Int.reduceNeg, Nat.reduceAdd, Nat.reduceSub, Nat.reduceMul, Nat.reduceLT, Nat.reduceBEq, Nat.reduceEqDiff, Nat.reduceLeDiff, FACTS, TYPES]
  simp only [hap (.dead), hl2, htk, hle, EVb, EVc, Int.reduceEq, Int.reduceToNat, Int.reduceLE, Int.reduceLT, Int.reduceAdd, Int.reduceMul, Int.reduceSub, Int.reduceNeg, Nat.reduceAdd, Nat.reduceSub, Nat.reduceMul, Nat.reduceLT, Nat.reduceBEq, Nat.reduceEqDiff, Nat.reduceLeDiff, FACTS, TYPES]
/-- The instructions that stay. -/
def keepL : List Ins → List Bool → List Ins
  | i :: c, f :: fl => if (f && !nothing i) = true then i :: keepL c fl else keepL c fl
  | _, _ => []
theorem keepL_take : ∀ (c : List Ins) (fl : List Bool) (i : Nat) (h : i < c.length) (h2 : i < fl.length), keepL (c.take (i + 1)) (fl.take (i + 1)) = keepL (c.take i) (fl.take i) ++ (if (fl[i] && !nothing c[i]) = true then [c[i]] else [])
  | x :: c, f :: fl, 0, _, _ => by simp only [List.take_succ_cons, List.take_zero, keepL, List.getElem_cons_zero]; split <;> simp
  | x :: c, f :: fl, i + 1, h, h2 => by
    have := keepL_take c fl i (by simpa using h) (by simpa using h2)
    simp only [List.take_succ_cons, keepL, List.getElem_cons_succ] at this ⊢
    split
    · rw [this, List.cons_append]
    · exact this
theorem keepL_len : ∀ (c : List Ins) (fl : List Bool), (keepL c fl).length ≤ c.length
  | [], _ => by simp [keepL]
  | x :: c, [] => by simp [keepL]
  | x :: c, f :: fl => by
    have := keepL_len c fl
    simp only [keepL]
    split <;> simp <;> omega
theorem encB_getN {l : List Bool} {i : Nat} (h : i < l.length) : (encB l)[i]? = some (.bool l[i]) := by
  simp [encB, h]
end Go.Proofs.Sw
namespace Go.Proofs.Sw
set_option linter.unusedVariables false
set_option linter.unusedSimpArgs false
set_option linter.unusedSectionVars false
open Go.Ab
variable [Globals]
theorem srcOf_one {H : Heap} {id : Nat} {fz : Bool} {t : TypeId} {x : Ins} (h : H[id]? = some (.row fz t (enc1 x))) : srcOf H 5 (.hsl id 0 1 5 5) = some (enc1 x, 1) := by
  have := srcOf_row (sz := 5) (len := 1) (cells := enc1 x) h rfl
  exact this
theorem loop_deadPass_6 (kf : Nat) (hkf : 1 ≤ kf) (x0 x1 x3 : IV) (c2 : AObj) (hc2 : AObj.under 3 c2 = true) (code : List Ins) (nl : Bool) (cap : Option Nat) (fl : List Bool) (nl2 : Bool) (cap2 : Option Nat) (hfl : fl.length = code.length) (hlen : code.length ≤ 1000000)
    (k : Nat) (l : Ass) (z : Option Out) (hz : loopR Try.prog tab kf none LB30_6 30 54 [1, 2, 6, 19, 20, 21] 3 k l [.slot, .cells 25 [.c x0, .c x1, sC code nl cap, .c x3], c2] = z) (hk : code.length < k)
    (a1 : asc l 1 = .ptr 1 0) (a2 : asc l 2 = .ptr 2 0) (a6 : asc l 6 = .c (.slice [] 0 true (some 0))) (a19 : asc l 19 = sB fl nl2 cap2) (a20 : asc l 20 = ii fl.length) (a21 : asc l 21 = ii (0 : Nat)) :
    z = some (.exit 0 (fr 54 [(22, bb false), (1, .ptr 1 0), (2, .ptr 2 0), (6, lv 0 5 (keepL code fl).length), (19, sB fl nl2 cap2), (20, ii fl.length), (21, ii fl.length)])
      [lo 34 (keepL code fl).length (encCode (keepL code fl)), .cells 25 [.c x0, .c x1, sC code nl cap, .c x3], c2]) := by
  subst hz
  obtain ⟨kf, rfl⟩ : ∃ j, kf = j + 1 := ⟨kf - 1, by omega⟩
  refine loop_nat code.length (fun k l H => loopR Try.prog tab (kf + 1) none LB30_6 30 54 [1, 2, 6, 19, 20, 21] 3 k l H)
    (fun i l H => asc l 1 = .ptr 1 0 ∧ asc l 2 = .ptr 2 0 ∧ asc l 6 = lv 0 5 (keepL (code.take i) (fl.take i)).length ∧ asc l 19 = sB fl nl2 cap2 ∧ asc l 20 = ii fl.length ∧ asc l 21 = ii i ∧
      H.take 3 = [lo 34 (keepL (code.take i) (fl.take i)).length (encCode (keepL (code.take i) (fl.take i))), .cells 25 [.c x0, .c x1, sC code nl cap, .c x3], c2])
    (fun z => z = some (.exit 0 (fr 54 [(22, bb false), (1, .ptr 1 0), (2, .ptr 2 0), (6, lv 0 5 (keepL code fl).length), (19, sB fl nl2 cap2), (20, ii fl.length), (21, ii fl.length)])
      [lo 34 (keepL code fl).length (encCode (keepL code fl)), .cells 25 [.c x0, .c x1, sC code nl cap, .c x3], c2])) ?_ code.length 0 k l _ (by omega) hk ⟨a1, a2, a6, a19, a20, a21, rfl⟩
  clear a1 a2 a6 a19 a20 a21 hk
  rintro i k l H hi ⟨a1, a2, a6, a19, a20, a21, hH⟩
  have ht : trim 3 (fr 54 (keep l [1, 2, 6, 19, 20, 21])) H = [lo 34 (keepL (code.take i) (fl.take i)).length (encCode (keepL (code.take i) (fl.take i))), .cells 25 [.c x0, .c x1, sC code nl cap, .c x3], c2] := by
    rw [trim_fr (by simp only [a1, a2, a6, a19, a20, a21, Bool.or_true, EVb, EVc, Int.reduceEq, Int.reduceToNat, Int.reduceLE, Int.reduceLT, Int.reduceAdd, Int.reduceMul, Int.reduceSub, Int.reduceNeg, Nat.reduceAdd, Nat.reduceSub, Nat.reduceMul, Nat.reduceLT, Nat.reduceBEq, Nat.reduceEqDiff, Nat.reduceLeDiff]) (by rw [hH]; simp only [hc2, EVb, EVc, Int.reduceEq, Int.reduceToNat, Int.reduceLE, Int.reduceLT, Int.reduceAdd, Int.reduceMul, Int.reduceSub, Int.reduceNeg, Nat.reduceAdd, Nat.reduceSub, Nat.reduceMul, Nat.reduceLT, Nat.reduceBEq, Nat.reduceEqDiff, Nat.reduceLeDiff]), hH]
  by_cases hc : i < code.length
  · refine .inr ?_
    have hc2 : i < fl.length := by omega
    have hi0 : (0 : Int) ≤ i := by omega
    have hi1 : (i : Int) < fl.length := by omega
    have hi2 : (i : Int) < code.length := by omega
    have hx := encCode_get hc
    have hb := encB_getN hc2
    have hw := wrap_succ hc2 (by omega)
    have hkt := keepL_take code fl i hc hc2
    obtain ⟨x, hX⟩ : ∃ x, x = code[i] := ⟨_, rfl⟩
    rw [← hX] at hx hkt
    have hn := nothing_ev kf x.op x.to x.a x.b x.c
    simp only [run, aI, ii, bb] at hn
    have hac : (keepL (code.take i) (fl.take i)).length ≤ i := Nat.le_trans (keepL_len _ _) (by simp; omega)
    obtain ⟨acc, hA⟩ : ∃ acc, acc = keepL (code.take i) (fl.take i) := ⟨_, rfl⟩
    rw [← hA] at hkt hac ht a6
    have hap : ∀ X : Heap, apO 34 5 40 (some 0) (lv 0 5 acc.length) (lo 34 acc.length (encCode acc) :: X) (some (enc1 x, 1)) = some (lv 0 5 (acc.length + 1), lo 34 (acc.length + 1) (encCode acc ++ enc1 x) :: X) :=
      fun X => lo_length (Nat.le_trans (Nat.mul_le_mul_right 40 (show acc.length + 1 ≤ 1000000 by omega)) (by decide)) (by omega) (encCode_length acc)
    have hen : encCode acc ++ enc1 x = encCode (acc ++ [x]) := by rw [encCode_append]; simp [encCode]
    cases hf : fl[i] with
    | false =>
      rw [hf] at hb hkt
      simp only [loopR_succ, ht]
      simp only [a1, a2, a6, a19, a20, a21, hi0, hi1, hi2, hx, hb, hw, loopR_succ, loopOf, findLoop, firstRegion, Option.some_or, Option.none_or, Option.getD_some, Option.some.injEq, Try.f30, EVb, EVc, Int.reduceEq, Int.reduceToNat, Int.reduceLE, Int.reduceLT, Int.reduceAdd, Int.reduceMul, Int.reduceSub, Int.reduceNeg, Nat.reduceAdd, Nat.reduceSub, Nat.reduceMul, Nat.reduceLT, Nat.reduceBEq, Nat.reduceEqDiff, Nat.reduceLeDiff, FACTS, TYPES]
      refine ⟨_, _, hc, rfl, (by rfl), (by rfl), ?_, (by rfl), (by rfl), (by rfl), ?_⟩
      · rw [hkt]; simp; rfl
      · rw [hkt]; simp
    | true =>
      rw [hf] at hb hkt
      cases hno : nothing x with
      | true =>
        rw [show nothing ⟨x.op, x.to, x.a, x.b, x.c⟩ = true from hno] at hn
        rw [hno] at hkt
        simp only [loopR_succ, ht]
        simp only [a1, a2, a6, a19, a20, a21, hi0, hi1, hi2, hx, hb, hw, hn, loopR_succ, loopOf, findLoop, firstRegion, Option.some_or, Option.none_or, Option.getD_some, Option.some.injEq, Try.f30, EVb, EVc, Int.reduceEq, Int.reduceToNat, Int.reduceLE, Int.reduceLT, Int.reduceAdd, Int.reduceMul, Int.reduceSub, Int.reduceNeg, Nat.reduceAdd, Nat.reduceSub, Nat.reduceMul, Nat.reduceLT, Nat.reduceBEq, Nat.reduceEqDiff, Nat.reduceLeDiff, FACTS, TYPES]
        refine ⟨_, _, hc, rfl, (by rfl), (by rfl), ?_, (by rfl), (by rfl), (by rfl), ?_⟩
        · rw [hkt]; simp; rfl
        · rw [hkt]; simp
      | false =>
        rw [show nothing ⟨x.op, x.to, x.a, x.b, x.c⟩ = false from hno] at hn
        rw [hno] at hkt
        simp only [loopR_succ, ht]
        simp only [a1, a2, a6, a19, a20, a21, hi0, hi1, hi2, hx, hb, hw, hn, hap, loopR_succ, loopOf, findLoop, firstRegion, Option.some_or, Option.none_or, Option.getD_some, Option.some.injEq, Try.f30, EVb, EVc, Int.reduceEq, Int.reduceToNat, Int.reduceLE, Int.reduceLT, Int.reduceAdd, Int.reduceMul, Int.reduceSub, Int.reduceNeg, Nat.reduceAdd, Nat.reduceSub, Nat.reduceMul, Nat.reduceLT, Nat.reduceBEq, Nat.reduceEqDiff, Nat.reduceLeDiff, FACTS, TYPES]
        refine ⟨_, _, hc, rfl, (by rfl), (by rfl), ?_, (by rfl), (by rfl), (by rfl), ?_⟩
        · rw [hkt]; simp; rfl
        · rw [hkt, hen]; simp
  · refine .inl ?_
    obtain rfl : i = code.length := by omega
    have he : code.take code.length = code := List.take_length
    have he2 : fl.take code.length = fl := by rw [← hfl]; exact List.take_length
    rw [he, he2] at ht a6
    have hc' : ¬ ((code.length : Int) < fl.length) := by omega
    simp only [loopR_succ, ht]
    simp only [a1, a2, a6, a19, a20, a21, hc', loopR_succ, loopOf, findLoop, firstRegion, Option.some_or, Option.none_or, Option.getD_some, Option.some.injEq, Try.f30, EVb, EVc, Int.reduceEq, Int.reduceToNat, Int.reduceLE, Int.reduceLT, Int.reduceAdd, Int.reduceMul, Int.reduceSub, Int.reduceNeg, Nat.reduceAdd, Nat.reduceSub, Nat.reduceMul, Nat.reduceLT, Nat.reduceBEq, Nat.reduceEqDiff, Nat.reduceLeDiff, FACTS, TYPES]
    rw [hfl]
end Go.Proofs.Sw
namespace Go.Proofs.Sw
set_option linter.unusedVariables false
set_option linter.unusedSimpArgs false
set_option linter.unusedSectionVars false
open Go.Ab
variable [Globals]
abbrev zP : Pg := ⟨0, 0, [], []⟩
/-- What the pass makes. -/
def deadP (p : Pg) : Pg := ⟨p.ins, p.regs, keepL p.code (neededM p), p.outs⟩
theorem deadPass_bad (k : Nat) (p : Pg) (nl : Bool) (cap : Option Nat) (nl2 : Bool) (cap2 : Option Nat) (hk : p.outs.length + p.code.length + 12 ≤ k) (hr : rightM p = false) :
    run (k+1) 30 [aP p nl cap nl2 cap2] = some (.tup [aP zP true (some 0) true (some 0), ii 80]) := by
  obtain ⟨k, rfl⟩ : ∃ j, k = j + 1 := ⟨k - 1, by omega⟩
  obtain ⟨n, hc⟩ := check_ev k p nl cap nl2 cap2 (by omega)
  simp only [run, aP, ii, bb, checkE, hr] at hc
  rw [run, ev30, ans_trim]
  simp only [Try.f30, aP, ii, bb, hc, EVb, EVc, Int.reduceEq, Int.reduceToNat, Int.reduceLE, Int.reduceLT, Int.reduceAdd, Int.reduceMul, Int.reduceSub, Int.reduceNeg, Nat.reduceAdd, Nat.reduceSub, Nat.reduceMul, Nat.reduceLT, Nat.reduceBEq, Nat.reduceEqDiff, Nat.reduceLeDiff, FACTS, TYPES]
  rfl
theorem keepO_row {id off len ext sz : Nat} {fz : Bool} {t : TypeId} {cs : List IV} {H H1 : Heap} (h : H1[id]? = some (.row fz t cs)) : keepO (some (.hsl id off len ext sz, H1)) H = some (.hsl H.length off len ext sz, H ++ [.row fz t cs]) := by
  simp [keepO, AV.imp, AV.imp1, AV.imp0, rowsOf, rowAt, h]
  rfl
theorem deadPass_raw (k n : Nat) (ins : Int) (code : List Ins) (outs : List Int) (nl : Bool) (cap cap2 : Option Nat) (hk : outs.length + code.length + 110 ≤ k) (hr : rightM ⟨ins, n, code, outs⟩ = true) : ∃ a b,
    evalT Try.prog (mkHints tab) (k+1) (.fn 30) [aP ⟨ins, n, code, outs⟩ nl cap false cap2] [] =
      some (.tup [.agg [ii ins, ii n, lv 0 5 (deadP ⟨ins, n, code, outs⟩).code.length, .hsl 3 0 outs.length outs.length 1], ii 0], [lo 34 (deadP ⟨ins, n, code, outs⟩).code.length (encCode (deadP ⟨ins, n, code, outs⟩).code), a, b, .row false 3 (encInts outs)]) := by
  have hr' := hr
  simp only [rightM, headM, Bool.and_eq_true, decide_eq_true_eq] at hr'
  obtain ⟨⟨hh, ho⟩, hc⟩ := hr'
  obtain ⟨k, rfl⟩ : ∃ j, k = j + 1 := ⟨k - 1, by omega⟩
  obtain ⟨cn, hck⟩ := check_ev k ⟨ins, n, code, outs⟩ nl cap false cap2 (by simp only; omega)
  have hne := needed_ev k n ins code outs nl cap false cap2 (by omega) hr
  have hcl := clone_raw k outs cap2 (by omega) (by omega)
  have hnl : (neededM ⟨ins, n, code, outs⟩).length = code.length := (needL_length _ _).2
  have hkp : ∀ H, keepO (some (AV.hsl 0 0 outs.length outs.length 1, [.row false 3 (encInts outs)])) H = some (.hsl H.length 0 outs.length outs.length 1, H ++ [.row false 3 (encInts outs)]) := fun H => keepO_row rfl
  simp only [run, aP, ii, bb, sI, sC, sB, checkE, hr] at hck hne hcl
  rw [ev30]
  simp only [Try.f30, aP, ii, bb, hck, hne, EVb, EVc, Int.reduceEq, Int.reduceToNat, Int.reduceLE, Int.reduceLT, Int.reduceAdd, Int.reduceMul, Int.reduceSub, Int.reduceNeg, Nat.reduceAdd, Nat.reduceSub, Nat.reduceMul, Nat.reduceLT, Nat.reduceBEq, Nat.reduceEqDiff, Nat.reduceLeDiff, FACTS, TYPES]
  rw [evalCode_loopB LB30_6 lp30_6]; rotate_left; rfl; rfl; rfl
  generalize hz : loopR _ _ _ _ _ _ _ _ _ _ _ _ = z
  obtain rfl := loop_deadPass_6 (k + 1) (by omega) (.int .i64 ins) (.int .i64 n) (.slice (encInts outs) outs.length false cap2) _ (by rfl) code nl cap (neededM ⟨ins, n, code, outs⟩) false none hnl (by omega) _ _ z hz (by omega) (by rfl) (by rfl) (by rfl) (by rfl) (by rfl) (by rfl)
  clear hz
  simp only [EVb, EVc, Int.reduceEq, Int.reduceToNat, Int.reduceLE, Int.reduceLT, Int.reduceAdd, Int.reduceMul, Int.reduceSub, Int.reduceNeg, Nat.reduceAdd, Nat.reduceSub, Nat.reduceMul, Nat.reduceLT, Nat.reduceBEq, Nat.reduceEqDiff, Nat.reduceLeDiff, FACTS, TYPES]
  rw [evalCode_drawn Try.f30 11 dr30_11]; rotate_left; rfl
  simp only [hcl, hkp, doCall_cxK, freeO_cxK, EVd, Nat.reducePow, Nat.reduceDiv, Nat.reduceMod, EVb, EVc, Int.reduceEq, Int.reduceToNat, Int.reduceLE, Int.reduceLT, Int.reduceAdd, Int.reduceMul, Int.reduceSub, Int.reduceNeg, Nat.reduceAdd, Nat.reduceSub, Nat.reduceMul, Nat.reduceLT, Nat.reduceBEq, Nat.reduceEqDiff, Nat.reduceLeDiff, FACTS, TYPES]
  exact ⟨_, _, rfl⟩
theorem deadPass_ev (k n : Nat) (ins : Int) (code : List Ins) (outs : List Int) (nl : Bool) (cap cap2 : Option Nat) (hk : outs.length + code.length + 110 ≤ k) (hr : rightM ⟨ins, n, code, outs⟩ = true) :
    run (k+1) 30 [aP ⟨ins, n, code, outs⟩ nl cap false cap2] =
      some (.tup [aP (deadP ⟨ins, n, code, outs⟩) (nlE (deadP ⟨ins, n, code, outs⟩).code) (cpE (deadP ⟨ins, n, code, outs⟩).code) false none, ii 0]) := by
  obtain ⟨a, b, h⟩ := deadPass_raw k n ins code outs nl cap cap2 hk hr
  have hq : (encCode (deadP ⟨ins, n, code, outs⟩).code).length = (deadP ⟨ins, n, code, outs⟩).code.length * 5 := encCode_length _
  have hl2 := encInts_length outs
  have htk : (encInts outs).take outs.length = encInts outs := by rw [← hl2, List.take_length]
  have hle : outs.length ≤ outs.length := by omega
  rw [run, h]
  have e1 : (deadP ⟨ins, n, code, outs⟩).ins = ins := rfl
  have e2 : (deadP ⟨ins, n, code, outs⟩).regs = n := rfl
  have e3 : (deadP ⟨ins, n, code, outs⟩).outs = outs := rfl
  by_cases hz : (deadP ⟨ins, n, code, outs⟩).code.length = 0
  · simp only [hq, hl2, htk, hle, hz, e1, e2, e3, aP, ii, EVd, Nat.reducePow, Nat.reduceDiv, Nat.reduceMod, EVb, EVc, Int.reduceEq, Int.reduceToNat, Int.reduceLE, Int.reduceLT, Int.reduceAdd, Int.reduceMul, Int.reduceSub, Int.reduceNeg, Nat.reduceAdd, Nat.reduceSub, Nat.reduceMul, Nat.reduceLT, Nat.reduceBEq, Nat.reduceEqDiff, Nat.reduceLeDiff, FACTS, TYPES]
    simp [nlE, cpE, sC, sI, hz]
  · simp only [hq, hl2, htk, hle, hz, e1, e2, e3, aP, ii, EVd, Nat.reducePow, Nat.reduceDiv, Nat.reduceMod, EVb, EVc, Int.reduceEq, Int.reduceToNat, Int.reduceLE, Int.reduceLT, Int.reduceAdd, Int.reduceMul, Int.reduceSub, Int.reduceNeg, Nat.reduceAdd, Nat.reduceSub, Nat.reduceMul, Nat.reduceLT, Nat.reduceBEq, Nat.reduceEqDiff, Nat.reduceLeDiff, FACTS, TYPES]
    simp [nlE, cpE, sC, sI, hz]
end Go.Proofs.Sw
namespace Go.Proofs.Sw
set_option linter.unusedVariables false
set_option linter.unusedSimpArgs false
set_option linter.unusedSectionVars false
open Go.Ab
variable [Globals]
/-- The numbers of the idle ones. -/
def idleL : Nat → List Ins → List Bool → List Int
  | n, i :: c, f :: fl => if (f && !nothing i) = true then idleL (n + 1) c fl else (n : Int) :: idleL (n + 1) c fl
  | _, _, _ => []
theorem idleL_take : ∀ (c : List Ins) (fl : List Bool) (n i : Nat) (h : i < c.length) (h2 : i < fl.length), idleL n (c.take (i + 1)) (fl.take (i + 1)) = idleL n (c.take i) (fl.take i) ++ (if (fl[i] && !nothing c[i]) = true then [] else [((n + i : Nat) : Int)])
  | x :: c, f :: fl, n, 0, _, _ => by simp only [List.take_succ_cons, List.take_zero, idleL, List.getElem_cons_zero]; split <;> simp
  | x :: c, f :: fl, n, i + 1, h, h2 => by
    have := idleL_take c fl (n + 1) i (by simpa using h) (by simpa using h2)
    simp only [List.take_succ_cons, idleL, List.getElem_cons_succ] at this ⊢
    rw [show n + (i + 1) = n + 1 + i by omega]
    split
    · exact this
    · rw [this, List.cons_append]
theorem idleL_len : ∀ (c : List Ins) (fl : List Bool) (n : Nat), fl.length = c.length → (idleL n c fl).length + (keepL c fl).length = c.length
  | [], [], n, _ => by simp [idleL, keepL]
  | x :: c, f :: fl, n, h => by
    have := idleL_len c fl (n + 1) (by simpa using h)
    simp only [idleL, keepL]
    split <;> simp <;> omega
noncomputable abbrev hI (x0 x1 x2 x3 : IV) (l0 : Ass) (acc : List Int) : Heap :=
  [lo 3 acc.length (encInts acc), .cells 25 [.c x0, .c x1, .c x2, .c x3], .cells 23 [lv 0 1 acc.length], .cells 25 [.c x0, .c x1, .c x2, .c x3], rfObj #[11] RA33_6 RB33_6 33 .ready none (fr 17 l0)]
theorem loop_idle_3 (kf : Nat) (x0 x1 x3 : IV) (l0 : Ass) (c0 : (l0.all fun e => AV.under 5 e.2) = true) (g3 : asc l0 3 = .ptr 2 0) (code : List Ins) (nl : Bool) (cap : Option Nat) (fl : List Bool) (nl2 : Bool) (cap2 : Option Nat) (hfl : fl.length = code.length) (hlen : code.length ≤ 1000000)
    (k : Nat) (l : Ass) (z : Option Out) (hz : loopR Try.prog tab (kf + 5) none LB80_3 80 39 [0, 1, 15, 16, 17] 5 k l (hI x0 x1 (.slice (encCode code) code.length nl cap) x3 l0 []) = z) (hk : code.length < k)
    (a0 : asc l 0 = .yld 4) (a1 : asc l 1 = .ptr 3 0) (a15 : asc l 15 = sB fl nl2 cap2) (a16 : asc l 16 = ii fl.length) (a17 : asc l 17 = ii (0 : Nat)) :
    ∃ l', z = some (.exit 0 (fr 39 l') (hI x0 x1 (.slice (encCode code) code.length nl cap) x3 l0 (idleL 0 code fl))) := by
  subst hz
  refine loop_nat code.length (fun k l H => loopR Try.prog tab (kf + 5) none LB80_3 80 39 [0, 1, 15, 16, 17] 5 k l H)
    (fun i l H => asc l 0 = .yld 4 ∧ asc l 1 = .ptr 3 0 ∧ asc l 15 = sB fl nl2 cap2 ∧ asc l 16 = ii fl.length ∧ asc l 17 = ii i ∧
      H.take 5 = hI x0 x1 (.slice (encCode code) code.length nl cap) x3 l0 (idleL 0 (code.take i) (fl.take i)))
    (fun z => ∃ l', z = some (.exit 0 (fr 39 l') (hI x0 x1 (.slice (encCode code) code.length nl cap) x3 l0 (idleL 0 code fl)))) ?_ code.length 0 k l _ (by omega) hk ⟨a0, a1, a15, a16, a17, rfl⟩
  clear a0 a1 a15 a16 a17 hk
  rintro i k l H hi ⟨a0, a1, a15, a16, a17, hH⟩
  have ht : trim 5 (fr 39 (keep l [0, 1, 15, 16, 17])) H = hI x0 x1 (.slice (encCode code) code.length nl cap) x3 l0 (idleL 0 (code.take i) (fl.take i)) := by
    rw [trim_fr (by simp only [a0, a1, a15, a16, a17, EVb, EVc, Int.reduceEq, Int.reduceToNat, Int.reduceLE, Int.reduceLT, Int.reduceAdd, Int.reduceMul, Int.reduceSub, Int.reduceNeg, Nat.reduceAdd, Nat.reduceSub, Nat.reduceMul, Nat.reduceLT, Nat.reduceBEq, Nat.reduceEqDiff, Nat.reduceLeDiff]) (by rw [hH]; simp only [c0, Bool.or_true, EVb, EVc, Int.reduceEq, Int.reduceToNat, Int.reduceLE, Int.reduceLT, Int.reduceAdd, Int.reduceMul, Int.reduceSub, Int.reduceNeg, Nat.reduceAdd, Nat.reduceSub, Nat.reduceMul, Nat.reduceLT, Nat.reduceBEq, Nat.reduceEqDiff, Nat.reduceLeDiff]), hH]
  by_cases hc : i < code.length
  · refine .inr ?_
    have hc2 : i < fl.length := by omega
    have hi0 : (0 : Int) ≤ i := by omega
    have hi1 : (i : Int) < fl.length := by omega
    have hi2 : (i : Int) < code.length := by omega
    have hx := encCode_get hc
    have hb := encB_getN hc2
    have hw := wrap_succ hc2 (by omega)
    have hkt := idleL_take code fl 0 i hc hc2
    have hil := idleL_len (code.take i) (fl.take i) 0 (by simp; omega)
    obtain ⟨x, hX⟩ : ∃ x, x = code[i] := ⟨_, rfl⟩
    rw [← hX] at hx hkt
    rw [Nat.zero_add] at hkt
    have hn := nothing_ev (kf + 4) x.op x.to x.a x.b x.c
    simp only [run, aI, ii, bb] at hn
    obtain ⟨acc, hA⟩ : ∃ acc, acc = idleL 0 (code.take i) (fl.take i) := ⟨_, rfl⟩
    rw [← hA] at hkt hil ht
    have hac : acc.length ≤ i := by simp at hil; omega
    have hap : ∀ X : Heap, apO 3 1 8 (some 0) (lv 0 1 acc.length) (lo 3 acc.length (encInts acc) :: X) (some ([.int .i64 i], 1)) = some (lv 0 1 (acc.length + 1), lo 3 (acc.length + 1) (encInts acc ++ [.int .i64 i]) :: X) :=
      fun X => lo_length (Nat.le_trans (Nat.mul_le_mul_right 8 (show acc.length + 1 ≤ 1000001 by omega)) (by decide)) (by omega) (by rw [encInts_length]; omega)
    have hen : encInts acc ++ [.int .i64 i] = encInts (acc ++ [(i : Int)]) := by rw [encInts_append]; rfl
    by_cases hkeep : (fl[i] && !nothing x) = true
    · rw [if_pos hkeep, List.append_nil] at hkt
      simp only [Bool.and_eq_true, Bool.not_eq_true'] at hkeep
      rw [hkeep.1] at hb
      rw [show nothing ⟨x.op, x.to, x.a, x.b, x.c⟩ = false from hkeep.2] at hn
      simp only [loopR_succ, ht]
      simp only [a0, a1, a15, a16, a17, hi0, hi1, hi2, hx, hb, hw, hn, rfAs, rfBd, rfOf, findRF, firstRegion, Option.some_or, Option.none_or, Option.getD_some, Option.some.injEq, findLoop, loopOf, loopR_succ, loopOf, findLoop, firstRegion, Option.some_or, Option.none_or, Option.getD_some, Option.some.injEq, Try.f80, EVb, EVc, Int.reduceEq, Int.reduceToNat, Int.reduceLE, Int.reduceLT, Int.reduceAdd, Int.reduceMul, Int.reduceSub, Int.reduceNeg, Nat.reduceAdd, Nat.reduceSub, Nat.reduceMul, Nat.reduceLT, Nat.reduceBEq, Nat.reduceEqDiff, Nat.reduceLeDiff, FACTS, TYPES]
      refine ⟨_, _, hc, rfl, (by rfl), (by rfl), (by rfl), (by rfl), (by rfl), ?_⟩
      rw [hkt]
      rfl
    · rw [if_neg hkeep] at hkt
      cases hf : fl[i] with
      | false =>
        rw [hf] at hb
        simp only [loopR_succ, ht]
        simp only [a0, a1, a15, a16, a17, hi0, hi1, hi2, hx, hb, hw, hn, g3, hap, evalT_round, roundA_rf, rfAs, rfBd, rfOf, findRF, firstRegion, Option.some_or, Option.none_or, Option.getD_some, Option.some.injEq, findLoop, loopOf, loopR_succ, loopOf, findLoop, firstRegion, Option.some_or, Option.none_or, Option.getD_some, Option.some.injEq, Try.f80, Try.f33, EVb, EVc, Int.reduceEq, Int.reduceToNat, Int.reduceLE, Int.reduceLT, Int.reduceAdd, Int.reduceMul, Int.reduceSub, Int.reduceNeg, Nat.reduceAdd, Nat.reduceSub, Nat.reduceMul, Nat.reduceLT, Nat.reduceBEq, Nat.reduceEqDiff, Nat.reduceLeDiff, FACTS, TYPES]
        refine ⟨_, _, hc, rfl, (by rfl), (by rfl), (by rfl), (by rfl), (by rfl), ?_⟩
        rw [hkt, hen]
        simp
      | true =>
        rw [hf] at hb
        have hno : nothing x = true := by rw [hf] at hkeep; simpa using hkeep
        rw [show nothing ⟨x.op, x.to, x.a, x.b, x.c⟩ = true from hno] at hn
        simp only [loopR_succ, ht]
        simp only [a0, a1, a15, a16, a17, hi0, hi1, hi2, hx, hb, hw, hn, g3, hap, evalT_round, roundA_rf, rfAs, rfBd, rfOf, findRF, firstRegion, Option.some_or, Option.none_or, Option.getD_some, Option.some.injEq, findLoop, loopOf, loopR_succ, loopOf, findLoop, firstRegion, Option.some_or, Option.none_or, Option.getD_some, Option.some.injEq, Try.f80, Try.f33, EVb, EVc, Int.reduceEq, Int.reduceToNat, Int.reduceLE, Int.reduceLT, Int.reduceAdd, Int.reduceMul, Int.reduceSub, Int.reduceNeg, Nat.reduceAdd, Nat.reduceSub, Nat.reduceMul, Nat.reduceLT, Nat.reduceBEq, Nat.reduceEqDiff, Nat.reduceLeDiff, FACTS, TYPES]
        refine ⟨_, _, hc, rfl, (by rfl), (by rfl), (by rfl), (by rfl), (by rfl), ?_⟩
        rw [hkt, hen]
        simp
  · refine .inl ?_
    obtain rfl : i = code.length := by omega
    have he : code.take code.length = code := List.take_length
    have he2 : fl.take code.length = fl := by rw [← hfl]; exact List.take_length
    rw [he, he2] at ht
    have hc' : ¬ ((code.length : Int) < fl.length) := by omega
    simp only [loopR_succ, ht]
    simp only [a0, a1, a15, a16, a17, hc', loopR_succ, loopOf, findLoop, firstRegion, Option.some_or, Option.none_or, Option.getD_some, Option.some.injEq, Try.f80, EVb, EVc, Int.reduceEq, Int.reduceToNat, Int.reduceLE, Int.reduceLT, Int.reduceAdd, Int.reduceMul, Int.reduceSub, Int.reduceNeg, Nat.reduceAdd, Nat.reduceSub, Nat.reduceMul, Nat.reduceLT, Nat.reduceBEq, Nat.reduceEqDiff, Nat.reduceLeDiff, FACTS, TYPES]
    exact ⟨_, rfl⟩
end Go.Proofs.Sw
namespace Go.Proofs.Sw
set_option linter.unusedVariables false
set_option linter.unusedSimpArgs false
set_option linter.unusedSectionVars false
open Go.Ab
variable [Globals]
theorem Idle_raw (k : Nat) (x y z w : AV) (hx : [x, y, z, w].all AV.isCell = true) (H : Heap) : evalT Try.prog (mkHints tab) (k+1) (.fn 35) [.agg [x, y, z, w]] H = some (.clo 80 [] [.ptr H.length 0], H ++ [.cells 25 [x, y, z, w]]) := by
  simp only [List.all_cons, List.all_nil, Bool.and_true, Bool.and_eq_true] at hx
  rw [ev35]
  simp only [Try.f35, hx, EVb, EVc, Int.reduceEq, Int.reduceToNat, Int.reduceLE, Int.reduceLT, Int.reduceAdd, Int.reduceMul, Int.reduceSub, Int.reduceNeg, Nat.reduceAdd, Nat.reduceSub, Nat.reduceMul, Nat.reduceLT, Nat.reduceBEq, Nat.reduceEqDiff, Nat.reduceLeDiff, FACTS, TYPES]
  rfl
theorem Idle_ans (k : Nat) (x y z w : AV) (hx : [x, y, z, w].all AV.isCell = true) : ans (evalT Try.prog (mkHints tab) (k+1) (.fn 35) [.agg [x, y, z, w]] []) = none := by
  rw [Idle_raw k x y z w hx]; rfl
theorem idle_bad (k : Nat) (p : Pg) (nl : Bool) (cap : Option Nat) (nl2 : Bool) (cap2 : Option Nat) (hk : p.outs.length + p.code.length + 100 ≤ k) (hr : rightM p = false) :
    run (k+1) 33 [aP p nl cap nl2 cap2] = some (sE []) := by
  obtain ⟨k, rfl⟩ : ∃ j, k = j + 60 := ⟨k - 60, by omega⟩
  have hbk := Idle_raw (k + 59) (ii p.ins) (ii p.regs) (sC p.code nl cap) (sI p.outs nl2 cap2) rfl
  have hba := Idle_ans (k + 59) (ii p.ins) (ii p.regs) (sC p.code nl cap) (sI p.outs nl2 cap2) rfl
  obtain ⟨cn, hck⟩ := check_ev (k + 58) p nl cap nl2 cap2 (by omega)
  simp only [run, aP, ii, sC, sI, bb, checkE, hr] at hbk hba hck
  rw [run, ev33, ans_trim]
  simp only [Try.f33, aP, ii, bb, hbk, hba, EVb, EVc, Int.reduceEq, Int.reduceToNat, Int.reduceLE, Int.reduceLT, Int.reduceAdd, Int.reduceMul, Int.reduceSub, Int.reduceNeg, Nat.reduceAdd, Nat.reduceSub, Nat.reduceMul, Nat.reduceLT, Nat.reduceBEq, Nat.reduceEqDiff, Nat.reduceLeDiff, FACTS, TYPES]
  rw [evalCode_rf RA33_6 RB33_6]; rotate_left; rfl; rfl
  simp only [ev80, Try.f80, hck, EVb, EVc, Int.reduceEq, Int.reduceToNat, Int.reduceLE, Int.reduceLT, Int.reduceAdd, Int.reduceMul, Int.reduceSub, Int.reduceNeg, Nat.reduceAdd, Nat.reduceSub, Nat.reduceMul, Nat.reduceLT, Nat.reduceBEq, Nat.reduceEqDiff, Nat.reduceLeDiff, FACTS, TYPES]
  rfl
theorem idle_ev (k n : Nat) (ins : Int) (code : List Ins) (outs : List Int) (nl : Bool) (cap : Option Nat) (nl2 : Bool) (cap2 : Option Nat) (hk : outs.length + code.length + 200 ≤ k) (hr : rightM ⟨ins, n, code, outs⟩ = true) :
    run (k+1) 33 [aP ⟨ins, n, code, outs⟩ nl cap nl2 cap2] = some (sE (idleL 0 code (neededM ⟨ins, n, code, outs⟩))) := by
  have hr' := hr
  simp only [rightM, headM, Bool.and_eq_true, decide_eq_true_eq] at hr'
  obtain ⟨⟨hh, ho⟩, hc⟩ := hr'
  obtain ⟨k, rfl⟩ : ∃ j, k = j + 60 := ⟨k - 60, by omega⟩
  have hbk := Idle_raw (k + 59) (ii ins) (ii n) (sC code nl cap) (sI outs nl2 cap2) rfl
  have hba := Idle_ans (k + 59) (ii ins) (ii n) (sC code nl cap) (sI outs nl2 cap2) rfl
  obtain ⟨cn, hck⟩ := check_ev (k + 58) ⟨ins, n, code, outs⟩ nl cap nl2 cap2 (by simp only; omega)
  have hne := needed_ev (k + 58) n ins code outs nl cap nl2 cap2 (by omega) hr
  have hnl : (neededM ⟨ins, n, code, outs⟩).length = code.length := (needL_length _ _).2
  simp only [run, aP, ii, sC, sI, sB, bb, checkE, hr] at hbk hba hck hne
  rw [run, ev33, ans_trim]
  simp only [Try.f33, aP, ii, bb, hbk, hba, EVb, EVc, Int.reduceEq, Int.reduceToNat, Int.reduceLE, Int.reduceLT, Int.reduceAdd, Int.reduceMul, Int.reduceSub, Int.reduceNeg, Nat.reduceAdd, Nat.reduceSub, Nat.reduceMul, Nat.reduceLT, Nat.reduceBEq, Nat.reduceEqDiff, Nat.reduceLeDiff, FACTS, TYPES]
  rw [evalCode_rf RA33_6 RB33_6]; rotate_left; rfl; rfl
  simp only [ev80, Try.f80, hck, hne, EVb, EVc, Int.reduceEq, Int.reduceToNat, Int.reduceLE, Int.reduceLT, Int.reduceAdd, Int.reduceMul, Int.reduceSub, Int.reduceNeg, Nat.reduceAdd, Nat.reduceSub, Nat.reduceMul, Nat.reduceLT, Nat.reduceBEq, Nat.reduceEqDiff, Nat.reduceLeDiff, FACTS, TYPES]
  rw [evalCode_loopB LB80_3 lp80_3]; rotate_left; rfl; rfl; rfl
  generalize hz : loopR _ _ _ _ _ _ _ _ _ _ _ _ = z
  obtain ⟨l', rfl⟩ := loop_idle_3 (k + 54) (.int .i64 ins) (.int .i64 n) (.slice (encInts outs) outs.length nl2 cap2) _ (by rfl) (by rfl) code nl cap (neededM ⟨ins, n, code, outs⟩) false none hnl (by omega) _ _ z hz (by omega) (by rfl) (by rfl) (by rfl) (by rfl) (by rfl)
  have hql : (encInts (idleL 0 code (neededM ⟨ins, n, code, outs⟩))).length = (idleL 0 code (neededM ⟨ins, n, code, outs⟩)).length := encInts_length _
  simp only [hql, Bool.or_true, EVb, EVc, Int.reduceEq, Int.reduceToNat, Int.reduceLE, Int.reduceLT, Int.reduceAdd, Int.reduceMul, Int.reduceSub, Int.reduceNeg, Nat.reduceAdd, Nat.reduceSub, Nat.reduceMul, Nat.reduceLT, Nat.reduceBEq, Nat.reduceEqDiff, Nat.reduceLeDiff, FACTS, TYPES]
end Go.Proofs.Sw
