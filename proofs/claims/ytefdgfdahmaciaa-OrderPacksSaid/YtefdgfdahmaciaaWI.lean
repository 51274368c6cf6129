/- A part of the proof: what functions of the program answer, of whatever arguments, reckoned with letters by the interpreter's equations. Its conditions stand in each theorem. -/
import Derived.Test.YtefdgfdahmaciaaWH
namespace Go.Proofs.Sw
set_option linter.unusedVariables false
set_option linter.unusedSimpArgs false
set_option linter.unusedSectionVars false
open Go.Ab
variable [Globals]
theorem gOuts_take {S : Sv} {i : Nat} (h : i < S.outs.length) : (gOuts S).take (i + 1) = (gOuts S).take i ++ [gP S S.code.length (heldR S S.code.length S.outs[i])] := by
  rw [List.take_succ_eq_append_getElem (by simpa [gOuts] using h)]
  simp [gOuts]
abbrev outO2 (S : Sv) (i : Nat) : AObj := .cells 25 [ii S.ins, ii (gR S S.code.length), lv 0 5 (gC S S.code.length).length, lv 1 1 i]
theorem loop_rPack45 (kf : Nat) (g nn : Nat) (n : Int) (need : List Bool) (code : List Ins) (outs : List Int) (nl : Bool) (cap : Option Nat) (nl2 : Bool) (cap2 : Option Nat) (nl3 : Bool) (cap3 : Option Nat) (H0 : Heap) (M : Nat) (hM5 : 5 ≤ M) (r3 : AObj) (hH0 : M ≤ H0.length ∧ (H0[0]? = some (cdL ⟨g, need, code, outs⟩ code.length) ∧ H0[1]? = some (lo 3 0 (encInts ((gOuts ⟨g, need, code, outs⟩).take 0))) ∧ H0[2]? = some (boxP g n code outs nl cap nl2 cap2) ∧ H0[3]? = some r3 ∧ H0[4]? = some (outO2 ⟨g, need, code, outs⟩ 0))) (hok : SvOk ⟨g, need, code, outs⟩) (hin : SvIn ⟨g, need, code, outs⟩ nn) (hnn : nn ≤ 1000) (hnd : need.length = code.length) (hl : code.length ≤ 20000) (hl2 : outs.length ≤ 20000) (hkf : code.length + outs.length + 3000 ≤ kf) (k : Nat) (l : Ass) (z : Option Out) (hz : loopR Try.prog tab (kf + 1) none LB51_45 51 190 [1, 2, 3, 4, 5, 16] M k l H0 = z) (hk : outs.length < k) (a1 : asc l 1 = .ptr 2 0) (a2 : asc l 2 = .ptr 3 0) (a3 : asc l 3 = sB need nl3 cap3) (a4 : asc l 4 = .ptr 4 0) (a5 : asc l 5 = sPn (nowL ⟨g, need, code, outs⟩ code.length)) (a16 : asc l 16 = ii 0) :
    ∃ l' H', z = some (.exit 10 (fr 190 l') H') ∧ asc l' 2 = .ptr 3 0 ∧ asc l' 4 = .ptr 4 0 ∧ (M ≤ H'.length ∧ (H'[0]? = some (cdL ⟨g, need, code, outs⟩ code.length) ∧ H'[1]? = some (lo 3 outs.length (encInts ((gOuts ⟨g, need, code, outs⟩).take outs.length))) ∧ H'[2]? = some (boxP g n code outs nl cap nl2 cap2) ∧ H'[3]? = some r3 ∧ H'[4]? = some (outO2 ⟨g, need, code, outs⟩ outs.length))) := by
  subst hz
  refine loop_nat outs.length (fun k l H => loopR Try.prog tab (kf + 1) none LB51_45 51 190 [1, 2, 3, 4, 5, 16] M k l H)
    (fun i l H => asc l 1 = .ptr 2 0 ∧ asc l 2 = .ptr 3 0 ∧ asc l 3 = sB need nl3 cap3 ∧ asc l 4 = .ptr 4 0 ∧ asc l 5 = sPn (nowL ⟨g, need, code, outs⟩ code.length) ∧ asc l 16 = ii i ∧ ((M ≤ H.length ∧ (H[0]? = some (cdL ⟨g, need, code, outs⟩ code.length) ∧ H[1]? = some (lo 3 i (encInts ((gOuts ⟨g, need, code, outs⟩).take i))) ∧ H[2]? = some (boxP g n code outs nl cap nl2 cap2) ∧ H[3]? = some r3 ∧ H[4]? = some (outO2 ⟨g, need, code, outs⟩ i)))))
    (fun z => ∃ l' H', z = some (.exit 10 (fr 190 l') H') ∧ asc l' 2 = .ptr 3 0 ∧ asc l' 4 = .ptr 4 0 ∧ (M ≤ H'.length ∧ (H'[0]? = some (cdL ⟨g, need, code, outs⟩ code.length) ∧ H'[1]? = some (lo 3 outs.length (encInts ((gOuts ⟨g, need, code, outs⟩).take outs.length))) ∧ H'[2]? = some (boxP g n code outs nl cap nl2 cap2) ∧ H'[3]? = some r3 ∧ H'[4]? = some (outO2 ⟨g, need, code, outs⟩ outs.length)))) ?_ outs.length 0 k l _ (by omega) hk ⟨a1, a2, a3, a4, a5, a16, hH0⟩
  clear hk a1 a2 a3 a4 a5 a16
  rintro i k l H hi ⟨a1, a2, a3, a4, a5, a16, hp⟩
  obtain ⟨H', ht, hle', hold⟩ := trim_old (L := M) (F := fr 190 (keep l [1, 2, 3, 4, 5, 16])) (H := H) hp.1
  by_cases hc : i < outs.length
  · have hc' : (i : Int) < ((outs.length : Nat) : Int) := by omega
    have hc0 : (0 : Int) ≤ i := by omega
    have hw : IntKind.wrap .i64 ((i : Int) + 1) = ((i + 1 : Nat) : Int) := by rw [wrap64 (by omega) (by omega)]; omega
    obtain ⟨p1, q0, q1, q2, q3, q4⟩ := hp
    rw [← hold 0 (by omega)] at q0
    rw [← hold 1 (by omega)] at q1
    rw [← hold 2 (by omega)] at q2
    rw [← hold 3 (by omega)] at q3
    rw [← hold 4 (by omega)] at q4
    have hx := encInts_get hc
    have hxa := out_alive hin (List.getElem_mem (l := outs) hc)
    have hx0 := hin.outs _ (List.getElem_mem (l := outs) hc)
    have htk := gOuts_take (S := ⟨g, need, code, outs⟩) hc
    simp only at htk hxa
    obtain ⟨x, hX⟩ : ∃ x, x = outs[i] := ⟨_, rfl⟩
    rw [← hX] at hx hxa hx0 htk
    have hne : nowL ⟨g, need, code, outs⟩ code.length ≠ [] := fun e => by
      have h1 : aliveR ⟨g, need, code, outs⟩ code.length = [] := List.map_eq_nil_iff.1 e
      rw [h1] at hxa; cases hxa
    have hlen := nowL_len hok hin code.length
    have hHa := Held_ev kf g n need code outs nl cap nl2 cap2 nl3 cap3 code.length x (Nat.le_refl _) hnd (by omega) hx0.1 (by omega) (by omega)
    simp only [run, aP, ii, sC, sI, sB] at hHa
    have hWa := where_ev kf (nowL ⟨g, need, code, outs⟩ code.length) (heldR ⟨g, need, code, outs⟩ code.length x) false none (by omega) (by omega)
    rw [where_now hxa] at hWa
    simp only [run, ii] at hWa
    rw [sPn_ne hne] at a5
    have hol : (gOuts ⟨g, need, code, outs⟩).length = outs.length := by simp [gOuts]
    have hap := fun cs => apO_lv (e := 3) (s := 1) (n := i) (m := 1) (sz := 1) (by_ := 8) (cells := encInts ((gOuts ⟨g, need, code, outs⟩).take i)) (cs := cs) (H := H') (by decide) (Nat.le_trans (Nat.mul_le_mul_right 8 (show i + 1 ≤ 20001 by omega)) (by decide)) (by decide) q1 (by rw [encInts_length, List.length_take]; omega)
    have q4' : ∀ o : AObj, (H'.set 1 o)[4]? = some (outO2 ⟨g, need, code, outs⟩ i) := fun o => by rw [List.getElem?_set_ne (by omega)]; exact q4
    simp only [loopR_succ, ht]
    simp only [a1, a2, a3, a4, a5, a16, hc', hc0, hw, q2, loopR_succ, loopOf, findLoop, firstRegion, Option.some_or, Option.none_or, Option.getD_some, Option.some.injEq, Try.f51, EVb, EVc, Int.reduceEq, Int.reduceToNat, Int.reduceLE, Int.reduceLT, Int.reduceAdd, Int.reduceMul, Int.reduceSub, Int.reduceNeg, Nat.reduceAdd, Nat.reduceSub, Nat.reduceMul, Nat.reduceLT, Nat.reduceBEq, Nat.reduceEqDiff, Nat.reduceLeDiff, FACTS, TYPES]
    rw [evalCode_drawn Try.f51 47 dr51_47]; rotate_left; rfl
    simp only [a1, a2, a3, a4, a5, a16, hc', hc0, hw, q2, q4, q4', hx, hHa, hWa, hap, EVd, Nat.reducePow, Nat.reduceDiv, Nat.reduceMod, EVb, EVc, Int.reduceEq, Int.reduceToNat, Int.reduceLE, Int.reduceLT, Int.reduceAdd, Int.reduceMul, Int.reduceSub, Int.reduceNeg, Nat.reduceAdd, Nat.reduceSub, Nat.reduceMul, Nat.reduceLT, Nat.reduceBEq, Nat.reduceEqDiff, Nat.reduceLeDiff, FACTS, TYPES]
    refine .inr ⟨_, _, hc, rfl, (by rfl), (by rfl), (by rfl), (by rfl), (by rw [sPn_ne hne]; rfl), (by rfl), ?_, ?_, ?_, ?_, ?_, ?_⟩
    · rw [List.length_set, List.length_set]; exact hle'
    · rw [List.getElem?_set_ne (by omega), List.getElem?_set_ne (by omega)]; exact q0
    · rw [List.getElem?_set_ne (by omega), List.getElem?_set_self (by omega), htk, encInts_append]; rfl
    · rw [List.getElem?_set_ne (by omega), List.getElem?_set_ne (by omega)]; exact q2
    · rw [List.getElem?_set_ne (by omega), List.getElem?_set_ne (by omega)]; exact q3
    · rw [List.getElem?_set_self (by rw [List.length_set]; omega)]
  · refine .inl ?_
    obtain rfl : i = outs.length := by omega
    have hc' : ¬ (((outs.length : Nat) : Int) < ((outs.length : Nat) : Int)) := by omega
    obtain ⟨p1, q0, q1, q2, q3, q4⟩ := hp
    rw [← hold 0 (by omega)] at q0
    rw [← hold 1 (by omega)] at q1
    rw [← hold 2 (by omega)] at q2
    rw [← hold 3 (by omega)] at q3
    rw [← hold 4 (by omega)] at q4
    simp only [loopR_succ, ht]
    simp only [a1, a2, a3, a4, a5, a16, hc', q2, loopR_succ, loopOf, findLoop, firstRegion, Option.some_or, Option.none_or, Option.getD_some, Option.some.injEq, Try.f51, EVb, EVc, Int.reduceEq, Int.reduceToNat, Int.reduceLE, Int.reduceLT, Int.reduceAdd, Int.reduceMul, Int.reduceSub, Int.reduceNeg, Nat.reduceAdd, Nat.reduceSub, Nat.reduceMul, Nat.reduceLT, Nat.reduceBEq, Nat.reduceEqDiff, Nat.reduceLeDiff, FACTS, TYPES]
    exact ⟨_, _, rfl, (by rfl), (by rfl), hle', q0, q1, q2, q3, q4⟩

end Go.Proofs.Sw
namespace Go.Proofs.Sw
set_option linter.unusedVariables false
set_option linter.unusedSimpArgs false
set_option linter.unusedSectionVars false
open Go.Ab
variable [Globals]
theorem nowL_zero {S : Sv} (h : SvOk S) : nowL S 0 = if 0 ≤ untilR S (-1000) then inL S S.ins.toNat ++ [((-1000 : Int), S.ins)] else inL S S.ins.toNat := by
  have hs := h.small
  unfold nowL aliveR valsO inL
  rw [List.filter_append, List.map_append, List.filter_map, List.map_map, List.filter_map, List.filter_cons]
  have e1 : List.map ((fun w => (w, gP S 0 w)) ∘ fun (r : Nat) => -1 - (r : Int)) (List.filter ((fun w => decide (((0 : Nat) : Int) ≤ untilR S w)) ∘ fun (r : Nat) => -1 - (r : Int)) (List.range S.ins.toNat)) = List.map (fun (r : Nat) => (-1 - (r : Int), (r : Int))) (List.filter ((fun p : Int × Int => decide (0 ≤ untilR S p.1)) ∘ fun (r : Nat) => (-1 - (r : Int), (r : Int))) (List.range S.ins.toNat)) := by
    have e2 : List.filter ((fun w => decide (((0 : Nat) : Int) ≤ untilR S w)) ∘ fun (r : Nat) => -1 - (r : Int)) (List.range S.ins.toNat) = List.filter ((fun p : Int × Int => decide (0 ≤ untilR S p.1)) ∘ fun (r : Nat) => (-1 - (r : Int), (r : Int))) (List.range S.ins.toNat) := List.filter_congr fun r _ => rfl
    rw [e2]
    apply List.map_congr_left
    intro r hr
    have := List.mem_range.1 (List.mem_filter.1 hr).1
    rw [Function.comp_apply, gP0_in hs this]
  rw [e1]
  by_cases hu : 0 ≤ untilR S (-1000)
  · rw [if_pos hu, if_pos (by simpa using hu)]
    simp only [List.range_zero, List.filter_nil, List.map_nil, List.map_cons, gP0_none]
  · rw [if_neg hu, if_neg (by simpa using hu)]
    simp
theorem rPack_ev (k : Nat) (g n : Nat) (code : List Ins) (outs : List Int) (nl : Bool) (cap : Option Nat) (nl2 : Bool) (cap2 : Option Nat) (hk : code.length + outs.length + 4000 ≤ k) (hr : rightM ⟨g, n, code, outs⟩ = true) :
    run (k+1) 51 [aP ⟨g, n, code, outs⟩ nl cap nl2 cap2] = some (aP (greedy (svP ⟨g, n, code, outs⟩)) (nlE (greedy (svP ⟨g, n, code, outs⟩)).code) (cpE (greedy (svP ⟨g, n, code, outs⟩)).code) (nlE (greedy (svP ⟨g, n, code, outs⟩)).outs) (cpE (greedy (svP ⟨g, n, code, outs⟩)).outs)) := by
  obtain ⟨k, rfl⟩ : ∃ j, k = j + 1 := ⟨k - 1, by omega⟩
  have hN := rNeeded_ev k n g code outs nl cap nl2 cap2 (by omega) hr
  have hp := pgOk hr
  have hr' := hr
  simp only [rightM, headM, Bool.and_eq_true, decide_eq_true_eq] at hr'
  obtain ⟨⟨hh, ho⟩, hc⟩ := hr'
  have ho2 : ∀ r ∈ outs, 0 ≤ r ∧ r ≤ 1000000 := fun r h => by
    have := hp.inn.outs r h
    simp only [Int.toNat_natCast] at this
    omega
  have hask : ∀ j : Nat, j < code.length → (neededM ⟨(g : Int), n, code, outs⟩).getD j false = true → ∀ r ∈ asks (nth code j), 0 ≤ r ∧ r ≤ 1000000 := fun j hj hn r hr => by
    have := hp.inn.asks j hj hn r hr
    simp only [Int.toNat_natCast] at this
    omega
  have hb0 : ∀ j : Nat, j < code.length → (neededM ⟨(g : Int), n, code, outs⟩).getD j false = true → ¬ ((nth code j).op = 3 ∨ (nth code j).op = 4) → (nth code j).b = 0 := fun j hj _ h34 => by
    have hm : mayM (nth code j) (n : Int) = true := by
      rw [nth_get hj]
      exact List.all_eq_true.1 hc _ (List.getElem_mem hj)
    simp only [mayM, Bool.and_eq_true, decide_eq_true_eq] at hm
    omega
  have hnd : (neededM ⟨(g : Int), n, code, outs⟩).length = code.length := needL_len2 _ _
  obtain ⟨S, hS⟩ : ∃ S, S = svP ⟨g, n, code, outs⟩ := ⟨_, rfl⟩
  have hS2 : (⟨(g : Int), neededM ⟨(g : Int), n, code, outs⟩, code, outs⟩ : Sv) = S := hS.symm
  have hok : SvOk S := by rw [hS]; exact hp.ok
  have hin : SvIn S n := by rw [hS]; exact hp.inn
  have hop : SvOp S := by rw [hS]; exact hp.op
  have hz0 := nowL_zero hok
  rw [show S.ins = (g : Int) by rw [hS]; rfl, Int.toNat_natCast] at hz0
  rw [← hS]
  simp only [run, aP, ii, sC, sI, sB] at hN
  rw [run, ev51, ans_trim]
  simp only [Try.f51, aP, ii, hN, EVb, EVc, Int.reduceEq, Int.reduceToNat, Int.reduceLE, Int.reduceLT, Int.reduceAdd, Int.reduceMul, Int.reduceSub, Int.reduceNeg, Nat.reduceAdd, Nat.reduceSub, Nat.reduceMul, Nat.reduceLT, Nat.reduceBEq, Nat.reduceEqDiff, Nat.reduceLeDiff, FACTS, TYPES]
  rw [evalCode_loopB LB51_5 lp51_5]; rotate_left; rfl; rfl; rfl
  generalize hz : loopR _ _ _ _ _ _ _ _ _ _ _ _ = z
  obtain ⟨l1, H1, id, rfl, a1, a2, a3, a4, a5, p1, p2, p3, p4⟩ := loop_rPack5 k g n (neededM ⟨(g : Int), n, code, outs⟩) code outs nl cap nl2 cap2 _ _ _ (by rfl) 0 (by rfl) (by omega) hnd (by omega) (by omega) ho2 hask (by omega) _ _ z hz (by omega) (by rfl) (by rfl) (by rfl) (by rfl) (by rfl) (by rfl)
  clear hz
  rw [hS2] at a5 p3 p4
  have q0 := p2 0 (by omega)
  have q1 := p2 1 (by omega)
  have q2 := p2 2 (by omega)
  have q3 := p2 3 (by omega)
  have q4 := p2 4 (by omega)
  simp only [List.getElem?_cons_zero, List.getElem?_cons_succ] at q0 q1 q2 q3 q4
  have hU := Until_ev (k + 0) g n (neededM ⟨(g : Int), n, code, outs⟩) code outs nl cap nl2 cap2 false none (-1000) hnd (by omega) (by omega) ho2 hask (by omega)
  rw [hS2] at hU
  simp only [run, aP, ii, sC, sI, sB] at hU
  have hlen := inL_len S g
  by_cases hu : 0 ≤ untilR S (-1000)
  · rw [if_pos hu] at hz0
    have hap := app_ev (H := H1) (id := id) (l := inL S g) (a := -1000) (b := g) (fun hne => (p4 hne).2) (by omega)
    have wL := appH_length H1 id (inL S g) (-1000) g
    have w0 : ∀ j, j < 5 → (appH H1 id (inL S g) (-1000) g)[j]? = H1[j]? := fun j hj => appH_old (by omega) fun h e => by have := (p4 h).1; omega
    have wN : (appH H1 id (inL S g) (-1000) g)[appId H1 id (inL S g)]? = some (rP (inL S g ++ [((-1000 : Int), (g : Int))])) := appH_new fun hne => (List.getElem?_eq_some_iff.1 (p4 hne).2).1
    have wI : 5 ≤ appId H1 id (inL S g) := by
      unfold appId
      split
      · omega
      · rename_i h; exact (p4 h).1
    obtain ⟨H5, hH5⟩ : ∃ H5, H5 = appH H1 id (inL S g) (-1000) g := ⟨_, rfl⟩
    obtain ⟨id5, hid5⟩ : ∃ id5, id5 = appId H1 id (inL S g) := ⟨_, rfl⟩
    rw [← hH5, ← hid5] at hap
    rw [← hH5] at w0 wN wL
    rw [← hid5] at wN wI
    have x2 := w0 2 (by omega)
    rw [q2] at x2
    have x4 := w0 4 (by omega)
    rw [q4] at x4
    have hwg : IntKind.wrap .i64 ((g : Int) + 1) = (g : Int) + 1 := by rw [wrap64 (by omega) (by omega)]
    simp only [a1, a2, a3, a4, a5, q2, hU, hu, hap, gNew, x2, x4, hwg, EVb, EVc, Int.reduceEq, Int.reduceToNat, Int.reduceLE, Int.reduceLT, Int.reduceAdd, Int.reduceMul, Int.reduceSub, Int.reduceNeg, Nat.reduceAdd, Nat.reduceSub, Nat.reduceMul, Nat.reduceLT, Nat.reduceBEq, Nat.reduceEqDiff, Nat.reduceLeDiff, FACTS, TYPES]
    obtain ⟨H6, hH6⟩ : ∃ H6, H6 = H5.set 4 (.cells 25 [.c (.int .i64 g), .c (.int .i64 ((g : Int) + 1)), .c (.slice [] 0 true (some 0)), .c (.slice [] 0 true (some 0))]) := ⟨_, rfl⟩
    rw [← hH6]
    have h65 : 5 ≤ H6.length := by rw [hH6, List.length_set]; omega
    have v0 : ∀ j, j < 4 → H6[j]? = H1[j]? := fun j hj => by rw [hH6, List.getElem?_set_ne (by omega), w0 j (by omega)]
    have y0 : H6[0]? = some (cdL S 0) := by rw [v0 0 (by omega), q0]; rfl
    have y1 : H6[1]? = some .slot := by rw [v0 1 (by omega), q1]
    have y2 : H6[2]? = some (boxP g n code outs nl cap nl2 cap2) := by rw [v0 2 (by omega), q2]
    have y3 := v0 3 (by omega)
    rw [q3] at y3
    have hg0 : gR S 0 = (g : Int) + 1 := by rw [gR, if_pos hu, hS]; rfl
    have y4 : H6[4]? = some (outO S 0) := by
      rw [hH6, List.getElem?_set_self (by omega), outO, hg0, hS]
      rfl
    have hnv : NowAt H6 (nv id5 (inL S g ++ [((-1000 : Int), (g : Int))])) (nowL S 0) := .inl ⟨id5, by rw [hz0], fun _ => ⟨wI, by rw [hH6, List.getElem?_set_ne (by omega), wN, hz0]⟩⟩
    rw [evalCode_loopZ LB51_13 lp51_13 (fz := [5])]; rotate_left; rfl; rfl; rfl; rfl
    generalize hz : loopZ _ _ _ _ _ _ _ _ _ _ _ _ _ = z
    obtain ⟨l2, H2, rfl, b1, b2, b3, b4, b5, r1, r2, r3, r4, r5, r6⟩ := loop_rPack13 k g n n (neededM ⟨(g : Int), n, code, outs⟩) code outs nl cap nl2 cap2 _ _ H6 H6.length h65 _ _ (by rw [hS2]; exact hnv) ⟨Nat.le_refl _, by rw [hS2]; exact y0, y1, y2, y3, by rw [hS2]; exact y4⟩ (by omega) (by rw [hS2]; exact hok) (by rw [hS2]; exact hin) (by rw [hS2]; exact hop) hb0 (by omega) hnd (by omega) (by omega) ho2 hask (by omega) _ _ z hz (by omega) (by exact a1) (by exact a2) (by exact a3) (by exact a4) (by rfl) (by rfl)
    clear hz
    rw [hS2] at b5 r2 r6
    have hSc : S.code.length = code.length := by rw [hS]; rfl
    have r6' : H2[4]? = some (AObj.cells 25 [ii S.ins, ii (gR S S.code.length), lv 0 5 (gC S S.code.length).length, lv 1 1 0]) := by rw [hSc]; exact r6
    simp only [b1, b2, b3, b4, b5, EVb, EVc, Int.reduceEq, Int.reduceToNat, Int.reduceLE, Int.reduceLT, Int.reduceAdd, Int.reduceMul, Int.reduceSub, Int.reduceNeg, Nat.reduceAdd, Nat.reduceSub, Nat.reduceMul, Nat.reduceLT, Nat.reduceBEq, Nat.reduceEqDiff, Nat.reduceLeDiff, FACTS, TYPES]
    rw [evalCode_loopB LB51_45 lp51_45]; rotate_left; rfl; rfl; rfl
    generalize hz : loopR _ _ _ _ _ _ _ _ _ _ _ _ = z
    obtain ⟨l3, H3, rfl, c2, c4, s1, s2, s3, s4, s5, s6⟩ := loop_rPack45 k g n n (neededM ⟨(g : Int), n, code, outs⟩) code outs nl cap nl2 cap2 _ _ H2 H2.length (by omega) _ ⟨Nat.le_refl _, by rw [hS2]; exact r2, r3, r4, r5, by rw [hS2, outO2]; exact r6'⟩ (by rw [hS2]; exact hok) (by rw [hS2]; exact hin) (by omega) hnd (by omega) (by omega) (by omega) _ _ z hz (by omega) (by exact b1) (by exact b2) (by exact b3) (by exact b4) (by rw [hS2]; exact b5) (by rfl)
    clear hz
    rw [hS2] at s2 s3 s6
    have hol : (gOuts S).length = outs.length := by rw [hS]; simp [gOuts, svP]
    rw [← hol, List.take_length] at s3
    rw [← hol] at s6
    have hcl : (gC S code.length).length ≤ code.length := by rw [gC_length]; exact cnt_le _ _
    obtain ⟨C, hC⟩ : ∃ C, C = gC S code.length := ⟨_, rfl⟩
    obtain ⟨O, hO⟩ : ∃ O, O = gOuts S := ⟨_, rfl⟩
    have hgr : greedy S = ⟨S.ins, gR S code.length, C, O⟩ := by rw [greedy, hSc, hC, hO]
    rw [hgr]
    have s6' : H3[4]? = some (AObj.cells 25 [ii S.ins, ii (gR S code.length), lv 0 5 C.length, lv 1 1 O.length]) := by rw [s6, outO2, hSc, hC, hO]
    rw [cdL, ← hC] at s2
    rw [← hO] at s3 hol
    have g1 : 0 < O.length := by omega
    have g3 := lv_pos (s := 1) (sz := 1) g1
    have g4 := lo_pos (e := 3) (cells := encInts O) g1
    have o1 : ¬ O.length = 0 := by omega
    have o2 : (encInts O).take O.length = encInts O := List.take_of_length_le (by rw [encInts_length]; exact Nat.le_refl _)
    rw [g4] at s3
    rw [g3, Nat.mul_one] at s6'
    rcases Nat.eq_zero_or_pos C.length with hN0 | hN0
    · have n0 : C = [] := List.eq_nil_of_length_eq_zero hN0
      subst n0
      have n1 : lv 0 5 ([] : List Ins).length = .c (.slice [] 0 true (some 0)) := rfl
      rw [n1] at s6'
      simp only [c2, c4, s6', s5, EVb, EVc, Int.reduceEq, Int.reduceToNat, Int.reduceLE, Int.reduceLT, Int.reduceAdd, Int.reduceMul, Int.reduceSub, Int.reduceNeg, Nat.reduceAdd, Nat.reduceSub, Nat.reduceMul, Nat.reduceLT, Nat.reduceBEq, Nat.reduceEqDiff, Nat.reduceLeDiff, FACTS, TYPES]
      generalize hH7 : List.set H3 3 _ = H7
      have e2 : H7[3]? = some (AObj.cells 25 [ii S.ins, ii (gR S code.length), .c (.slice [] 0 true (some 0)), AV.hsl 1 0 O.length O.length 1]) := by rw [← hH7, List.getElem?_set_self (by omega)]
      have e1 : H7[1]? = some (.row false 3 (encInts O)) := by rw [← hH7, List.getElem?_set_ne (by omega)]; exact s3
      simp only [e2, e1, encInts_length, Nat.mul_one, o2, Nat.le_refl, EVb, EVc, Int.reduceEq, Int.reduceToNat, Int.reduceLE, Int.reduceLT, Int.reduceAdd, Int.reduceMul, Int.reduceSub, Int.reduceNeg, Nat.reduceAdd, Nat.reduceSub, Nat.reduceMul, Nat.reduceLT, Nat.reduceBEq, Nat.reduceEqDiff, Nat.reduceLeDiff, FACTS, TYPES]
      simp only [sC, sI, nlE, cpE, o1, encCode, Nat.le_refl, if_true, if_false, decide_false, EVb, EVc, Int.reduceEq, Int.reduceToNat, Int.reduceLE, Int.reduceLT, Int.reduceAdd, Int.reduceMul, Int.reduceSub, Int.reduceNeg, Nat.reduceAdd, Nat.reduceSub, Nat.reduceMul, Nat.reduceLT, Nat.reduceBEq, Nat.reduceEqDiff, Nat.reduceLeDiff, FACTS, TYPES]
      done
    · have n1 := lv_pos (s := 0) (sz := 5) hN0
      have n2 := lo_pos (e := 34) (cells := encCode C) hN0
      have n3 : (encCode C).take (C.length * 5) = encCode C := List.take_of_length_le (by rw [encCode_length]; exact Nat.le_refl _)
      have n4 : ¬ C.length = 0 := by omega
      rw [n1] at s6'
      rw [n2] at s2
      simp only [c2, c4, s6', s5, EVb, EVc, Int.reduceEq, Int.reduceToNat, Int.reduceLE, Int.reduceLT, Int.reduceAdd, Int.reduceMul, Int.reduceSub, Int.reduceNeg, Nat.reduceAdd, Nat.reduceSub, Nat.reduceMul, Nat.reduceLT, Nat.reduceBEq, Nat.reduceEqDiff, Nat.reduceLeDiff, FACTS, TYPES]
      generalize hH7 : List.set H3 3 _ = H7
      have e2 : H7[3]? = some (AObj.cells 25 [ii S.ins, ii (gR S code.length), AV.hsl 0 0 C.length (C.length * 5) 5, AV.hsl 1 0 O.length O.length 1]) := by rw [← hH7, List.getElem?_set_self (by omega)]
      have e0 : H7[0]? = some (.row false 34 (encCode C)) := by rw [← hH7, List.getElem?_set_ne (by omega)]; exact s2
      have e1 : ∀ o : AObj, (H7.set 0 o)[1]? = some (.row false 3 (encInts O)) := fun o => by rw [List.getElem?_set_ne (by omega), ← hH7, List.getElem?_set_ne (by omega)]; exact s3
      simp only [e2, e0, e1, encInts_length, encCode_length, Nat.mul_one, o2, n3, Nat.le_refl, EVb, EVc, Int.reduceEq, Int.reduceToNat, Int.reduceLE, Int.reduceLT, Int.reduceAdd, Int.reduceMul, Int.reduceSub, Int.reduceNeg, Nat.reduceAdd, Nat.reduceSub, Nat.reduceMul, Nat.reduceLT, Nat.reduceBEq, Nat.reduceEqDiff, Nat.reduceLeDiff, FACTS, TYPES]
      simp only [sC, sI, nlE, cpE, o1, n4, Nat.le_refl, if_true, if_false, decide_false, EVb, EVc, Int.reduceEq, Int.reduceToNat, Int.reduceLE, Int.reduceLT, Int.reduceAdd, Int.reduceMul, Int.reduceSub, Int.reduceNeg, Nat.reduceAdd, Nat.reduceSub, Nat.reduceMul, Nat.reduceLT, Nat.reduceBEq, Nat.reduceEqDiff, Nat.reduceLeDiff, FACTS, TYPES]
      done
  · rw [if_neg hu] at hz0
    simp only [a1, a2, a3, a4, a5, q2, hU, hu, EVb, EVc, Int.reduceEq, Int.reduceToNat, Int.reduceLE, Int.reduceLT, Int.reduceAdd, Int.reduceMul, Int.reduceSub, Int.reduceNeg, Nat.reduceAdd, Nat.reduceSub, Nat.reduceMul, Nat.reduceLT, Nat.reduceBEq, Nat.reduceEqDiff, Nat.reduceLeDiff, FACTS, TYPES]
    obtain ⟨H6, hH6⟩ : ∃ H6, H6 = H1 := ⟨_, rfl⟩
    rw [← hH6] at q0 q1 q2 q3 q4 p1 p4 ⊢
    have h65 : 5 ≤ H6.length := p1
    have y0 : H6[0]? = some (cdL S 0) := by rw [q0]; rfl
    have y1 := q1
    have y2 : H6[2]? = some (boxP g n code outs nl cap nl2 cap2) := by rw [q2]
    have y3 := q3
    have hg0 : gR S 0 = (g : Int) := by rw [gR, if_neg hu, hS]; rfl
    have y4 : H6[4]? = some (outO S 0) := by
      rw [q4, outO, hg0, hS]
      rfl
    have hnv : NowAt H6 (nv id (inL S g)) (nowL S 0) := .inl ⟨id, by rw [hz0], fun h => by rw [hz0] at h ⊢; exact p4 h⟩
    rw [evalCode_loopZ LB51_13 lp51_13 (fz := [5])]; rotate_left; rfl; rfl; rfl; rfl
    generalize hz : loopZ _ _ _ _ _ _ _ _ _ _ _ _ _ = z
    obtain ⟨l2, H2, rfl, b1, b2, b3, b4, b5, r1, r2, r3, r4, r5, r6⟩ := loop_rPack13 k g n n (neededM ⟨(g : Int), n, code, outs⟩) code outs nl cap nl2 cap2 _ _ H6 H6.length h65 _ _ (by rw [hS2]; exact hnv) ⟨Nat.le_refl _, by rw [hS2]; exact y0, y1, y2, y3, by rw [hS2]; exact y4⟩ (by omega) (by rw [hS2]; exact hok) (by rw [hS2]; exact hin) (by rw [hS2]; exact hop) hb0 (by omega) hnd (by omega) (by omega) ho2 hask (by omega) _ _ z hz (by omega) (by exact a1) (by exact a2) (by exact a3) (by exact a4) (by exact a5) (by rfl)
    clear hz
    rw [hS2] at b5 r2 r6
    have hSc : S.code.length = code.length := by rw [hS]; rfl
    have r6' : H2[4]? = some (AObj.cells 25 [ii S.ins, ii (gR S S.code.length), lv 0 5 (gC S S.code.length).length, lv 1 1 0]) := by rw [hSc]; exact r6
    simp only [b1, b2, b3, b4, b5, EVb, EVc, Int.reduceEq, Int.reduceToNat, Int.reduceLE, Int.reduceLT, Int.reduceAdd, Int.reduceMul, Int.reduceSub, Int.reduceNeg, Nat.reduceAdd, Nat.reduceSub, Nat.reduceMul, Nat.reduceLT, Nat.reduceBEq, Nat.reduceEqDiff, Nat.reduceLeDiff, FACTS, TYPES]
    rw [evalCode_loopB LB51_45 lp51_45]; rotate_left; rfl; rfl; rfl
    generalize hz : loopR _ _ _ _ _ _ _ _ _ _ _ _ = z
    obtain ⟨l3, H3, rfl, c2, c4, s1, s2, s3, s4, s5, s6⟩ := loop_rPack45 k g n n (neededM ⟨(g : Int), n, code, outs⟩) code outs nl cap nl2 cap2 _ _ H2 H2.length (by omega) _ ⟨Nat.le_refl _, by rw [hS2]; exact r2, r3, r4, r5, by rw [hS2, outO2]; exact r6'⟩ (by rw [hS2]; exact hok) (by rw [hS2]; exact hin) (by omega) hnd (by omega) (by omega) (by omega) _ _ z hz (by omega) (by exact b1) (by exact b2) (by exact b3) (by exact b4) (by rw [hS2]; exact b5) (by rfl)
    clear hz
    rw [hS2] at s2 s3 s6
    have hol : (gOuts S).length = outs.length := by rw [hS]; simp [gOuts, svP]
    rw [← hol, List.take_length] at s3
    rw [← hol] at s6
    have hcl : (gC S code.length).length ≤ code.length := by rw [gC_length]; exact cnt_le _ _
    obtain ⟨C, hC⟩ : ∃ C, C = gC S code.length := ⟨_, rfl⟩
    obtain ⟨O, hO⟩ : ∃ O, O = gOuts S := ⟨_, rfl⟩
    have hgr : greedy S = ⟨S.ins, gR S code.length, C, O⟩ := by rw [greedy, hSc, hC, hO]
    rw [hgr]
    have s6' : H3[4]? = some (AObj.cells 25 [ii S.ins, ii (gR S code.length), lv 0 5 C.length, lv 1 1 O.length]) := by rw [s6, outO2, hSc, hC, hO]
    rw [cdL, ← hC] at s2
    rw [← hO] at s3 hol
    have g1 : 0 < O.length := by omega
    have g3 := lv_pos (s := 1) (sz := 1) g1
    have g4 := lo_pos (e := 3) (cells := encInts O) g1
    have o1 : ¬ O.length = 0 := by omega
    have o2 : (encInts O).take O.length = encInts O := List.take_of_length_le (by rw [encInts_length]; exact Nat.le_refl _)
    rw [g4] at s3
    rw [g3, Nat.mul_one] at s6'
    rcases Nat.eq_zero_or_pos C.length with hN0 | hN0
    · have n0 : C = [] := List.eq_nil_of_length_eq_zero hN0
      subst n0
      have n1 : lv 0 5 ([] : List Ins).length = .c (.slice [] 0 true (some 0)) := rfl
      rw [n1] at s6'
      simp only [c2, c4, s6', s5, EVb, EVc, Int.reduceEq, Int.reduceToNat, Int.reduceLE, Int.reduceLT, Int.reduceAdd, Int.reduceMul, Int.reduceSub, Int.reduceNeg, Nat.reduceAdd, Nat.reduceSub, Nat.reduceMul, Nat.reduceLT, Nat.reduceBEq, Nat.reduceEqDiff, Nat.reduceLeDiff, FACTS, TYPES]
      generalize hH7 : List.set H3 3 _ = H7
      have e2 : H7[3]? = some (AObj.cells 25 [ii S.ins, ii (gR S code.length), .c (.slice [] 0 true (some 0)), AV.hsl 1 0 O.length O.length 1]) := by rw [← hH7, List.getElem?_set_self (by omega)]
      have e1 : H7[1]? = some (.row false 3 (encInts O)) := by rw [← hH7, List.getElem?_set_ne (by omega)]; exact s3
      simp only [e2, e1, encInts_length, Nat.mul_one, o2, Nat.le_refl, EVb, EVc, Int.reduceEq, Int.reduceToNat, Int.reduceLE, Int.reduceLT, Int.reduceAdd, Int.reduceMul, Int.reduceSub, Int.reduceNeg, Nat.reduceAdd, Nat.reduceSub, Nat.reduceMul, Nat.reduceLT, Nat.reduceBEq, Nat.reduceEqDiff, Nat.reduceLeDiff, FACTS, TYPES]
      simp only [sC, sI, nlE, cpE, o1, encCode, Nat.le_refl, if_true, if_false, decide_false, EVb, EVc, Int.reduceEq, Int.reduceToNat, Int.reduceLE, Int.reduceLT, Int.reduceAdd, Int.reduceMul, Int.reduceSub, Int.reduceNeg, Nat.reduceAdd, Nat.reduceSub, Nat.reduceMul, Nat.reduceLT, Nat.reduceBEq, Nat.reduceEqDiff, Nat.reduceLeDiff, FACTS, TYPES]
      done
    · have n1 := lv_pos (s := 0) (sz := 5) hN0
      have n2 := lo_pos (e := 34) (cells := encCode C) hN0
      have n3 : (encCode C).take (C.length * 5) = encCode C := List.take_of_length_le (by rw [encCode_length]; exact Nat.le_refl _)
      have n4 : ¬ C.length = 0 := by omega
      rw [n1] at s6'
      rw [n2] at s2
      simp only [c2, c4, s6', s5, EVb, EVc, Int.reduceEq, Int.reduceToNat, Int.reduceLE, Int.reduceLT, Int.reduceAdd, Int.reduceMul, Int.reduceSub, Int.reduceNeg, Nat.reduceAdd, Nat.reduceSub, Nat.reduceMul, Nat.reduceLT, Nat.reduceBEq, Nat.reduceEqDiff, Nat.reduceLeDiff, FACTS, TYPES]
      generalize hH7 : List.set H3 3 _ = H7
      have e2 : H7[3]? = some (AObj.cells 25 [ii S.ins, ii (gR S code.length), AV.hsl 0 0 C.length (C.length * 5) 5, AV.hsl 1 0 O.length O.length 1]) := by rw [← hH7, List.getElem?_set_self (by omega)]
      have e0 : H7[0]? = some (.row false 34 (encCode C)) := by rw [← hH7, List.getElem?_set_ne (by omega)]; exact s2
      have e1 : ∀ o : AObj, (H7.set 0 o)[1]? = some (.row false 3 (encInts O)) := fun o => by rw [List.getElem?_set_ne (by omega), ← hH7, List.getElem?_set_ne (by omega)]; exact s3
      simp only [e2, e0, e1, encInts_length, encCode_length, Nat.mul_one, o2, n3, Nat.le_refl, EVb, EVc, Int.reduceEq, Int.reduceToNat, Int.reduceLE, Int.reduceLT, Int.reduceAdd, Int.reduceMul, Int.reduceSub, Int.reduceNeg, Nat.reduceAdd, Nat.reduceSub, Nat.reduceMul, Nat.reduceLT, Nat.reduceBEq, Nat.reduceEqDiff, Nat.reduceLeDiff, FACTS, TYPES]
      simp only [sC, sI, nlE, cpE, o1, n4, Nat.le_refl, if_true, if_false, decide_false, EVb, EVc, Int.reduceEq, Int.reduceToNat, Int.reduceLE, Int.reduceLT, Int.reduceAdd, Int.reduceMul, Int.reduceSub, Int.reduceNeg, Nat.reduceAdd, Nat.reduceSub, Nat.reduceMul, Nat.reduceLT, Nat.reduceBEq, Nat.reduceEqDiff, Nat.reduceLeDiff, FACTS, TYPES]
      done
end Go.Proofs.Sw
namespace Go.Proofs.Sw
set_option linter.unusedVariables false
set_option linter.unusedSimpArgs false
set_option linter.unusedSectionVars false
open Go.Ab
variable [Globals]
theorem l16live_ev (k : Nat) : run (k+60) 40 [] = some (bb true) := by kernel_rfl
def long16 (p : Pg) : Bool := decide (40 < p.code.length) || decide (40 < p.outs.length)
theorem l16long_ev (k : Nat) (p : Pg) (nl : Bool) (cap : Option Nat) (nl2 : Bool) (cap2 : Option Nat) : run (k+1) 42 [aP p nl cap nl2 cap2] = some (bb (long16 p)) := by
  rw [run, ev42, ans_trim]
  by_cases h1 : (40 : Int) < p.code.length
  · have : 40 < p.code.length := by omega
    simp only [Try.f42, aP, ii, bb, h1, EVb, EVc, Int.reduceEq, Int.reduceToNat, Int.reduceLE, Int.reduceLT, Int.reduceAdd, Int.reduceMul, Int.reduceSub, Int.reduceNeg, Nat.reduceAdd, Nat.reduceSub, Nat.reduceMul, Nat.reduceLT, Nat.reduceBEq, Nat.reduceEqDiff, Nat.reduceLeDiff, FACTS, TYPES]
    simp [long16, this]
  · have : ¬ 40 < p.code.length := by omega
    simp only [Try.f42, aP, ii, bb, h1, EVb, EVc, Int.reduceEq, Int.reduceToNat, Int.reduceLE, Int.reduceLT, Int.reduceAdd, Int.reduceMul, Int.reduceSub, Int.reduceNeg, Nat.reduceAdd, Nat.reduceSub, Nat.reduceMul, Nat.reduceLT, Nat.reduceBEq, Nat.reduceEqDiff, Nat.reduceLeDiff, FACTS, TYPES]
    by_cases h2 : (40 : Int) < p.outs.length
    · have : 40 < p.outs.length := by omega
      simp [long16, *]
    · have : ¬ 40 < p.outs.length := by omega
      simp [long16, *]
theorem l16empty_ev (k : Nat) : run (k+1) 50 [.agg [ii 0, ii 0, .c (.slice [] 0 true (some 0)), .c (.slice [] 0 true (some 0))]] = some (bb true) := by
  rw [run, ev50, ans_trim]
  simp only [Try.f50, ii, EVb, EVc, Int.reduceEq, Int.reduceToNat, Int.reduceLE, Int.reduceLT, Int.reduceAdd, Int.reduceMul, Int.reduceSub, Int.reduceNeg, Nat.reduceAdd, Nat.reduceSub, Nat.reduceMul, Nat.reduceLT, Nat.reduceBEq, Nat.reduceEqDiff, Nat.reduceLeDiff, FACTS, TYPES]
theorem spoil_evA (k : Nat) (x y : Int) {N m : Nat} {E O : List IV} (hE : E.length = N * 5) (hO : O.length = m) :
    evalT Try.prog (mkHints tab) (k+2) (.fn 54) [.agg [ii x, ii y, .hsl 0 0 N (N * 5) 5, .hsl 1 0 m m 1]] [.row false 34 E, .row false 3 O] = some (.tup [], [.dead, .dead]) := by
  rw [ev54]
  simp only [Try.f54, ii, EVb, EVc, Int.reduceEq, Int.reduceToNat, Int.reduceLE, Int.reduceLT, Int.reduceAdd, Int.reduceMul, Int.reduceSub, Int.reduceNeg, Nat.reduceAdd, Nat.reduceSub, Nat.reduceMul, Nat.reduceLT, Nat.reduceBEq, Nat.reduceEqDiff, Nat.reduceLeDiff, FACTS, TYPES]
  rw [evalCode_drawn Try.f54 1 dr54_1]; rotate_left; rfl
  simp only [hE, hO, EVd, Nat.reducePow, Nat.reduceDiv, Nat.reduceMod, EVb, EVc, Int.reduceEq, Int.reduceToNat, Int.reduceLE, Int.reduceLT, Int.reduceAdd, Int.reduceMul, Int.reduceSub, Int.reduceNeg, Nat.reduceAdd, Nat.reduceSub, Nat.reduceMul, Nat.reduceLT, Nat.reduceBEq, Nat.reduceEqDiff, Nat.reduceLeDiff, FACTS, TYPES]
  rw [evalCode_spoil (r := 3) LB54_3 sp54_3 (by rfl) (by rfl) (by rfl) (by rfl) (by rfl) (Int.le_refl 0) (by rfl) hE]
  simp only [EVb, EVc, Int.reduceEq, Int.reduceToNat, Int.reduceLE, Int.reduceLT, Int.reduceAdd, Int.reduceMul, Int.reduceSub, Int.reduceNeg, Nat.reduceAdd, Nat.reduceSub, Nat.reduceMul, Nat.reduceLT, Nat.reduceBEq, Nat.reduceEqDiff, Nat.reduceLeDiff, FACTS, TYPES]
  rw [evalCode_spoil (r := 7) LB54_7 sp54_7 (by rfl) (by rfl) (by rfl) (by rfl) (by rfl) (Int.le_refl 0) (by rfl) hO]
  simp only [EVb, EVc, Int.reduceEq, Int.reduceToNat, Int.reduceLE, Int.reduceLT, Int.reduceAdd, Int.reduceMul, Int.reduceSub, Int.reduceNeg, Nat.reduceAdd, Nat.reduceSub, Nat.reduceMul, Nat.reduceLT, Nat.reduceBEq, Nat.reduceEqDiff, Nat.reduceLeDiff, FACTS, TYPES]
  rfl
theorem spoil_evB (k : Nat) (x y : Int) {m : Nat} {O : List IV} (hO : O.length = m) :
    evalT Try.prog (mkHints tab) (k+2) (.fn 54) [.agg [ii x, ii y, .c (.slice [] 0 true (some 0)), .hsl 0 0 m m 1]] [.row false 3 O] = some (.tup [], [.dead]) := by
  rw [ev54]
  simp only [Try.f54, ii, EVb, EVc, Int.reduceEq, Int.reduceToNat, Int.reduceLE, Int.reduceLT, Int.reduceAdd, Int.reduceMul, Int.reduceSub, Int.reduceNeg, Nat.reduceAdd, Nat.reduceSub, Nat.reduceMul, Nat.reduceLT, Nat.reduceBEq, Nat.reduceEqDiff, Nat.reduceLeDiff, FACTS, TYPES]
  rw [evalCode_drawn Try.f54 1 dr54_1]; rotate_left; rfl
  have hs0 : ∀ H, sliceO H 5 (.c (.slice [] 0 true (some 0))) none (some (.c (.int .i64 0))) = some (.c (.slice [] 0 true (some 0))) := fun H => by rfl
  simp only [hO, hs0, EVd, Nat.reducePow, Nat.reduceDiv, Nat.reduceMod, EVb, EVc, Int.reduceEq, Int.reduceToNat, Int.reduceLE, Int.reduceLT, Int.reduceAdd, Int.reduceMul, Int.reduceSub, Int.reduceNeg, Nat.reduceAdd, Nat.reduceSub, Nat.reduceMul, Nat.reduceLT, Nat.reduceBEq, Nat.reduceEqDiff, Nat.reduceLeDiff, FACTS, TYPES]
  rw [evalCode_spoilN LB54_3 sp54_3 lp54_3 (by rfl) (by rfl) (by rfl) (by rfl)]
  rw [loopR_succ]
  simp only [loopR_succ, loopOf, findLoop, firstRegion, Option.some_or, Option.none_or, Option.getD_some, Option.some.injEq, Try.f54, EVb, EVc, Int.reduceEq, Int.reduceToNat, Int.reduceLE, Int.reduceLT, Int.reduceAdd, Int.reduceMul, Int.reduceSub, Int.reduceNeg, Nat.reduceAdd, Nat.reduceSub, Nat.reduceMul, Nat.reduceLT, Nat.reduceBEq, Nat.reduceEqDiff, Nat.reduceLeDiff, FACTS, TYPES]
  rw [evalCode_spoil (r := 7) LB54_7 sp54_7 (by rfl) (by rfl) (by rfl) (by rfl) (by rfl) (Int.le_refl 0) (by rfl) hO]
  simp only [EVb, EVc, Int.reduceEq, Int.reduceToNat, Int.reduceLE, Int.reduceLT, Int.reduceAdd, Int.reduceMul, Int.reduceSub, Int.reduceNeg, Nat.reduceAdd, Nat.reduceSub, Nat.reduceMul, Nat.reduceLT, Nat.reduceBEq, Nat.reduceEqDiff, Nat.reduceLeDiff, FACTS, TYPES]
  rfl
theorem rNeeded_raw (k : Nat) (p : Pg) (nl : Bool) (cap : Option Nat) (nl2 : Bool) (cap2 : Option Nat) (hl : p.code.length ≤ 1000000) (hl2 : p.outs.length ≤ 1000000) (hk : p.code.length + p.outs.length + 20 ≤ k) :
    evalT Try.prog (mkHints tab) (k+1) (.fn 53) [aP p nl cap nl2 cap2] [] = some (.hsl 1 0 p.code.length p.code.length 1, [cP p.ins p.regs (sC p.code nl cap) (sI p.outs nl2 cap2), rB (needR p.outs p.code)]) := by
  obtain ⟨ins, regs, code, outs⟩ := p
  simp only at hk hl hl2
  have hw : IntKind.wrap .i64 ((code.length : Int) - 1) = (code.length : Int) - 1 := wrap64 (by omega) (by omega)
  have hr := encB_rep code.length
  have hrl := needR_length outs code
  have hrb : code.length ≤ roomBytes := Nat.le_trans hl (by decide)
  have h00 : (0 : Int) ≤ code.length := by omega
  rw [ev53]
  simp only [Try.f53, aP, ii, bb, hw, hr, hrb, h00, EVb, EVc, Int.reduceEq, Int.reduceToNat, Int.reduceLE, Int.reduceLT, Int.reduceAdd, Int.reduceMul, Int.reduceSub, Int.reduceNeg, Nat.reduceAdd, Nat.reduceSub, Nat.reduceMul, Nat.reduceLT, Nat.reduceBEq, Nat.reduceEqDiff, Nat.reduceLeDiff, FACTS, TYPES]
  rw [evalCode_loopB LB53_3 lp53_3]; rotate_left; rfl; rfl; rfl
  generalize hz : loopR _ _ _ _ _ _ _ _ _ _ _ _ = z
  obtain ⟨l', rfl, e3⟩ := loop_rNeeded_3 k ins regs code nl nl2 cap cap2 outs hl hl2 hk _ _ z hz (by omega) (by rfl) (by rfl) (by rw [show (code.length : Int) - 1 - ((0 : Nat) : Int) = (code.length : Int) - 1 by omega]; rfl)
  clear hz
  simp only [e3, EVb, EVc, Int.reduceEq, Int.reduceToNat, Int.reduceLE, Int.reduceLT, Int.reduceAdd, Int.reduceMul, Int.reduceSub, Int.reduceNeg, Nat.reduceAdd, Nat.reduceSub, Nat.reduceMul, Nat.reduceLT, Nat.reduceBEq, Nat.reduceEqDiff, Nat.reduceLeDiff, FACTS, TYPES]
  try rfl
theorem encB_sc : ∀ l : List Bool, (encB l).all IV.scalar = true
  | [] => rfl
  | b :: l => by
    show (IV.bool b :: encB l).all IV.scalar = true
    rw [List.all_cons, encB_sc l]; rfl
theorem viewB {N : Nat} {l : List Bool} {o : AObj} {H : Heap} : keepV (some (.hsl 1 0 N N 1, [o, rB l])) H = some (.hsl H.length 0 N N 1, H ++ [rB l]) := by
  show (if _ ∧ _ then _ else _) = _
  rw [if_pos ⟨rfl, by show (List.all (encB l) IV.scalar && true) = true; rw [encB_sc]; rfl⟩]
  rfl
theorem rowOfB {H : Heap} {id N : Nat} {l : List Bool} (h : H[id]? = some (rB l)) (hl : l.length = N) : rowOf H id N = some (4, encB l) := by
  unfold rowOf
  rw [h]
  simp [encB_length, hl]
theorem loop_OP20 (kf : Nat) (H0 : Heap) (M : Nat) (hM : H0.length = M) (id : Nat) (v1 v3 v4 v9 : AV) (N : Nat) (hN : N ≤ 1000000) (hid : H0[id]? = some (rB (List.replicate N true))) (k : Nat) (l : Ass) (z : Option Out) (hz : loopR Try.prog tab kf none LB10_20 10 140 [1, 3, 4, 9, 12, 13] M k l H0 = z) (hk : N < k) (a1 : asc l 1 = v1) (a3 : asc l 3 = v3) (a4 : asc l 4 = v4) (a9 : asc l 9 = v9) (a12 : asc l 12 = .hsl id 0 N N 1) (a13 : asc l 13 = ii 0) :
    ∃ l', z = some (.exit 0 (fr 140 l') H0) ∧ asc l' 1 = v1 ∧ asc l' 3 = v3 ∧ asc l' 4 = v4 ∧ asc l' 9 = v9 := by
  subst hz
  refine loop_nat N (fun k l H => loopR Try.prog tab kf none LB10_20 10 140 [1, 3, 4, 9, 12, 13] M k l H)
    (fun i l H => asc l 1 = v1 ∧ asc l 3 = v3 ∧ asc l 4 = v4 ∧ asc l 9 = v9 ∧ asc l 12 = .hsl id 0 N N 1 ∧ asc l 13 = ii i ∧ ((H = H0)))
    (fun z => ∃ l', z = some (.exit 0 (fr 140 l') H0) ∧ asc l' 1 = v1 ∧ asc l' 3 = v3 ∧ asc l' 4 = v4 ∧ asc l' 9 = v9) ?_ N 0 k l _ (by omega) hk ⟨a1, a3, a4, a9, a12, a13, rfl⟩
  clear hk a1 a3 a4 a9 a12 a13
  rintro i k l H hi ⟨a1, a3, a4, a9, a12, a13, hp⟩
  have ht : trim M (fr 140 (keep l [1, 3, 4, 9, 12, 13])) H = H := by
    rw [hp]
    exact trim_same hM
  by_cases hc : i < N
  · have hc' : (i : Int) < ((N : Nat) : Int) := by omega
    have hc0 : (0 : Int) ≤ i := by omega
    have hw : IntKind.wrap .i64 ((i : Int) + 1) = ((i + 1 : Nat) : Int) := by rw [wrap64 (by omega) (by omega)]; omega
    have hel : (List.replicate N true).length = N := by simp
    have hrow := rowOfB hid hel
    rw [← hp] at hrow
    have hnb := encB_nat (l := List.replicate N true) (i := i) (by omega)
    have hget : (List.replicate N true).getD i false = true := by simp [List.getElem?_replicate, hc]
    rw [hget] at hnb
    simp only [loopR_succ, ht]
    simp only [a1, a3, a4, a9, a12, a13, hc', hc0, hw, hnb, hrow, loopR_succ, loopOf, findLoop, firstRegion, Option.some_or, Option.none_or, Option.getD_some, Option.some.injEq, Try.f10, EVb, EVc, Int.reduceEq, Int.reduceToNat, Int.reduceLE, Int.reduceLT, Int.reduceAdd, Int.reduceMul, Int.reduceSub, Int.reduceNeg, Nat.reduceAdd, Nat.reduceSub, Nat.reduceMul, Nat.reduceLT, Nat.reduceBEq, Nat.reduceEqDiff, Nat.reduceLeDiff, FACTS, TYPES]
    exact .inr ⟨_, _, hc, rfl, (by rfl), (by rfl), (by rfl), (by rfl), (by rfl), (by rfl), hp⟩
  · refine .inl ?_
    obtain rfl : i = N := by omega
    have hc' : ¬ (((i : Nat) : Int) < ((i : Nat) : Int)) := by omega
    simp only [loopR_succ, ht]
    simp only [a1, a3, a4, a9, a12, a13, hc', loopR_succ, loopOf, findLoop, firstRegion, Option.some_or, Option.none_or, Option.getD_some, Option.some.injEq, Try.f10, EVb, EVc, Int.reduceEq, Int.reduceToNat, Int.reduceLE, Int.reduceLT, Int.reduceAdd, Int.reduceMul, Int.reduceSub, Int.reduceNeg, Nat.reduceAdd, Nat.reduceSub, Nat.reduceMul, Nat.reduceLT, Nat.reduceBEq, Nat.reduceEqDiff, Nat.reduceLeDiff, FACTS, TYPES]
    rw [hp]
    exact ⟨_, rfl, (by rfl), (by rfl), (by rfl), (by rfl)⟩

end Go.Proofs.Sw
namespace Go.Proofs.Sw
set_option linter.unusedVariables false
set_option linter.unusedSimpArgs false
set_option linter.unusedSectionVars false
open Go.Ab
variable [Globals]
theorem encCode_sc : ∀ l : List Ins, (encCode l).all IV.scalar = true
  | [] => rfl
  | i :: l => by rw [encCode, List.all_append, encCode_sc l]; rfl
theorem encInts_sc : ∀ l : List Int, (encInts l).all IV.scalar = true
  | [] => rfl
  | i :: l => by
    show (IV.int .i64 i :: encInts l).all IV.scalar = true
    rw [List.all_cons, encInts_sc l]; rfl
theorem keep16 {x y e : IV} {N m : Nat} {E O : List IV} {H X : Heap} (hN : 0 < N) :
    keepO (some (.tup [.agg [.c x, .c y, lv 0 5 N, .hsl 1 0 m m 1], .c e], lo 34 N E :: .row false 3 O :: X)) H = some (.tup [.agg [.c x, .c y, .hsl H.length 0 N (N * 5) 5, .hsl (H.length + 1) 0 m m 1], .c e], H ++ [.row false 34 E, .row false 3 O]) := by
  rw [lv_pos hN, lo_pos hN]
  simp [keepO, AV.imp, imps1, AV.imp1, imps0, AV.imp0, rowsOf, Go.Ab.rowAt]
theorem keep16z {x y e : IV} {m : Nat} {O : List IV} {H X : Heap} {o : AObj} :
    keepO (some (.tup [.agg [.c x, .c y, .c (.slice [] 0 true (some 0)), .hsl 1 0 m m 1], .c e], o :: .row false 3 O :: X)) H = some (.tup [.agg [.c x, .c y, .c (.slice [] 0 true (some 0)), .hsl H.length 0 m m 1], .c e], H ++ [.row false 3 O]) := by
  simp [keepO, AV.imp, imps1, AV.imp1, imps0, AV.imp0, rowsOf, Go.Ab.rowAt]
theorem keep16n {x y e : Int} {H X : Heap} :
    keepO (some (.tup [.agg [ii x, ii y, .c (.slice [] 0 true (some 0)), .c (.slice [] 0 true (some 0))], ii e], X)) H = some (.tup [.agg [ii x, ii y, .c (.slice [] 0 true (some 0)), .c (.slice [] 0 true (some 0))], ii e], H) := by
  simp [keepO, AV.imp, imps1, AV.imp1, imps0, AV.imp0, rowsOf]
theorem view16 {x y e : Int} {N m : Nat} {C : List Ins} {O : List Int} {H X : Heap} (hN : 0 < N) :
    keepV (some (.tup [.agg [ii x, ii y, lv 0 5 N, .hsl 1 0 m m 1], ii e], lo 34 N (encCode C) :: rI O :: X)) H = some (.tup [.agg [ii x, ii y, .hsl H.length 0 N (N * 5) 5, .hsl (H.length + 1) 0 m m 1], ii e], H ++ [.row false 34 (encCode C), rI O]) := by
  rw [lv_pos hN, lo_pos hN]
  show (if _ ∧ _ then _ else _) = _
  rw [if_pos ⟨rfl, by show (List.all (encCode C) IV.scalar && (List.all (encInts O) IV.scalar && true)) = true; rw [encCode_sc, encInts_sc]; rfl⟩]
  rfl
theorem view16z {x y e : Int} {m : Nat} {O : List Int} {H X : Heap} {o : AObj} :
    keepV (some (.tup [.agg [ii x, ii y, .c (.slice [] 0 true (some 0)), .hsl 1 0 m m 1], ii e], o :: rI O :: X)) H = some (.tup [.agg [ii x, ii y, .c (.slice [] 0 true (some 0)), .hsl H.length 0 m m 1], ii e], H ++ [rI O]) := by
  show (if _ ∧ _ then _ else _) = _
  rw [if_pos ⟨rfl, by show (List.all (encInts O) IV.scalar && true) = true; rw [encInts_sc]; rfl⟩]
  rfl
theorem OrderPacks_bad (k : Nat) (p : Pg) (nl : Bool) (cap : Option Nat) (nl2 : Bool) (cap2 : Option Nat) (hk : p.outs.length + p.code.length + 400 ≤ k) (hr : rightM p = false) (hlg : long16 p = false) (hs : p.code.length * 40 ≤ roomBytes) (hs2 : p.outs.length * 8 ≤ roomBytes) :
    run (k+61) 10 [aP p nl cap nl2 cap2] = some (bb true) := by
  have hwk := l16live_ev k
  have hlg' := l16long_ev (k + 59) p nl cap nl2 cap2
  have hrt := rRight_ev (k + 59) p nl cap nl2 cap2 (by omega)
  have hcp := rCopy_ev (k + 59) p nl nl2 cap cap2 hs hs2
  obtain ⟨G, hps⟩ := Pack_bad (k + 57) p nl cap nl2 cap2 (by omega) hr
  obtain ⟨G2, hal⟩ := Alive_bad (k + 57) p nl cap nl2 cap2 (by omega) hr
  have hem := l16empty_ev (k + 59)
  simp only [run, aP, ii, bb, hlg, hr, decide_true, Bool.and_true] at hwk hlg' hrt hcp hem hps hal
  rw [run, ev10, ans_trim]
  have hkn := fun H X => keep16n (x := 0) (y := 0) (e := 80) (H := H) (X := X)
  simp only [ii] at hkn
  simp only [Try.f10, aP, ii, bb, hwk, hlg', hrt, hcp, hps, hal, hem, hkn, doCall_cxK, EVb, EVc, Int.reduceEq, Int.reduceToNat, Int.reduceLE, Int.reduceLT, Int.reduceAdd, Int.reduceMul, Int.reduceSub, Int.reduceNeg, Nat.reduceAdd, Nat.reduceSub, Nat.reduceMul, Nat.reduceLT, Nat.reduceBEq, Nat.reduceEqDiff, Nat.reduceLeDiff, FACTS, TYPES]

theorem OrderPacks_good (k : Nat) (g : Nat) (n : Nat) (code : List Ins) (outs : List Int) (nl : Bool) (cap : Option Nat) (nl2 : Bool) (cap2 : Option Nat) (hk : outs.length + code.length + 6000 ≤ k) (hr : rightM ⟨g, n, code, outs⟩ = true) (hlg : long16 ⟨g, n, code, outs⟩ = false) (hs : code.length * 40 ≤ roomBytes) (hs2 : outs.length * 8 ≤ roomBytes) :
    run (k+61) 10 [aP ⟨g, n, code, outs⟩ nl cap nl2 cap2] = some (bb true) := by
  have hwk := l16live_ev k
  have hlg' := l16long_ev (k + 59) ⟨(g : Int), n, code, outs⟩ nl cap nl2 cap2
  have hrt := rRight_ev (k + 59) ⟨(g : Int), n, code, outs⟩ nl cap nl2 cap2 (by simp only; omega)
  have hcp := rCopy_ev (k + 59) ⟨(g : Int), n, code, outs⟩ nl nl2 cap cap2 hs hs2
  have hl := hlg
  simp only [long16, Bool.or_eq_false_iff, decide_eq_false_iff_not] at hl
  obtain ⟨X1, hps⟩ := Pack_ev (k + 57) g n code outs nl cap nl2 cap2 (by omega) hr
  obtain ⟨X3, hal⟩ := Alive_ev (k + 57) g n code outs nl cap nl2 cap2 (by omega) hr
  have hrp := rPack_ev (k + 59) g n code outs nl cap nl2 cap2 (by omega) hr
  have hra := rAlive_ev (k + 59) g n code outs nl cap nl2 cap2 (by omega) hr
  have hpk := pgOk hr
  rw [← packM_eq hpk] at hrp
  rw [← aliveM_eq hpk] at hra
  have hrq := packM_right hr
  have hnq := packM_need hr
  have hag := packM_again hr
  obtain ⟨f1, f2, f3, f4, f5⟩ := packM_regs hr
  obtain ⟨q, hq⟩ : ∃ q, q = packM ⟨(g : Int), n, code, outs⟩ := ⟨_, rfl⟩
  rw [← hq] at hps hrp hrq hnq hag f1 f2 f3 f4 f5
  obtain ⟨qi, qr, C, O⟩ := q
  simp only at hps hrp hrq hnq hag f1 f2 f3 f4 f5
  subst f5
  have hr' := hrq
  simp only [rightM, headM, Bool.and_eq_true, decide_eq_true_eq] at hr'
  obtain ⟨m, hm⟩ : ∃ m : Nat, qr = m := ⟨qr.toNat, by omega⟩
  subst hm
  obtain ⟨al, hal2⟩ : ∃ al, al = aliveM ⟨(g : Int), n, code, outs⟩ := ⟨_, rfl⟩
  have hab : 0 ≤ al ∧ al ≤ 1000 := by
    rw [hal2, aliveM_eq hpk]
    have := rA_le2 (svP ⟨(g : Int), n, code, outs⟩) n (fun k => alive_le hpk.ok hpk.inn k) (code.length + 1)
    have hr2 := hpk.regs2
    simp only at hr2 ⊢
    omega
  rw [← hal2] at hal hra f3
  have hOe : (encInts O).length = outs.length := by rw [encInts_length, f4]
  have g6 : (encInts O).take outs.length = encInts O := List.take_of_length_le (by rw [hOe]; exact Nat.le_refl _)
  have g7 := encCode_length C
  have h1 : ¬ ((m : Int) > n) := by omega
  have h2 : ¬ ((C.length : Int) > code.length) := by omega
  have hw1 : IntKind.wrap .i64 (al + 1) = al + 1 := by rw [wrap64 (by omega) (by omega)]
  have hw2 : IntKind.wrap .i64 ((g : Int) + 1) = (g : Int) + 1 := by rw [wrap64 (by omega) (by omega)]
  rcases Nat.eq_zero_or_pos C.length with hN | hN
  · have hCn : C = [] := List.eq_nil_of_length_eq_zero hN
    subst hCn
    obtain ⟨X2, hps2⟩ := Pack_ev (k + 57) g m [] O true (some 0) false none (by simp only [List.length_nil] at *; omega) hrq
    rw [hag] at hps2
    simp only [f4] at hps2
    have hrt2 := rRight_ev (k + 59) ⟨(g : Int), m, [], O⟩ true (some 0) false none (by simp only [List.length_nil] at *; omega)
    have hnd2 := rNeeded_raw (k + 59) ⟨(g : Int), m, [], O⟩ true (some 0) false none (by simp) (by simp only [List.length_nil] at *; omega) (by simp only [List.length_nil] at *; omega)
    simp only at hnd2
    rw [neededM_R m g [] O hrq, hnq] at hnd2
    have hvB := fun (H : Heap) (o : AObj) => viewB (N := 0) (l := List.replicate 0 true) (o := o) (H := H)
    have hsm := rSame_ev (k + 59) ⟨(g : Int), m, [], O⟩ true false (nlE ([] : List Ins)) (nlE O) (some 0) none (cpE ([] : List Ins)) (cpE O) (by simp) (by simp only [List.length_nil] at *; omega) (by simp only [List.length_nil] at *; omega)
    have hsm2 := rSame_ev (k + 59) ⟨(g : Int), n, code, outs⟩ nl nl2 (nlE code) (nlE outs) cap cap2 (cpE code) (cpE outs) (by simp only; omega) (by simp only; omega) (by simp only; omega)
    have hsp := spoil_evB (k + 58) g m hOe
    simp only [ii] at hsp
    have e0 : lv 0 5 ([] : List Ins).length = .c (.slice [] 0 true (some 0)) := rfl
    have e00 : lo 34 ([] : List Ins).length (encCode []) = .slot := rfl
    have hkp := fun (H : Heap) => keep16z (x := .int .i64 g) (y := .int .i64 m) (e := .int .i64 0) (m := outs.length) (O := encInts O) (H := H) (X := X1) (o := .slot)
    have hkv := fun H => view16z (x := g) (y := m) (e := 0) (m := outs.length) (O := O) (H := H) (X := X2) (o := .slot)
    simp only [run, aP, ii, bb, sC, sI, hlg, hr, hrq, f4, decide_true, Bool.and_true, e0, e00, cdO] at hwk hlg' hrt hrt2 hcp hps hrp hra hal hsm hsm2 hps2 hkp hkv hnd2
    simp only [encCode, List.length_nil] at hrp hsm hps2 hrt2 hnd2 h2
    have hc0 : ¬ ((code.length : Int) < 0) := by omega
    rw [run, ev10, ans_trim]
    simp only [Try.f10, aP, ii, bb, hwk, hlg', hrt, hrt2, hcp, hps, hrp, hra, hal, hkp, hsm, hps2, keepF_some, hkv, hOe, g6, Nat.le_refl, h1, h2, hc0, doCall_cxK, doCall_cxKV, EVb, EVc, Int.reduceEq, Int.reduceToNat, Int.reduceLE, Int.reduceLT, Int.reduceAdd, Int.reduceMul, Int.reduceSub, Int.reduceNeg, Nat.reduceAdd, Nat.reduceSub, Nat.reduceMul, Nat.reduceLT, Nat.reduceBEq, Nat.reduceEqDiff, Nat.reduceLeDiff, FACTS, TYPES]
    by_cases hx : al + 1 < m
    · have hx2 : ¬ ((g : Int) + 1 < m) := by omega
      simp only [hw1, hw2, hx, hx2, hnd2, keepF_some, hvB, doCall_cxK, doCall_cxKV, hOe, g6, Nat.le_refl, EVb, EVc, Int.reduceEq, Int.reduceToNat, Int.reduceLE, Int.reduceLT, Int.reduceAdd, Int.reduceMul, Int.reduceSub, Int.reduceNeg, Nat.reduceAdd, Nat.reduceSub, Nat.reduceMul, Nat.reduceLT, Nat.reduceBEq, Nat.reduceEqDiff, Nat.reduceLeDiff, FACTS, TYPES]
      rw [evalCode_loopB LB10_20 lp10_20]; rotate_left; rfl; rfl; rfl
      generalize hz : loopR _ _ _ _ _ _ _ _ _ _ _ _ = z
      obtain ⟨l2, rfl, e1, e3, e4, e9⟩ := loop_OP20 (k + 60) _ _ rfl 5 _ _ _ _ 0 (by omega) (by rfl) _ _ z hz (by omega) (by rfl) (by rfl) (by rfl) (by rfl) (by rfl) (by rfl)
      clear hz
      simp only [e1, e3, e4, e9, hps2, keepF_some, hkv, hsp, hsm, hsm2, hOe, g6, Nat.le_refl, doCall_cxK, doCall_cxKV, EVb, EVc, Int.reduceEq, Int.reduceToNat, Int.reduceLE, Int.reduceLT, Int.reduceAdd, Int.reduceMul, Int.reduceSub, Int.reduceNeg, Nat.reduceAdd, Nat.reduceSub, Nat.reduceMul, Nat.reduceLT, Nat.reduceBEq, Nat.reduceEqDiff, Nat.reduceLeDiff, FACTS, TYPES]
      done
    · simp only [hw1, hw2, hx, hnd2, keepF_some, hvB, doCall_cxK, doCall_cxKV, hOe, g6, Nat.le_refl, EVb, EVc, Int.reduceEq, Int.reduceToNat, Int.reduceLE, Int.reduceLT, Int.reduceAdd, Int.reduceMul, Int.reduceSub, Int.reduceNeg, Nat.reduceAdd, Nat.reduceSub, Nat.reduceMul, Nat.reduceLT, Nat.reduceBEq, Nat.reduceEqDiff, Nat.reduceLeDiff, FACTS, TYPES]
      rw [evalCode_loopB LB10_20 lp10_20]; rotate_left; rfl; rfl; rfl
      generalize hz : loopR _ _ _ _ _ _ _ _ _ _ _ _ = z
      obtain ⟨l2, rfl, e1, e3, e4, e9⟩ := loop_OP20 (k + 60) _ _ rfl 5 _ _ _ _ 0 (by omega) (by rfl) _ _ z hz (by omega) (by rfl) (by rfl) (by rfl) (by rfl) (by rfl) (by rfl)
      clear hz
      simp only [e1, e3, e4, e9, hps2, keepF_some, hkv, hsp, hsm, hsm2, hOe, g6, Nat.le_refl, doCall_cxK, doCall_cxKV, EVb, EVc, Int.reduceEq, Int.reduceToNat, Int.reduceLE, Int.reduceLT, Int.reduceAdd, Int.reduceMul, Int.reduceSub, Int.reduceNeg, Nat.reduceAdd, Nat.reduceSub, Nat.reduceMul, Nat.reduceLT, Nat.reduceBEq, Nat.reduceEqDiff, Nat.reduceLeDiff, FACTS, TYPES]
      done
  · have g5 : (encCode C).take (C.length * 5) = encCode C := List.take_of_length_le (by rw [encCode_length]; exact Nat.le_refl _)
    obtain ⟨X2, hps2⟩ := Pack_ev (k + 57) g m C O false none false none (by omega) hrq
    rw [hag] at hps2
    simp only [f4] at hps2
    have hrt2 := rRight_ev (k + 59) ⟨(g : Int), m, C, O⟩ false none false none (by simp only; omega)
    have hnd2 := rNeeded_raw (k + 59) ⟨(g : Int), m, C, O⟩ false none false none (by simp only; omega) (by simp only; omega) (by simp only; omega)
    simp only at hnd2
    rw [neededM_R m g C O hrq, hnq] at hnd2
    have hsp := spoil_evA (k + 58) g m g7 hOe
    simp only [ii] at hsp
    have hvB := fun (H : Heap) (o : AObj) => viewB (N := C.length) (l := List.replicate C.length true) (o := o) (H := H)
    have hsm := rSame_ev (k + 59) ⟨(g : Int), m, C, O⟩ false false (nlE C) (nlE O) none none (cpE C) (cpE O) (by simp only; omega) (by simp only; omega) (by simp only; omega)
    have hsm2 := rSame_ev (k + 59) ⟨(g : Int), n, code, outs⟩ nl nl2 (nlE code) (nlE outs) cap cap2 (cpE code) (cpE outs) (by simp only; omega) (by simp only; omega) (by simp only; omega)
    have hkp := fun (H : Heap) => keep16 (x := .int .i64 g) (y := .int .i64 m) (e := .int .i64 0) (N := C.length) (m := outs.length) (E := encCode C) (O := encInts O) (H := H) (X := X1) hN
    have hkv := fun H => view16 (x := g) (y := m) (e := 0) (N := C.length) (m := outs.length) (C := C) (O := O) (H := H) (X := X2) hN
    simp only [run, aP, ii, bb, sC, sI, hlg, hr, hrq, f4, decide_true, Bool.and_true] at hwk hlg' hrt hrt2 hcp hps hrp hra hal hsm hsm2 hps2 hkp hkv hnd2
    rw [run, ev10, ans_trim]
    simp only [Try.f10, aP, ii, bb, hwk, hlg', hrt, hrt2, hcp, hps, hrp, hra, hal, hkp, hsm, hps2, keepF_some, hkv, hOe, g5, g6, g7, Nat.le_refl, h1, h2, doCall_cxK, doCall_cxKV, EVb, EVc, Int.reduceEq, Int.reduceToNat, Int.reduceLE, Int.reduceLT, Int.reduceAdd, Int.reduceMul, Int.reduceSub, Int.reduceNeg, Nat.reduceAdd, Nat.reduceSub, Nat.reduceMul, Nat.reduceLT, Nat.reduceBEq, Nat.reduceEqDiff, Nat.reduceLeDiff, FACTS, TYPES]
    by_cases hx : al + 1 < m
    · have hx2 : ¬ ((g : Int) + 1 < m) := by omega
      simp only [hw1, hw2, hx, hx2, hnd2, keepF_some, hvB, doCall_cxK, doCall_cxKV, hOe, g5, g6, g7, Nat.le_refl, EVb, EVc, Int.reduceEq, Int.reduceToNat, Int.reduceLE, Int.reduceLT, Int.reduceAdd, Int.reduceMul, Int.reduceSub, Int.reduceNeg, Nat.reduceAdd, Nat.reduceSub, Nat.reduceMul, Nat.reduceLT, Nat.reduceBEq, Nat.reduceEqDiff, Nat.reduceLeDiff, FACTS, TYPES]
      rw [evalCode_loopB LB10_20 lp10_20]; rotate_left; rfl; rfl; rfl
      generalize hz : loopR _ _ _ _ _ _ _ _ _ _ _ _ = z
      obtain ⟨l2, rfl, e1, e3, e4, e9⟩ := loop_OP20 (k + 60) _ _ rfl 6 _ _ _ _ C.length (by omega) (by rfl) _ _ z hz (by omega) (by rfl) (by rfl) (by rfl) (by rfl) (by rfl) (by rfl)
      clear hz
      simp only [e1, e3, e4, e9, hps2, keepF_some, hkv, hsp, hsm, hsm2, hOe, g5, g6, g7, Nat.le_refl, doCall_cxK, doCall_cxKV, EVb, EVc, Int.reduceEq, Int.reduceToNat, Int.reduceLE, Int.reduceLT, Int.reduceAdd, Int.reduceMul, Int.reduceSub, Int.reduceNeg, Nat.reduceAdd, Nat.reduceSub, Nat.reduceMul, Nat.reduceLT, Nat.reduceBEq, Nat.reduceEqDiff, Nat.reduceLeDiff, FACTS, TYPES]
      done
    · simp only [hw1, hw2, hx, hnd2, keepF_some, hvB, doCall_cxK, doCall_cxKV, hOe, g5, g6, g7, Nat.le_refl, EVb, EVc, Int.reduceEq, Int.reduceToNat, Int.reduceLE, Int.reduceLT, Int.reduceAdd, Int.reduceMul, Int.reduceSub, Int.reduceNeg, Nat.reduceAdd, Nat.reduceSub, Nat.reduceMul, Nat.reduceLT, Nat.reduceBEq, Nat.reduceEqDiff, Nat.reduceLeDiff, FACTS, TYPES]
      rw [evalCode_loopB LB10_20 lp10_20]; rotate_left; rfl; rfl; rfl
      generalize hz : loopR _ _ _ _ _ _ _ _ _ _ _ _ = z
      obtain ⟨l2, rfl, e1, e3, e4, e9⟩ := loop_OP20 (k + 60) _ _ rfl 6 _ _ _ _ C.length (by omega) (by rfl) _ _ z hz (by omega) (by rfl) (by rfl) (by rfl) (by rfl) (by rfl) (by rfl)
      clear hz
      simp only [e1, e3, e4, e9, hps2, keepF_some, hkv, hsp, hsm, hsm2, hOe, g5, g6, g7, Nat.le_refl, doCall_cxK, doCall_cxKV, EVb, EVc, Int.reduceEq, Int.reduceToNat, Int.reduceLE, Int.reduceLT, Int.reduceAdd, Int.reduceMul, Int.reduceSub, Int.reduceNeg, Nat.reduceAdd, Nat.reduceSub, Nat.reduceMul, Nat.reduceLT, Nat.reduceBEq, Nat.reduceEqDiff, Nat.reduceLeDiff, FACTS, TYPES]
      done
end Go.Proofs.Sw
namespace Go.Proofs.Sw
set_option linter.unusedVariables false
set_option linter.unusedSimpArgs false
set_option linter.unusedSectionVars false
open Go.Ab
variable [Globals]
theorem OrderPacks_ev (k : Nat) (p : Pg) (nl : Bool) (cap : Option Nat) (nl2 : Bool) (cap2 : Option Nat) (hk : p.outs.length + p.code.length + 7000 ≤ k) (_ : nl = true → p.code = []) (_ : nl2 = true → p.outs = []) (hs : p.code.length * 40 ≤ roomBytes) (hs2 : p.outs.length * 8 ≤ roomBytes) :
    run (k+1) 10 [aP p nl cap nl2 cap2] = some (bb true) := by
  obtain ⟨k, rfl⟩ : ∃ j, k = j + 60 := ⟨k - 60, by omega⟩
  cases hlg : long16 p with
  | true =>
    have hwk := l16live_ev k
    have hlg' := l16long_ev (k + 59) p nl cap nl2 cap2
    simp only [run, aP, ii, sC, sI, bb, hlg] at hwk hlg'
    rw [run, ev10, ans_trim]
    simp only [Try.f10, aP, ii, bb, hwk, hlg', EVb, EVc, Int.reduceEq, Int.reduceToNat, Int.reduceLE, Int.reduceLT, Int.reduceAdd, Int.reduceMul, Int.reduceSub, Int.reduceNeg, Nat.reduceAdd, Nat.reduceSub, Nat.reduceMul, Nat.reduceLT, Nat.reduceBEq, Nat.reduceEqDiff, Nat.reduceLeDiff, FACTS, TYPES]
  | false =>
    cases hr : rightM p with
    | false => exact OrderPacks_bad k p nl cap nl2 cap2 (by omega) hr hlg hs hs2
    | true =>
      obtain ⟨ins, regs, code, outs⟩ := p
      have hr' := hr
      simp only [rightM, headM, Bool.and_eq_true, decide_eq_true_eq] at hr'
      obtain ⟨n, hn⟩ : ∃ n : Nat, regs = n := ⟨regs.toNat, by omega⟩
      obtain ⟨g, hg⟩ : ∃ g : Nat, ins = g := ⟨ins.toNat, by omega⟩
      subst hn
      subst hg
      exact OrderPacks_good k g n code outs nl cap nl2 cap2 (by simp only at hk; omega) hr hlg hs hs2
end Go.Proofs.Sw
