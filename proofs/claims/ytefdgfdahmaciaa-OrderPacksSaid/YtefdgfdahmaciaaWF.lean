/- A part of the proof: what functions of the program answer, of whatever arguments, reckoned with letters by the interpreter's equations. Its conditions stand in each theorem. -/
import Derived.Test.YtefdgfdahmaciaaWC
namespace Go.Proofs.Sw
set_option linter.unusedVariables false
set_option linter.unusedSimpArgs false
set_option linter.unusedSectionVars false
open Go.Ab
variable [Globals]
theorem bd125 (a : Nat) : buildA Try.prog 125 [(0, .hmap a)] = some (.agg [.hmap a, .c (.slice [] 0 true (some 0))]) := by kernel_rfl
theorem bd25p (a b : Int) : buildA Try.prog 25 [(0, .c (.int .i64 a)), (1, .c (.int .i64 b))] = some (.agg [.c (.int .i64 a), .c (.int .i64 b), .c (.slice [] 0 true (some 0)), .c (.slice [] 0 true (some 0))]) := by kernel_rfl
theorem Pack_ev (k : Nat) (ins : Int) (n : Nat) (code : List Ins) (outs : List Int) (nl : Bool) (cap : Option Nat) (nl2 : Bool) (cap2 : Option Nat) (hk : outs.length + code.length + 3000 ≤ k) (hr : rightM ⟨ins, n, code, outs⟩ = true) :
    ∃ X, evalT Try.prog (mkHints tab) (k+3) (.fn 44) [aP ⟨ins, n, code, outs⟩ nl cap nl2 cap2] [] =
      some (.tup [.agg [ii ins, ii (packM ⟨ins, n, code, outs⟩).regs, lv 0 5 (packM ⟨ins, n, code, outs⟩).code.length, hI 1 outs.length], ii 0], cdO (packM ⟨ins, n, code, outs⟩).code :: rI (packM ⟨ins, n, code, outs⟩).outs :: X) := by
  obtain ⟨X0, hL⟩ := lives_ev k ins n code outs nl cap nl2 cap2 (by omega) hr
  have hr' := hr
  simp only [rightM, headM, Bool.and_eq_true, decide_eq_true_eq] at hr'
  obtain ⟨⟨hh, ho⟩, hc⟩ := hr'
  obtain ⟨g, rfl⟩ : ∃ g : Nat, ins = g := ⟨ins.toNat, by omega⟩
  obtain ⟨P, hP⟩ : ∃ P : Pg, P = ⟨(g : Int), n, code, outs⟩ := ⟨_, rfl⟩
  have hule : (untM P).length = (lvEnd P).unt.length := untO_length _ _ _ _
  have hule2 := hule
  rw [hP] at hule2
  rw [← hule2] at hL
  have hok0 : LvOk (lvStart (g : Int) n code.length) n code.length := lvStart_ok (by omega)
  have hok : LvOk (lvEnd P) n code.length := by rw [hP]; exact (lvAt_ok hok0 _).1
  have hug : g < (untM P).length ∧ (untM P).length ≤ g + 1 + code.length := by
    rw [hule, hP]
    have h1 := (lvAt_ok (need := neededM ⟨(g : Int), n, code, outs⟩) (code := code) hok0 code.length).2
    have h2 : ∀ i, g + 1 ≤ (lvAt (lvStart (g : Int) n code.length) (neededM ⟨(g : Int), n, code, outs⟩) code i).unt.length := by
      intro i
      induction i with
      | zero => simp [lvAt, lvStart]
      | succ i ih => exact Nat.le_trans ih (lv_unt_mono i)
    have h3 := h2 code.length
    simp only [lvStart, List.length_replicate, Int.toNat_natCast] at h1
    exact ⟨h3, h1⟩
  have hvalX : ∀ i, i < code.length → (neededM P).getD i false = true → (0 ≤ (lvEnd P).a.getD i 0 ∧ (lvEnd P).a.getD i 0 < (untM P).length) ∧ (0 ≤ (lvEnd P).b.getD i 0 ∧ (lvEnd P).b.getD i 0 < (untM P).length) := by
    intro i hi hn
    subst hP
    have hm0 : mayM code[i] (n : Int) = true := List.all_eq_true.1 hc code[i] (List.getElem_mem hi)
    have hm := mayM_facts hm0
    obtain ⟨_, _, m5, m7⟩ := hm
    have ha := lv_at hok0 (List.getElem?_eq_getElem hi) hn code.length hi (Nat.le_refl _)
    obtain ⟨hk, hkl⟩ := lvAt_ok (need := neededM ⟨(g : Int), n, code, outs⟩) (code := code) hok0 i
    have hmono : ∀ j, (lvAt (lvStart (g : Int) n code.length) (neededM ⟨(g : Int), n, code, outs⟩) code i).unt.length ≤ (lvAt (lvStart (g : Int) n code.length) (neededM ⟨(g : Int), n, code, outs⟩) code (i + j)).unt.length := by
      intro j
      induction j with
      | zero => exact Nat.le_refl _
      | succ j ih => exact Nat.le_trans ih (lv_unt_mono _)
    have hm2 := hmono (code.length - i)
    rw [show i + (code.length - i) = code.length by omega] at hm2
    have v1 := hk.vals _ (getD_mem (show (code[i].a).toNat < _ by rw [hk.held]; omega))
    have v2 := lvB_ok hk m5 m7
    rw [hule]
    have w1 : (lvEnd ⟨(g : Int), n, code, outs⟩).a.getD i 0 = _ := ha.1
    have w2 : (lvEnd ⟨(g : Int), n, code, outs⟩).b.getD i 0 = _ := ha.2.1
    rw [w1, w2]
    exact ⟨⟨v1.1, Int.lt_of_lt_of_le v1.2 (Int.ofNat_le.2 hm2)⟩, v2.1, Int.lt_of_lt_of_le v2.2 (Int.ofNat_le.2 hm2)⟩
  simp only [aP, ii, sC, sI, sB, rI, hI] at hL
  rw [ev44]
  simp only [Try.f44, aP, ii, hL, bd125, EVb, EVc, Int.reduceEq, Int.reduceToNat, Int.reduceLE, Int.reduceLT, Int.reduceAdd, Int.reduceMul, Int.reduceSub, Int.reduceNeg, Nat.reduceAdd, Nat.reduceSub, Nat.reduceMul, Nat.reduceLT, Nat.reduceBEq, Nat.reduceEqDiff, Nat.reduceLeDiff, FACTS, TYPES]
  rw [evalCode_loopB LB44_6 lp44_6]; rotate_left; rfl; rfl; rfl
  generalize hz : loopR _ _ _ _ _ _ _ _ _ _ _ _ = z
  rw [hP] at hug hvalX
  obtain ⟨hug1, hug2⟩ := hug
  have hol : (lOuts ⟨(g : Int), n, code, outs⟩).length = outs.length := outsV_length _ _
  obtain ⟨unt, hunt⟩ : ∃ unt, unt = untM ⟨(g : Int), n, code, outs⟩ := ⟨_, rfl⟩
  rw [← hunt] at hug1 hug2 hz hvalX
  obtain ⟨l1, rfl, e1, e2, e4, e6, _, _⟩ := loop_Pack6 (k + 1) _ _ _ _ _ _ _ _ _ _ _ _ _ code.length outs.length _ _ _ _ unt g hug1 (by omega) _ _ z hz (by omega) (by rfl) (by rfl) (by rfl) (by rfl) (by rfl) (by rfl)
  clear hz
  have hfl := layF_length (unt := unt) (i := g) (by omega)
  have hgp : 0 < g := by omega
  have hul := encInts_length unt
  have hx := encInts_getD (l := unt) (r := (g : Int)) (by omega) (by omega)
  rw [Int.toNat_natCast] at hx
  have hgi : (g : Int) < unt.length := by omega
  have hg0 : (0 : Int) ≤ g := by omega
  simp only [e1, e2, e4, e6, lv_pos (s := 2) (sz := 1) hgp, lo_pos (e := 4) hgp, Nat.mul_one, EVb, EVc, Int.reduceEq, Int.reduceToNat, Int.reduceLE, Int.reduceLT, Int.reduceAdd, Int.reduceMul, Int.reduceSub, Int.reduceNeg, Nat.reduceAdd, Nat.reduceSub, Nat.reduceMul, Nat.reduceLT, Nat.reduceBEq, Nat.reduceEqDiff, Nat.reduceLeDiff, FACTS, TYPES]
  rw [evalCode_drawn Try.f44 10 dr44_10]; rotate_left; rfl
  simp only [e1, e2, e4, e6, hul, hx, hgi, hg0, EVd, Nat.reducePow, Nat.reduceDiv, Nat.reduceMod, EVb, EVc, Int.reduceEq, Int.reduceToNat, Int.reduceLE, Int.reduceLT, Int.reduceAdd, Int.reduceMul, Int.reduceSub, Int.reduceNeg, Nat.reduceAdd, Nat.reduceSub, Nat.reduceMul, Nat.reduceLT, Nat.reduceBEq, Nat.reduceEqDiff, Nat.reduceLeDiff, FACTS, TYPES]
  obtain ⟨G2, hLay⟩ := lay_evB (k + 1) (layP g) (layF unt g) g (unt.getD g 0) (by intro h; rw [h] at hfl; simp at hfl; omega) (layP_none g) (by omega)
  simp only [hfl, ii, lv_pos (s := 2) (sz := 1) hgp, Nat.mul_one] at hLay
  by_cases hu0 : 0 ≤ unt.getD g 0
  · simp only [hu0, EVb, EVc, Int.reduceEq, Int.reduceToNat, Int.reduceLE, Int.reduceLT, Int.reduceAdd, Int.reduceMul, Int.reduceSub, Int.reduceNeg, Nat.reduceAdd, Nat.reduceSub, Nat.reduceMul, Nat.reduceLT, Nat.reduceBEq, Nat.reduceEqDiff, Nat.reduceLeDiff, FACTS, TYPES]
    rw [evalCode_drawn Try.f44 11 dr44_11]; rotate_left; rfl
    simp only [e1, e2, e4, e6, hul, hx, hgi, hg0, hLay, entsI_ids, entsI_ren, EVd, Nat.reducePow, Nat.reduceDiv, Nat.reduceMod, EVb, EVc, Int.reduceEq, Int.reduceToNat, Int.reduceLE, Int.reduceLT, Int.reduceAdd, Int.reduceMul, Int.reduceSub, Int.reduceNeg, Nat.reduceAdd, Nat.reduceSub, Nat.reduceMul, Nat.reduceLT, Nat.reduceBEq, Nat.reduceEqDiff, Nat.reduceLeDiff, FACTS, TYPES]
    rw [evalCode_drawn Try.f44 12 dr44_12]; rotate_left; rfl
    simp only [e1, e2, e4, e6, bd25p, EVd, Nat.reducePow, Nat.reduceDiv, Nat.reduceMod, EVb, EVc, Int.reduceEq, Int.reduceToNat, Int.reduceLE, Int.reduceLT, Int.reduceAdd, Int.reduceMul, Int.reduceSub, Int.reduceNeg, Nat.reduceAdd, Nat.reduceSub, Nat.reduceMul, Nat.reduceLT, Nat.reduceBEq, Nat.reduceEqDiff, Nat.reduceLeDiff, FACTS, TYPES]
    rw [evalCode_loopB LB44_14 lp44_14]; rotate_left; rfl; rfl; rfl
    generalize hz : loopR _ _ _ _ _ _ _ _ _ _ _ _ = z
    have hpk : pk0 ⟨(g : Int), n, code, outs⟩ = ⟨layP g ++ [((g : Int), (g : Int))], layF unt g ++ [decide (unt.getD g 0 < 0)], [], ((g : Int) + 1)⟩ := by
      unfold pk0
      simp only [Int.toNat_natCast, ← hunt, hu0, if_true, if_false]
    have hbl : (layF unt g ++ [decide (unt.getD g 0 < 0)]).length = g + 1 := by simp [hfl]
    have hpk0 : PkOk ⟨layP g ++ [((g : Int), (g : Int))], layF unt g ++ [decide (unt.getD g 0 < 0)], [], ((g : Int) + 1)⟩ := ⟨by simp only [hbl]; omega, fun e he => by
      simp only [layP, List.mem_append, List.mem_map, List.mem_range, List.mem_singleton] at he
      simp only [hbl]
      rcases he with ⟨v, hv, rfl⟩ | rfl <;> simp only <;> omega⟩
    have hk0 : ∀ e ∈ (⟨layP g ++ [((g : Int), (g : Int))], layF unt g ++ [decide (unt.getD g 0 < 0)], [], ((g : Int) + 1)⟩ : Pk).at_, e.1 < (lvStart (g : Int) n code.length).unt.length := fun e he => by
      simp only [layP, List.mem_append, List.mem_map, List.mem_range, List.mem_singleton] at he
      simp only [lvStart, List.length_replicate, Int.toNat_natCast]
      rcases he with ⟨v, hv, rfl⟩ | rfl <;> simp only <;> omega
    have hx2 : AV.hsl 2 0 (g + 1) (g + 1) 1 = hI 2 (layF unt g ++ [decide (unt.getD g 0 < 0)]).length := by rw [hbl]
    rw [hx2] at hz
    have hmx1 : (if ((g + 1 : Nat) : Int) > (g : Int) then ((g + 1 : Nat) : Int) else (g : Int)) = (g : Int) + 1 := by rw [if_pos (by omega)]; omega
    have hmx2 : (if (g : Int) > (g : Int) then (g : Int) else (g : Int)) = (g : Int) := by rw [if_neg (by omega)]
    simp only [hmx1, hmx2] at hz
    obtain ⟨l2, rfl, f2, f4, f6, f8, _, _, _⟩ := loop_Pack14 (k + 1) _ _ _ _ _ _ _ _ _ _ _ _ outs.length g _ (lvEnd ⟨(g : Int), n, code, outs⟩) unt ⟨layP g ++ [((g : Int), (g : Int))], layF unt g ++ [decide (unt.getD g 0 < 0)], [], ((g : Int) + 1)⟩ (neededM ⟨(g : Int), n, code, outs⟩) code (needL_len2 _ _) nl cap hpk0 (by simp only [hbl]; omega) rfl (by simp only; omega) (by omega) (by omega) (by omega) (by have := hok.a; rw [hP] at this; exact this) (by have := hok.b; rw [hP] at this; exact this) (by have := hok.sets; rw [hP] at this; exact this) hvalX (fun i hi hn => pk_fresh hok0 rfl hk0 i hi hn) _ _ z hz (by omega) e2 e4 e6 (by rfl) (by rfl) (by rfl) (by rfl)
    clear hz
    obtain ⟨q, hq⟩ : ∃ q, q = pkAt (lvEnd ⟨(g : Int), n, code, outs⟩) unt ⟨layP g ++ [((g : Int), (g : Int))], layF unt g ++ [decide (unt.getD g 0 < 0)], [], ((g : Int) + 1)⟩ (neededM ⟨(g : Int), n, code, outs⟩) code code.length := ⟨_, rfl⟩
    obtain ⟨vs, hvs⟩ : ∃ vs, vs = lOuts ⟨(g : Int), n, code, outs⟩ := ⟨_, rfl⟩
    rw [← hq]
    simp only [f2, f4, f6, f8, EVb, EVc, Int.reduceEq, Int.reduceToNat, Int.reduceLE, Int.reduceLT, Int.reduceAdd, Int.reduceMul, Int.reduceSub, Int.reduceNeg, Nat.reduceAdd, Nat.reduceSub, Nat.reduceMul, Nat.reduceLT, Nat.reduceBEq, Nat.reduceEqDiff, Nat.reduceLeDiff, FACTS, TYPES]
    rw [evalCode_loopB LB44_32 lp44_32]; rotate_left; rfl; rfl; rfl
    generalize hz : loopR _ _ _ _ _ _ _ _ _ _ _ _ = z
    rw [← hvs] at hol
    rw [← hvs, ← hol] at hz
    obtain ⟨l3, rfl, g2, g6, g8, _, _, _⟩ := loop_Pack32 (k + 2) _ _ _ _ _ _ _ _ _ (by simp only [EVb, EVc, Int.reduceEq, Int.reduceToNat, Int.reduceLE, Int.reduceLT, Int.reduceAdd, Int.reduceMul, Int.reduceSub, Int.reduceNeg, Nat.reduceAdd, Nat.reduceSub, Nat.reduceMul, Nat.reduceLT, Nat.reduceBEq, Nat.reduceEqDiff, Nat.reduceLeDiff, FACTS, TYPES]) (by simp only [EVb, EVc, Int.reduceEq, Int.reduceToNat, Int.reduceLE, Int.reduceLT, Int.reduceAdd, Int.reduceMul, Int.reduceSub, Int.reduceNeg, Nat.reduceAdd, Nat.reduceSub, Nat.reduceMul, Nat.reduceLT, Nat.reduceBEq, Nat.reduceEqDiff, Nat.reduceLeDiff, FACTS, TYPES]) (by simp only [EVb, EVc, Int.reduceEq, Int.reduceToNat, Int.reduceLE, Int.reduceLT, Int.reduceAdd, Int.reduceMul, Int.reduceSub, Int.reduceNeg, Nat.reduceAdd, Nat.reduceSub, Nat.reduceMul, Nat.reduceLT, Nat.reduceBEq, Nat.reduceEqDiff, Nat.reduceLeDiff, FACTS, TYPES]) (by simp only [EVb, EVc, Int.reduceEq, Int.reduceToNat, Int.reduceLE, Int.reduceLT, Int.reduceAdd, Int.reduceMul, Int.reduceSub, Int.reduceNeg, Nat.reduceAdd, Nat.reduceSub, Nat.reduceMul, Nat.reduceLT, Nat.reduceBEq, Nat.reduceEqDiff, Nat.reduceLeDiff, FACTS, TYPES]) (by simp only [EVb, EVc, Int.reduceEq, Int.reduceToNat, Int.reduceLE, Int.reduceLT, Int.reduceAdd, Int.reduceMul, Int.reduceSub, Int.reduceNeg, Nat.reduceAdd, Nat.reduceSub, Nat.reduceMul, Nat.reduceLT, Nat.reduceBEq, Nat.reduceEqDiff, Nat.reduceLeDiff, FACTS, TYPES]) (by simp only [EVb, EVc, Int.reduceEq, Int.reduceToNat, Int.reduceLE, Int.reduceLT, Int.reduceAdd, Int.reduceMul, Int.reduceSub, Int.reduceNeg, Nat.reduceAdd, Nat.reduceSub, Nat.reduceMul, Nat.reduceLT, Nat.reduceBEq, Nat.reduceEqDiff, Nat.reduceLeDiff, FACTS, TYPES]) (by simp only [EVb, EVc, Int.reduceEq, Int.reduceToNat, Int.reduceLE, Int.reduceLT, Int.reduceAdd, Int.reduceMul, Int.reduceSub, Int.reduceNeg, Nat.reduceAdd, Nat.reduceSub, Nat.reduceMul, Nat.reduceLT, Nat.reduceBEq, Nat.reduceEqDiff, Nat.reduceLeDiff, FACTS, TYPES]) (by simp only [EVb, EVc, Int.reduceEq, Int.reduceToNat, Int.reduceLE, Int.reduceLT, Int.reduceAdd, Int.reduceMul, Int.reduceSub, Int.reduceNeg, Nat.reduceAdd, Nat.reduceSub, Nat.reduceMul, Nat.reduceLT, Nat.reduceBEq, Nat.reduceEqDiff, Nat.reduceLeDiff, FACTS, TYPES]) (by simp only [EVb, EVc, Int.reduceEq, Int.reduceToNat, Int.reduceLE, Int.reduceLT, Int.reduceAdd, Int.reduceMul, Int.reduceSub, Int.reduceNeg, Nat.reduceAdd, Nat.reduceSub, Nat.reduceMul, Nat.reduceLT, Nat.reduceBEq, Nat.reduceEqDiff, Nat.reduceLeDiff, FACTS, TYPES]) q.at_ q.free.length q.code.length _ _ vs (by rw [hol]; omega) _ _ z hz (by omega) f2 f6 f8 (by rfl) (by rfl) (by rfl)
    clear hz
    have hop : 0 < vs.length := by omega
    simp only [g2, g6, g8, List.take_length, lo_pos (e := 3) hop, lv_pos (s := 1) (sz := 1) hop, EVb, EVc, Int.reduceEq, Int.reduceToNat, Int.reduceLE, Int.reduceLT, Int.reduceAdd, Int.reduceMul, Int.reduceSub, Int.reduceNeg, Nat.reduceAdd, Nat.reduceSub, Nat.reduceMul, Nat.reduceLT, Nat.reduceBEq, Nat.reduceEqDiff, Nat.reduceLeDiff, FACTS, TYPES]
    rw [← hol]
    have hpm : packM ⟨(g : Int), n, code, outs⟩ = ⟨g, q.regs, q.code, atL q.at_ vs⟩ := by
      unfold packM pkEnd
      rw [hpk, ← hunt, ← hvs]
      simp only [← hq]
    rw [hpm]
    exact ⟨_, by rfl⟩
  · simp only [hu0, EVb, EVc, Int.reduceEq, Int.reduceToNat, Int.reduceLE, Int.reduceLT, Int.reduceAdd, Int.reduceMul, Int.reduceSub, Int.reduceNeg, Nat.reduceAdd, Nat.reduceSub, Nat.reduceMul, Nat.reduceLT, Nat.reduceBEq, Nat.reduceEqDiff, Nat.reduceLeDiff, FACTS, TYPES]
    rw [evalCode_drawn Try.f44 12 dr44_12]; rotate_left; rfl
    simp only [e1, e2, e4, e6, hul, hx, hgi, hg0, bd25p, EVd, Nat.reducePow, Nat.reduceDiv, Nat.reduceMod, EVb, EVc, Int.reduceEq, Int.reduceToNat, Int.reduceLE, Int.reduceLT, Int.reduceAdd, Int.reduceMul, Int.reduceSub, Int.reduceNeg, Nat.reduceAdd, Nat.reduceSub, Nat.reduceMul, Nat.reduceLT, Nat.reduceBEq, Nat.reduceEqDiff, Nat.reduceLeDiff, FACTS, TYPES]
    rw [evalCode_loopB LB44_14 lp44_14]; rotate_left; rfl; rfl; rfl
    generalize hz : loopR _ _ _ _ _ _ _ _ _ _ _ _ = z
    have hpk : pk0 ⟨(g : Int), n, code, outs⟩ = ⟨layP g, layF unt g, [], (g : Int)⟩ := by
      unfold pk0
      simp only [Int.toNat_natCast, ← hunt, hu0, if_true, if_false]
    have hbl : (layF unt g).length = g := by simp [hfl]
    have hpk0 : PkOk ⟨layP g, layF unt g, [], (g : Int)⟩ := ⟨by simp only [hbl]; omega, fun e he => by
      simp only [layP, List.mem_append, List.mem_map, List.mem_range, List.mem_singleton] at he
      simp only [hbl]
      obtain ⟨v, hv, rfl⟩ := he
      simp only
      omega⟩
    have hk0 : ∀ e ∈ (⟨layP g, layF unt g, [], (g : Int)⟩ : Pk).at_, e.1 < (lvStart (g : Int) n code.length).unt.length := fun e he => by
      simp only [layP, List.mem_append, List.mem_map, List.mem_range, List.mem_singleton] at he
      simp only [lvStart, List.length_replicate, Int.toNat_natCast]
      obtain ⟨v, hv, rfl⟩ := he
      simp only
      omega
    have hx2 : AV.hsl 2 0 g g 1 = hI 2 (layF unt g).length := by rw [hbl]
    rw [hx2] at hz
    have hmx1 : (if ((g + 1 : Nat) : Int) > (g : Int) then ((g + 1 : Nat) : Int) else (g : Int)) = (g : Int) + 1 := by rw [if_pos (by omega)]; omega
    have hmx2 : (if (g : Int) > (g : Int) then (g : Int) else (g : Int)) = (g : Int) := by rw [if_neg (by omega)]
    simp only [hmx1, hmx2] at hz
    obtain ⟨l2, rfl, f2, f4, f6, f8, _, _, _⟩ := loop_Pack14 (k + 1) _ _ _ _ _ _ _ _ _ _ _ _ outs.length g _ (lvEnd ⟨(g : Int), n, code, outs⟩) unt ⟨layP g, layF unt g, [], (g : Int)⟩ (neededM ⟨(g : Int), n, code, outs⟩) code (needL_len2 _ _) nl cap hpk0 (by simp only [hbl]; omega) rfl (by simp only; omega) (by omega) (by omega) (by omega) (by have := hok.a; rw [hP] at this; exact this) (by have := hok.b; rw [hP] at this; exact this) (by have := hok.sets; rw [hP] at this; exact this) hvalX (fun i hi hn => pk_fresh hok0 rfl hk0 i hi hn) _ _ z hz (by omega) e2 e4 e6 (by rfl) (by rfl) (by rfl) (by rfl)
    clear hz
    obtain ⟨q, hq⟩ : ∃ q, q = pkAt (lvEnd ⟨(g : Int), n, code, outs⟩) unt ⟨layP g, layF unt g, [], (g : Int)⟩ (neededM ⟨(g : Int), n, code, outs⟩) code code.length := ⟨_, rfl⟩
    obtain ⟨vs, hvs⟩ : ∃ vs, vs = lOuts ⟨(g : Int), n, code, outs⟩ := ⟨_, rfl⟩
    rw [← hq]
    simp only [f2, f4, f6, f8, EVb, EVc, Int.reduceEq, Int.reduceToNat, Int.reduceLE, Int.reduceLT, Int.reduceAdd, Int.reduceMul, Int.reduceSub, Int.reduceNeg, Nat.reduceAdd, Nat.reduceSub, Nat.reduceMul, Nat.reduceLT, Nat.reduceBEq, Nat.reduceEqDiff, Nat.reduceLeDiff, FACTS, TYPES]
    rw [evalCode_loopB LB44_32 lp44_32]; rotate_left; rfl; rfl; rfl
    generalize hz : loopR _ _ _ _ _ _ _ _ _ _ _ _ = z
    rw [← hvs] at hol
    rw [← hvs, ← hol] at hz
    obtain ⟨l3, rfl, g2, g6, g8, _, _, _⟩ := loop_Pack32 (k + 2) _ _ _ _ _ _ _ _ _ (by simp only [EVb, EVc, Int.reduceEq, Int.reduceToNat, Int.reduceLE, Int.reduceLT, Int.reduceAdd, Int.reduceMul, Int.reduceSub, Int.reduceNeg, Nat.reduceAdd, Nat.reduceSub, Nat.reduceMul, Nat.reduceLT, Nat.reduceBEq, Nat.reduceEqDiff, Nat.reduceLeDiff, FACTS, TYPES]) (by simp only [EVb, EVc, Int.reduceEq, Int.reduceToNat, Int.reduceLE, Int.reduceLT, Int.reduceAdd, Int.reduceMul, Int.reduceSub, Int.reduceNeg, Nat.reduceAdd, Nat.reduceSub, Nat.reduceMul, Nat.reduceLT, Nat.reduceBEq, Nat.reduceEqDiff, Nat.reduceLeDiff, FACTS, TYPES]) (by simp only [EVb, EVc, Int.reduceEq, Int.reduceToNat, Int.reduceLE, Int.reduceLT, Int.reduceAdd, Int.reduceMul, Int.reduceSub, Int.reduceNeg, Nat.reduceAdd, Nat.reduceSub, Nat.reduceMul, Nat.reduceLT, Nat.reduceBEq, Nat.reduceEqDiff, Nat.reduceLeDiff, FACTS, TYPES]) (by simp only [EVb, EVc, Int.reduceEq, Int.reduceToNat, Int.reduceLE, Int.reduceLT, Int.reduceAdd, Int.reduceMul, Int.reduceSub, Int.reduceNeg, Nat.reduceAdd, Nat.reduceSub, Nat.reduceMul, Nat.reduceLT, Nat.reduceBEq, Nat.reduceEqDiff, Nat.reduceLeDiff, FACTS, TYPES]) (by simp only [EVb, EVc, Int.reduceEq, Int.reduceToNat, Int.reduceLE, Int.reduceLT, Int.reduceAdd, Int.reduceMul, Int.reduceSub, Int.reduceNeg, Nat.reduceAdd, Nat.reduceSub, Nat.reduceMul, Nat.reduceLT, Nat.reduceBEq, Nat.reduceEqDiff, Nat.reduceLeDiff, FACTS, TYPES]) (by simp only [EVb, EVc, Int.reduceEq, Int.reduceToNat, Int.reduceLE, Int.reduceLT, Int.reduceAdd, Int.reduceMul, Int.reduceSub, Int.reduceNeg, Nat.reduceAdd, Nat.reduceSub, Nat.reduceMul, Nat.reduceLT, Nat.reduceBEq, Nat.reduceEqDiff, Nat.reduceLeDiff, FACTS, TYPES]) (by simp only [EVb, EVc, Int.reduceEq, Int.reduceToNat, Int.reduceLE, Int.reduceLT, Int.reduceAdd, Int.reduceMul, Int.reduceSub, Int.reduceNeg, Nat.reduceAdd, Nat.reduceSub, Nat.reduceMul, Nat.reduceLT, Nat.reduceBEq, Nat.reduceEqDiff, Nat.reduceLeDiff, FACTS, TYPES]) (by simp only [EVb, EVc, Int.reduceEq, Int.reduceToNat, Int.reduceLE, Int.reduceLT, Int.reduceAdd, Int.reduceMul, Int.reduceSub, Int.reduceNeg, Nat.reduceAdd, Nat.reduceSub, Nat.reduceMul, Nat.reduceLT, Nat.reduceBEq, Nat.reduceEqDiff, Nat.reduceLeDiff, FACTS, TYPES]) (by simp only [EVb, EVc, Int.reduceEq, Int.reduceToNat, Int.reduceLE, Int.reduceLT, Int.reduceAdd, Int.reduceMul, Int.reduceSub, Int.reduceNeg, Nat.reduceAdd, Nat.reduceSub, Nat.reduceMul, Nat.reduceLT, Nat.reduceBEq, Nat.reduceEqDiff, Nat.reduceLeDiff, FACTS, TYPES]) q.at_ q.free.length q.code.length _ _ vs (by rw [hol]; omega) _ _ z hz (by omega) f2 f6 f8 (by rfl) (by rfl) (by rfl)
    clear hz
    have hop : 0 < vs.length := by omega
    simp only [g2, g6, g8, List.take_length, lo_pos (e := 3) hop, lv_pos (s := 1) (sz := 1) hop, EVb, EVc, Int.reduceEq, Int.reduceToNat, Int.reduceLE, Int.reduceLT, Int.reduceAdd, Int.reduceMul, Int.reduceSub, Int.reduceNeg, Nat.reduceAdd, Nat.reduceSub, Nat.reduceMul, Nat.reduceLT, Nat.reduceBEq, Nat.reduceEqDiff, Nat.reduceLeDiff, FACTS, TYPES]
    rw [← hol]
    have hpm : packM ⟨(g : Int), n, code, outs⟩ = ⟨g, q.regs, q.code, atL q.at_ vs⟩ := by
      unfold packM pkEnd
      rw [hpk, ← hunt, ← hvs]
      simp only [← hq]
    rw [hpm]
    exact ⟨_, by rfl⟩
end Go.Proofs.Sw
namespace Go.Proofs.Sw
set_option linter.unusedVariables false
set_option linter.unusedSimpArgs false
set_option linter.unusedSectionVars false
open Go.Ab
variable [Globals]
def alive0 (unt : List Int) : Nat → Int
  | 0 => 0
  | i + 1 => if 0 ≤ unt.getD i 0 then alive0 unt i + 1 else alive0 unt i
theorem alive0_le (unt : List Int) : ∀ i, 0 ≤ alive0 unt i ∧ alive0 unt i ≤ i
  | 0 => ⟨by simp [alive0], by simp [alive0]⟩
  | i + 1 => by
    have := alive0_le unt i
    rw [alive0]
    split <;> omega
abbrev lifeD (y0 y1 y2 y3 y4 : IV) (c no m : Nat) : List AV := [.c y0, .c y1, .c y2, .c y3, .c y4, hI 2 c, hI 3 c, hI 4 c, hI 5 no, hI 6 m]
theorem loop_Alive6 (kf : Nat) (x0 x1 x2 x3 y0 y1 y2 y3 y4 : IV) (c no : Nat) (c2 c3 c4 c5 : List IV) (unt : List Int) (g : Nat) (hg : g ≤ unt.length) (hu : unt.length ≤ 100000) (k : Nat) (l : Ass) (z : Option Out) (hz : loopR Try.prog tab kf none LB49_6 49 108 [1, 4, 6, 20, 21] 7 k l ([.cells 25 [.c x0, .c x1, .c x2, .c x3], .cells 128 (lifeD y0 y1 y2 y3 y4 c no unt.length), .row false 3 c2, .row false 3 c3, .row false 3 c4, .row false 3 c5, rI unt]) = z) (hk : g < k) (a1 : asc l 1 = .ptr 0 0) (a4 : asc l 4 = .ptr 1 0) (a6 : asc l 6 = ii (alive0 unt 0)) (a20 : asc l 20 = ii g) (a21 : asc l 21 = ii 0) :
    ∃ l', z = some (.exit 0 (fr 108 l') ([.cells 25 [.c x0, .c x1, .c x2, .c x3], .cells 128 (lifeD y0 y1 y2 y3 y4 c no unt.length), .row false 3 c2, .row false 3 c3, .row false 3 c4, .row false 3 c5, rI unt])) ∧ asc l' 1 = .ptr 0 0 ∧ asc l' 4 = .ptr 1 0 ∧ asc l' 6 = ii (alive0 unt g) ∧ asc l' 20 = ii g ∧ asc l' 21 = ii g := by
  subst hz
  refine loop_nat g (fun k l H => loopR Try.prog tab kf none LB49_6 49 108 [1, 4, 6, 20, 21] 7 k l H)
    (fun i l H => asc l 1 = .ptr 0 0 ∧ asc l 4 = .ptr 1 0 ∧ asc l 6 = ii (alive0 unt i) ∧ asc l 20 = ii g ∧ asc l 21 = ii i ∧ ∃ G, H = ([.cells 25 [.c x0, .c x1, .c x2, .c x3], .cells 128 (lifeD y0 y1 y2 y3 y4 c no unt.length), .row false 3 c2, .row false 3 c3, .row false 3 c4, .row false 3 c5, rI unt]) ++ G)
    (fun z => ∃ l', z = some (.exit 0 (fr 108 l') ([.cells 25 [.c x0, .c x1, .c x2, .c x3], .cells 128 (lifeD y0 y1 y2 y3 y4 c no unt.length), .row false 3 c2, .row false 3 c3, .row false 3 c4, .row false 3 c5, rI unt])) ∧ asc l' 1 = .ptr 0 0 ∧ asc l' 4 = .ptr 1 0 ∧ asc l' 6 = ii (alive0 unt g) ∧ asc l' 20 = ii g ∧ asc l' 21 = ii g) ?_ g 0 k l _ (by omega) hk ⟨a1, a4, a6, a20, a21, [], by rw [List.append_nil]⟩
  clear hk a1 a4 a6 a20 a21
  rintro i k l H hi ⟨a1, a4, a6, a20, a21, G, rfl⟩
  have ht : trim 7 (fr 108 (keep l [1, 4, 6, 20, 21])) (([.cells 25 [.c x0, .c x1, .c x2, .c x3], .cells 128 (lifeD y0 y1 y2 y3 y4 c no unt.length), .row false 3 c2, .row false 3 c3, .row false 3 c4, .row false 3 c5, rI unt]) ++ G) = ([.cells 25 [.c x0, .c x1, .c x2, .c x3], .cells 128 (lifeD y0 y1 y2 y3 y4 c no unt.length), .row false 3 c2, .row false 3 c3, .row false 3 c4, .row false 3 c5, rI unt]) := trim_app (by simp) (by simp only [a1, a4, a6, a20, a21, EVb, EVc, Int.reduceEq, Int.reduceToNat, Int.reduceLE, Int.reduceLT, Int.reduceAdd, Int.reduceMul, Int.reduceSub, Int.reduceNeg, Nat.reduceAdd, Nat.reduceSub, Nat.reduceMul, Nat.reduceLT, Nat.reduceBEq, Nat.reduceEqDiff, Nat.reduceLeDiff]) (by simp only [EVb, EVc, Int.reduceEq, Int.reduceToNat, Int.reduceLE, Int.reduceLT, Int.reduceAdd, Int.reduceMul, Int.reduceSub, Int.reduceNeg, Nat.reduceAdd, Nat.reduceSub, Nat.reduceMul, Nat.reduceLT, Nat.reduceBEq, Nat.reduceEqDiff, Nat.reduceLeDiff])
  by_cases hc : i < g
  · have hc' : (i : Int) < ((g : Nat) : Int) := by omega
    have hc0 : (0 : Int) ≤ i := by omega
    have hw : IntKind.wrap .i64 ((i : Int) + 1) = ((i + 1 : Nat) : Int) := by rw [wrap64 (by omega) (by omega)]; omega
    have hx := encInts_getD (l := unt) (r := (i : Int)) hc0 (by omega)
    rw [Int.toNat_natCast] at hx
    have hul := encInts_length unt
    have hiu : (i : Int) < unt.length := by omega
    have hle := alive0_le unt i
    have hw2 : IntKind.wrap .i64 (alive0 unt i + 1) = alive0 unt i + 1 := by rw [wrap64 (by omega) (by omega)]
    by_cases h : 0 ≤ unt.getD i 0
    · have e : alive0 unt (i + 1) = alive0 unt i + 1 := by rw [alive0, if_pos h]
      simp only [loopR_succ, ht]
      simp only [a1, a4, a6, a20, a21, hc', hc0, hw, hx, hul, hiu, h, hw2, loopR_succ, loopOf, findLoop, firstRegion, Option.some_or, Option.none_or, Option.getD_some, Option.some.injEq, Try.f49, EVb, EVc, Int.reduceEq, Int.reduceToNat, Int.reduceLE, Int.reduceLT, Int.reduceAdd, Int.reduceMul, Int.reduceSub, Int.reduceNeg, Nat.reduceAdd, Nat.reduceSub, Nat.reduceMul, Nat.reduceLT, Nat.reduceBEq, Nat.reduceEqDiff, Nat.reduceLeDiff, FACTS, TYPES]
      rw [e]
      refine .inr ⟨_, _, hc, rfl, (by rfl), (by rfl), (by rfl), (by rfl), (by rfl), ?_⟩
      exact ⟨_, by rfl⟩
    · have e : alive0 unt (i + 1) = alive0 unt i := by rw [alive0, if_neg h]
      simp only [loopR_succ, ht]
      simp only [a1, a4, a6, a20, a21, hc', hc0, hw, hx, hul, hiu, h, hw2, loopR_succ, loopOf, findLoop, firstRegion, Option.some_or, Option.none_or, Option.getD_some, Option.some.injEq, Try.f49, EVb, EVc, Int.reduceEq, Int.reduceToNat, Int.reduceLE, Int.reduceLT, Int.reduceAdd, Int.reduceMul, Int.reduceSub, Int.reduceNeg, Nat.reduceAdd, Nat.reduceSub, Nat.reduceMul, Nat.reduceLT, Nat.reduceBEq, Nat.reduceEqDiff, Nat.reduceLeDiff, FACTS, TYPES]
      rw [e]
      refine .inr ⟨_, _, hc, rfl, (by rfl), (by rfl), (by rfl), (by rfl), (by rfl), ?_⟩
      exact ⟨_, by rfl⟩
  · refine .inl ?_
    obtain rfl : i = g := by omega
    have hc' : ¬ (((i : Nat) : Int) < ((i : Nat) : Int)) := by omega
    simp only [loopR_succ, ht]
    simp only [a1, a4, a6, a20, a21, hc', loopR_succ, loopOf, findLoop, firstRegion, Option.some_or, Option.none_or, Option.getD_some, Option.some.injEq, Try.f49, EVb, EVc, Int.reduceEq, Int.reduceToNat, Int.reduceLE, Int.reduceLT, Int.reduceAdd, Int.reduceMul, Int.reduceSub, Int.reduceNeg, Nat.reduceAdd, Nat.reduceSub, Nat.reduceMul, Nat.reduceLT, Nat.reduceBEq, Nat.reduceEqDiff, Nat.reduceLeDiff, FACTS, TYPES]
    exact ⟨_, rfl, (by rfl), (by rfl), (by rfl), (by rfl), (by rfl)⟩

/-- How many values are alive, and the most so far. -/
def alA (L : Lv) (unt : List Int) (k : Nat) (n : Int) : Int := if unt.getD (L.a.getD k 0).toNat 0 = k then n - 1 else n
def alB (L : Lv) (unt : List Int) (k : Nat) (n : Int) : Int := if L.b.getD k 0 ≠ L.a.getD k 0 ∧ unt.getD (L.b.getD k 0).toNat 0 = k then n - 1 else n
def alAt (L : Lv) (unt : List Int) (need : List Bool) (c0 : Int) : Nat → Int × Int
  | 0 => (c0, c0)
  | k + 1 => if need.getD k false = true then (alB L unt k (alA L unt k (alAt L unt need c0 k).1) + 1, if alB L unt k (alA L unt k (alAt L unt need c0 k).1) + 1 > (alAt L unt need c0 k).2 then alB L unt k (alA L unt k (alAt L unt need c0 k).1) + 1 else (alAt L unt need c0 k).2) else alAt L unt need c0 k
theorem alAt_le (L : Lv) (unt : List Int) (need : List Bool) (c0 : Int) : ∀ k : Nat, c0 - k ≤ (alAt L unt need c0 k).1 ∧ (alAt L unt need c0 k).1 ≤ c0 + k
  | 0 => by simp [alAt]
  | k + 1 => by
    have := alAt_le L unt need c0 k
    rw [alAt]
    split
    · simp only [alA, alB]
      split <;> split <;> omega
    · omega
set_option maxHeartbeats 8000000 in
theorem loop_Alive13 (kf : Nat) (x0 x1 x2 x3 y0 y2 y3 y1 : IV) (no : Nat) (c4 c5 : List IV) (L : Lv) (unt : List Int) (need : List Bool) (code : List Ins) (hnd : need.length = code.length) (c0 : Int) (h0 : 0 ≤ c0 ∧ c0 ≤ 100000) (hlen : code.length ≤ 20000) (la : L.a.length = code.length) (lb : L.b.length = code.length)
(hval : ∀ i, i < code.length → need.getD i false = true → (0 ≤ L.a.getD i 0 ∧ L.a.getD i 0 < unt.length) ∧ (0 ≤ L.b.getD i 0 ∧ L.b.getD i 0 < unt.length)) (k : Nat) (l : Ass) (z : Option Out) (hz : loopR Try.prog tab kf none LB49_13 49 108 [4, 6, 8, 38, 39] 7 k l ([.cells 25 [.c x0, .c x1, .c x2, .c x3], .cells 128 (lifeD y0 y1 y2 y3 (.slice (encB need) need.length false none) code.length no unt.length), rI L.a, rI L.b, .row false 3 c4, .row false 3 c5, rI unt]) = z) (hk : code.length < k) (a4 : asc l 4 = .ptr 1 0) (a6 : asc l 6 = ii (alAt L unt need c0 0).1) (a8 : asc l 8 = ii (alAt L unt need c0 0).2) (a38 : asc l 38 = ii code.length) (a39 : asc l 39 = ii 0) :
    ∃ l', z = some (.exit 2 (fr 108 l') ([.cells 25 [.c x0, .c x1, .c x2, .c x3], .cells 128 (lifeD y0 y1 y2 y3 (.slice (encB need) need.length false none) code.length no unt.length), rI L.a, rI L.b, .row false 3 c4, .row false 3 c5, rI unt])) ∧ asc l' 4 = .ptr 1 0 ∧ asc l' 6 = ii (alAt L unt need c0 code.length).1 ∧ asc l' 8 = ii (alAt L unt need c0 code.length).2 ∧ asc l' 38 = ii code.length ∧ asc l' 39 = ii code.length := by
  subst hz
  refine loop_nat code.length (fun k l H => loopR Try.prog tab kf none LB49_13 49 108 [4, 6, 8, 38, 39] 7 k l H)
    (fun i l H => asc l 4 = .ptr 1 0 ∧ asc l 6 = ii (alAt L unt need c0 i).1 ∧ asc l 8 = ii (alAt L unt need c0 i).2 ∧ asc l 38 = ii code.length ∧ asc l 39 = ii i ∧ ∃ G, H = ([.cells 25 [.c x0, .c x1, .c x2, .c x3], .cells 128 (lifeD y0 y1 y2 y3 (.slice (encB need) need.length false none) code.length no unt.length), rI L.a, rI L.b, .row false 3 c4, .row false 3 c5, rI unt]) ++ G)
    (fun z => ∃ l', z = some (.exit 2 (fr 108 l') ([.cells 25 [.c x0, .c x1, .c x2, .c x3], .cells 128 (lifeD y0 y1 y2 y3 (.slice (encB need) need.length false none) code.length no unt.length), rI L.a, rI L.b, .row false 3 c4, .row false 3 c5, rI unt])) ∧ asc l' 4 = .ptr 1 0 ∧ asc l' 6 = ii (alAt L unt need c0 code.length).1 ∧ asc l' 8 = ii (alAt L unt need c0 code.length).2 ∧ asc l' 38 = ii code.length ∧ asc l' 39 = ii code.length) ?_ code.length 0 k l _ (by omega) hk ⟨a4, a6, a8, a38, a39, [], by rw [List.append_nil]⟩
  clear hk a4 a6 a8 a38 a39
  rintro i k l H hi ⟨a4, a6, a8, a38, a39, G, rfl⟩
  have ht : trim 7 (fr 108 (keep l [4, 6, 8, 38, 39])) (([.cells 25 [.c x0, .c x1, .c x2, .c x3], .cells 128 (lifeD y0 y1 y2 y3 (.slice (encB need) need.length false none) code.length no unt.length), rI L.a, rI L.b, .row false 3 c4, .row false 3 c5, rI unt]) ++ G) = ([.cells 25 [.c x0, .c x1, .c x2, .c x3], .cells 128 (lifeD y0 y1 y2 y3 (.slice (encB need) need.length false none) code.length no unt.length), rI L.a, rI L.b, .row false 3 c4, .row false 3 c5, rI unt]) := trim_app (by simp) (by simp only [a4, a6, a8, a38, a39, EVb, EVc, Int.reduceEq, Int.reduceToNat, Int.reduceLE, Int.reduceLT, Int.reduceAdd, Int.reduceMul, Int.reduceSub, Int.reduceNeg, Nat.reduceAdd, Nat.reduceSub, Nat.reduceMul, Nat.reduceLT, Nat.reduceBEq, Nat.reduceEqDiff, Nat.reduceLeDiff]) (by simp only [EVb, EVc, Int.reduceEq, Int.reduceToNat, Int.reduceLE, Int.reduceLT, Int.reduceAdd, Int.reduceMul, Int.reduceSub, Int.reduceNeg, Nat.reduceAdd, Nat.reduceSub, Nat.reduceMul, Nat.reduceLT, Nat.reduceBEq, Nat.reduceEqDiff, Nat.reduceLeDiff])
  by_cases hc : i < code.length
  · have hc' : (i : Int) < ((code.length : Nat) : Int) := by omega
    have hc0 : (0 : Int) ≤ i := by omega
    have hw : IntKind.wrap .i64 ((i : Int) + 1) = ((i + 1 : Nat) : Int) := by rw [wrap64 (by omega) (by omega)]; omega
    have hvl := hval i hc
    have hnb := encB_nat (l := need) (i := i) (by omega)
    have hnl : (encB need).length = code.length := by rw [encB_length, hnd]
    have ga := encInts_getD (l := L.a) (r := (i : Int)) hc0 (by omega)
    have gb := encInts_getD (l := L.b) (r := (i : Int)) hc0 (by omega)
    rw [Int.toNat_natCast] at ga gb
    have eal := encInts_length L.a
    have ebl := encInts_length L.b
    have eul := encInts_length unt
    have hle := alAt_le L unt need c0 i
    cases hni : need.getD i false with
    | false =>
      rw [hni] at hnb
      have e : alAt L unt need c0 (i + 1) = alAt L unt need c0 i := by rw [alAt, hni, if_neg (by simp)]
      rw [e]
      simp only [loopR_succ, ht]
      simp only [a4, a6, a8, a38, a39, hc', hc0, hw, hnb, hnl, hnd, loopR_succ, loopOf, findLoop, firstRegion, Option.some_or, Option.none_or, Option.getD_some, Option.some.injEq, Try.f49, EVb, EVc, Int.reduceEq, Int.reduceToNat, Int.reduceLE, Int.reduceLT, Int.reduceAdd, Int.reduceMul, Int.reduceSub, Int.reduceNeg, Nat.reduceAdd, Nat.reduceSub, Nat.reduceMul, Nat.reduceLT, Nat.reduceBEq, Nat.reduceEqDiff, Nat.reduceLeDiff, FACTS, TYPES]
      refine .inr ⟨_, _, hc, rfl, (by rfl), (by rfl), (by rfl), (by rfl), (by rfl), ?_⟩
      exact ⟨_, by rfl⟩
    | true =>
      rw [hni] at hnb
      obtain ⟨⟨va0, va1⟩, ⟨vb0, vb1⟩⟩ := hvl hni
      have uA := encInts_getD (l := unt) va0 va1
      have uB := encInts_getD (l := unt) vb0 vb1
      have e : alAt L unt need c0 (i + 1) = (alB L unt i (alA L unt i (alAt L unt need c0 i).1) + 1, if alB L unt i (alA L unt i (alAt L unt need c0 i).1) + 1 > (alAt L unt need c0 i).2 then alB L unt i (alA L unt i (alAt L unt need c0 i).1) + 1 else (alAt L unt need c0 i).2) := by rw [alAt, if_pos hni]
      rw [e]
      obtain ⟨N, hN⟩ : ∃ N, N = alAt L unt need c0 i := ⟨_, rfl⟩
      rw [← hN] at hle a6 a8 ⊢
      obtain ⟨N1, N2⟩ := N
      simp only at hle a6 a8 ⊢
      have hwA : IntKind.wrap .i64 (N1 - 1) = N1 - 1 := by rw [wrap64 (by omega) (by omega)]
      have hwB : IntKind.wrap .i64 (N1 - 1 - 1) = N1 - 1 - 1 := by rw [wrap64 (by omega) (by omega)]
      have hwC : IntKind.wrap .i64 (N1 + 1) = N1 + 1 := by rw [wrap64 (by omega) (by omega)]
      have hwD : IntKind.wrap .i64 (N1 - 1 + 1) = N1 - 1 + 1 := by rw [wrap64 (by omega) (by omega)]
      have hwE : IntKind.wrap .i64 (N1 - 1 - 1 + 1) = N1 - 1 - 1 + 1 := by rw [wrap64 (by omega) (by omega)]
      by_cases hA : unt.getD (L.a.getD i 0).toNat 0 = i
      · by_cases hab : L.b.getD i 0 = L.a.getD i 0
        · have hB := hA
          have e3 : alB L unt i (alA L unt i N1) = N1 - 1 := by simp only [alA, alB, hA, hab, hB, ne_eq, not_true, not_false_eq_true, true_and, false_and, and_self, and_true, if_true, if_false]
          rw [e3]
          simp only [loopR_succ, ht]
          simp only [a4, a6, a8, a38, a39, hc', hc0, hw, hnb, hnl, hnd, loopR_succ, loopOf, findLoop, firstRegion, Option.some_or, Option.none_or, Option.getD_some, Option.some.injEq, Try.f49, EVb, EVc, Int.reduceEq, Int.reduceToNat, Int.reduceLE, Int.reduceLT, Int.reduceAdd, Int.reduceMul, Int.reduceSub, Int.reduceNeg, Nat.reduceAdd, Nat.reduceSub, Nat.reduceMul, Nat.reduceLT, Nat.reduceBEq, Nat.reduceEqDiff, Nat.reduceLeDiff, FACTS, TYPES]
          rw [evalCode_drawn Try.f49 16 dr49_16]; rotate_left; rfl
          simp only [a4, a6, a8, a38, a39, hc', hc0, hw, ga, eal, la, eul, va0, va1, uA, hA, EVd, Nat.reducePow, Nat.reduceDiv, Nat.reduceMod, EVb, EVc, Int.reduceEq, Int.reduceToNat, Int.reduceLE, Int.reduceLT, Int.reduceAdd, Int.reduceMul, Int.reduceSub, Int.reduceNeg, Nat.reduceAdd, Nat.reduceSub, Nat.reduceMul, Nat.reduceLT, Nat.reduceBEq, Nat.reduceEqDiff, Nat.reduceLeDiff, FACTS, TYPES]
          rw [evalCode_drawn Try.f49 18 dr49_18]; rotate_left; rfl
          simp only [a4, a6, a8, a38, a39, hc', hc0, hw, ga, gb, eal, ebl, la, lb, eul, va0, va1, vb0, vb1, uA, uB, hA, hB, hab, EVd, Nat.reducePow, Nat.reduceDiv, Nat.reduceMod, EVb, EVc, Int.reduceEq, Int.reduceToNat, Int.reduceLE, Int.reduceLT, Int.reduceAdd, Int.reduceMul, Int.reduceSub, Int.reduceNeg, Nat.reduceAdd, Nat.reduceSub, Nat.reduceMul, Nat.reduceLT, Nat.reduceBEq, Nat.reduceEqDiff, Nat.reduceLeDiff, FACTS, TYPES]
          try simp only [a4, a6, a8, a38, a39, hc', hc0, hw, hwA, hwB, hwC, hwD, hwE, EVb, EVc, Int.reduceEq, Int.reduceToNat, Int.reduceLE, Int.reduceLT, Int.reduceAdd, Int.reduceMul, Int.reduceSub, Int.reduceNeg, Nat.reduceAdd, Nat.reduceSub, Nat.reduceMul, Nat.reduceLT, Nat.reduceBEq, Nat.reduceEqDiff, Nat.reduceLeDiff, FACTS, TYPES]
          refine .inr ⟨_, _, hc, rfl, (by rfl), (by rfl), (by rfl), (by rfl), (by rfl), ?_⟩
          exact ⟨_, by rfl⟩
        · by_cases hB : unt.getD (L.b.getD i 0).toNat 0 = i
          · have e3 : alB L unt i (alA L unt i N1) = N1 - 1 - 1 := by simp only [alA, alB, hA, hab, hB, ne_eq, not_true, not_false_eq_true, true_and, false_and, and_self, and_true, if_true, if_false]
            rw [e3]
            simp only [loopR_succ, ht]
            simp only [a4, a6, a8, a38, a39, hc', hc0, hw, hnb, hnl, hnd, loopR_succ, loopOf, findLoop, firstRegion, Option.some_or, Option.none_or, Option.getD_some, Option.some.injEq, Try.f49, EVb, EVc, Int.reduceEq, Int.reduceToNat, Int.reduceLE, Int.reduceLT, Int.reduceAdd, Int.reduceMul, Int.reduceSub, Int.reduceNeg, Nat.reduceAdd, Nat.reduceSub, Nat.reduceMul, Nat.reduceLT, Nat.reduceBEq, Nat.reduceEqDiff, Nat.reduceLeDiff, FACTS, TYPES]
            rw [evalCode_drawn Try.f49 16 dr49_16]; rotate_left; rfl
            simp only [a4, a6, a8, a38, a39, hc', hc0, hw, ga, eal, la, eul, va0, va1, uA, hA, EVd, Nat.reducePow, Nat.reduceDiv, Nat.reduceMod, EVb, EVc, Int.reduceEq, Int.reduceToNat, Int.reduceLE, Int.reduceLT, Int.reduceAdd, Int.reduceMul, Int.reduceSub, Int.reduceNeg, Nat.reduceAdd, Nat.reduceSub, Nat.reduceMul, Nat.reduceLT, Nat.reduceBEq, Nat.reduceEqDiff, Nat.reduceLeDiff, FACTS, TYPES]
            rw [evalCode_drawn Try.f49 18 dr49_18]; rotate_left; rfl
            simp only [a4, a6, a8, a38, a39, hc', hc0, hw, ga, gb, eal, ebl, la, lb, eul, va0, va1, vb0, vb1, uA, uB, hA, hB, hab, EVd, Nat.reducePow, Nat.reduceDiv, Nat.reduceMod, EVb, EVc, Int.reduceEq, Int.reduceToNat, Int.reduceLE, Int.reduceLT, Int.reduceAdd, Int.reduceMul, Int.reduceSub, Int.reduceNeg, Nat.reduceAdd, Nat.reduceSub, Nat.reduceMul, Nat.reduceLT, Nat.reduceBEq, Nat.reduceEqDiff, Nat.reduceLeDiff, FACTS, TYPES]
            try simp only [a4, a6, a8, a38, a39, hc', hc0, hw, hwA, hwB, hwC, hwD, hwE, EVb, EVc, Int.reduceEq, Int.reduceToNat, Int.reduceLE, Int.reduceLT, Int.reduceAdd, Int.reduceMul, Int.reduceSub, Int.reduceNeg, Nat.reduceAdd, Nat.reduceSub, Nat.reduceMul, Nat.reduceLT, Nat.reduceBEq, Nat.reduceEqDiff, Nat.reduceLeDiff, FACTS, TYPES]
            refine .inr ⟨_, _, hc, rfl, (by rfl), (by rfl), (by rfl), (by rfl), (by rfl), ?_⟩
            exact ⟨_, by rfl⟩
          · have e3 : alB L unt i (alA L unt i N1) = N1 - 1 := by simp only [alA, alB, hA, hab, hB, ne_eq, not_true, not_false_eq_true, true_and, false_and, and_self, and_true, if_true, if_false]
            rw [e3]
            simp only [loopR_succ, ht]
            simp only [a4, a6, a8, a38, a39, hc', hc0, hw, hnb, hnl, hnd, loopR_succ, loopOf, findLoop, firstRegion, Option.some_or, Option.none_or, Option.getD_some, Option.some.injEq, Try.f49, EVb, EVc, Int.reduceEq, Int.reduceToNat, Int.reduceLE, Int.reduceLT, Int.reduceAdd, Int.reduceMul, Int.reduceSub, Int.reduceNeg, Nat.reduceAdd, Nat.reduceSub, Nat.reduceMul, Nat.reduceLT, Nat.reduceBEq, Nat.reduceEqDiff, Nat.reduceLeDiff, FACTS, TYPES]
            rw [evalCode_drawn Try.f49 16 dr49_16]; rotate_left; rfl
            simp only [a4, a6, a8, a38, a39, hc', hc0, hw, ga, eal, la, eul, va0, va1, uA, hA, EVd, Nat.reducePow, Nat.reduceDiv, Nat.reduceMod, EVb, EVc, Int.reduceEq, Int.reduceToNat, Int.reduceLE, Int.reduceLT, Int.reduceAdd, Int.reduceMul, Int.reduceSub, Int.reduceNeg, Nat.reduceAdd, Nat.reduceSub, Nat.reduceMul, Nat.reduceLT, Nat.reduceBEq, Nat.reduceEqDiff, Nat.reduceLeDiff, FACTS, TYPES]
            rw [evalCode_drawn Try.f49 18 dr49_18]; rotate_left; rfl
            simp only [a4, a6, a8, a38, a39, hc', hc0, hw, ga, gb, eal, ebl, la, lb, eul, va0, va1, vb0, vb1, uA, uB, hA, hB, hab, EVd, Nat.reducePow, Nat.reduceDiv, Nat.reduceMod, EVb, EVc, Int.reduceEq, Int.reduceToNat, Int.reduceLE, Int.reduceLT, Int.reduceAdd, Int.reduceMul, Int.reduceSub, Int.reduceNeg, Nat.reduceAdd, Nat.reduceSub, Nat.reduceMul, Nat.reduceLT, Nat.reduceBEq, Nat.reduceEqDiff, Nat.reduceLeDiff, FACTS, TYPES]
            try simp only [a4, a6, a8, a38, a39, hc', hc0, hw, hwA, hwB, hwC, hwD, hwE, EVb, EVc, Int.reduceEq, Int.reduceToNat, Int.reduceLE, Int.reduceLT, Int.reduceAdd, Int.reduceMul, Int.reduceSub, Int.reduceNeg, Nat.reduceAdd, Nat.reduceSub, Nat.reduceMul, Nat.reduceLT, Nat.reduceBEq, Nat.reduceEqDiff, Nat.reduceLeDiff, FACTS, TYPES]
            refine .inr ⟨_, _, hc, rfl, (by rfl), (by rfl), (by rfl), (by rfl), (by rfl), ?_⟩
            exact ⟨_, by rfl⟩
      · by_cases hab : L.b.getD i 0 = L.a.getD i 0
        · have hB := hA
          have e3 : alB L unt i (alA L unt i N1) = N1 := by simp only [alA, alB, hA, hab, hB, ne_eq, not_true, not_false_eq_true, true_and, false_and, and_self, and_true, if_true, if_false]
          rw [e3]
          simp only [loopR_succ, ht]
          simp only [a4, a6, a8, a38, a39, hc', hc0, hw, hnb, hnl, hnd, loopR_succ, loopOf, findLoop, firstRegion, Option.some_or, Option.none_or, Option.getD_some, Option.some.injEq, Try.f49, EVb, EVc, Int.reduceEq, Int.reduceToNat, Int.reduceLE, Int.reduceLT, Int.reduceAdd, Int.reduceMul, Int.reduceSub, Int.reduceNeg, Nat.reduceAdd, Nat.reduceSub, Nat.reduceMul, Nat.reduceLT, Nat.reduceBEq, Nat.reduceEqDiff, Nat.reduceLeDiff, FACTS, TYPES]
          rw [evalCode_drawn Try.f49 16 dr49_16]; rotate_left; rfl
          simp only [a4, a6, a8, a38, a39, hc', hc0, hw, ga, eal, la, eul, va0, va1, uA, hA, EVd, Nat.reducePow, Nat.reduceDiv, Nat.reduceMod, EVb, EVc, Int.reduceEq, Int.reduceToNat, Int.reduceLE, Int.reduceLT, Int.reduceAdd, Int.reduceMul, Int.reduceSub, Int.reduceNeg, Nat.reduceAdd, Nat.reduceSub, Nat.reduceMul, Nat.reduceLT, Nat.reduceBEq, Nat.reduceEqDiff, Nat.reduceLeDiff, FACTS, TYPES]
          rw [evalCode_drawn Try.f49 18 dr49_18]; rotate_left; rfl
          simp only [a4, a6, a8, a38, a39, hc', hc0, hw, ga, gb, eal, ebl, la, lb, eul, va0, va1, vb0, vb1, uA, uB, hA, hB, hab, EVd, Nat.reducePow, Nat.reduceDiv, Nat.reduceMod, EVb, EVc, Int.reduceEq, Int.reduceToNat, Int.reduceLE, Int.reduceLT, Int.reduceAdd, Int.reduceMul, Int.reduceSub, Int.reduceNeg, Nat.reduceAdd, Nat.reduceSub, Nat.reduceMul, Nat.reduceLT, Nat.reduceBEq, Nat.reduceEqDiff, Nat.reduceLeDiff, FACTS, TYPES]
          try simp only [a4, a6, a8, a38, a39, hc', hc0, hw, hwA, hwB, hwC, hwD, hwE, EVb, EVc, Int.reduceEq, Int.reduceToNat, Int.reduceLE, Int.reduceLT, Int.reduceAdd, Int.reduceMul, Int.reduceSub, Int.reduceNeg, Nat.reduceAdd, Nat.reduceSub, Nat.reduceMul, Nat.reduceLT, Nat.reduceBEq, Nat.reduceEqDiff, Nat.reduceLeDiff, FACTS, TYPES]
          refine .inr ⟨_, _, hc, rfl, (by rfl), (by rfl), (by rfl), (by rfl), (by rfl), ?_⟩
          exact ⟨_, by rfl⟩
        · by_cases hB : unt.getD (L.b.getD i 0).toNat 0 = i
          · have e3 : alB L unt i (alA L unt i N1) = N1 - 1 := by simp only [alA, alB, hA, hab, hB, ne_eq, not_true, not_false_eq_true, true_and, false_and, and_self, and_true, if_true, if_false]
            rw [e3]
            simp only [loopR_succ, ht]
            simp only [a4, a6, a8, a38, a39, hc', hc0, hw, hnb, hnl, hnd, loopR_succ, loopOf, findLoop, firstRegion, Option.some_or, Option.none_or, Option.getD_some, Option.some.injEq, Try.f49, EVb, EVc, Int.reduceEq, Int.reduceToNat, Int.reduceLE, Int.reduceLT, Int.reduceAdd, Int.reduceMul, Int.reduceSub, Int.reduceNeg, Nat.reduceAdd, Nat.reduceSub, Nat.reduceMul, Nat.reduceLT, Nat.reduceBEq, Nat.reduceEqDiff, Nat.reduceLeDiff, FACTS, TYPES]
            rw [evalCode_drawn Try.f49 16 dr49_16]; rotate_left; rfl
            simp only [a4, a6, a8, a38, a39, hc', hc0, hw, ga, eal, la, eul, va0, va1, uA, hA, EVd, Nat.reducePow, Nat.reduceDiv, Nat.reduceMod, EVb, EVc, Int.reduceEq, Int.reduceToNat, Int.reduceLE, Int.reduceLT, Int.reduceAdd, Int.reduceMul, Int.reduceSub, Int.reduceNeg, Nat.reduceAdd, Nat.reduceSub, Nat.reduceMul, Nat.reduceLT, Nat.reduceBEq, Nat.reduceEqDiff, Nat.reduceLeDiff, FACTS, TYPES]
            rw [evalCode_drawn Try.f49 18 dr49_18]; rotate_left; rfl
            simp only [a4, a6, a8, a38, a39, hc', hc0, hw, ga, gb, eal, ebl, la, lb, eul, va0, va1, vb0, vb1, uA, uB, hA, hB, hab, EVd, Nat.reducePow, Nat.reduceDiv, Nat.reduceMod, EVb, EVc, Int.reduceEq, Int.reduceToNat, Int.reduceLE, Int.reduceLT, Int.reduceAdd, Int.reduceMul, Int.reduceSub, Int.reduceNeg, Nat.reduceAdd, Nat.reduceSub, Nat.reduceMul, Nat.reduceLT, Nat.reduceBEq, Nat.reduceEqDiff, Nat.reduceLeDiff, FACTS, TYPES]
            try simp only [a4, a6, a8, a38, a39, hc', hc0, hw, hwA, hwB, hwC, hwD, hwE, EVb, EVc, Int.reduceEq, Int.reduceToNat, Int.reduceLE, Int.reduceLT, Int.reduceAdd, Int.reduceMul, Int.reduceSub, Int.reduceNeg, Nat.reduceAdd, Nat.reduceSub, Nat.reduceMul, Nat.reduceLT, Nat.reduceBEq, Nat.reduceEqDiff, Nat.reduceLeDiff, FACTS, TYPES]
            refine .inr ⟨_, _, hc, rfl, (by rfl), (by rfl), (by rfl), (by rfl), (by rfl), ?_⟩
            exact ⟨_, by rfl⟩
          · have e3 : alB L unt i (alA L unt i N1) = N1 := by simp only [alA, alB, hA, hab, hB, ne_eq, not_true, not_false_eq_true, true_and, false_and, and_self, and_true, if_true, if_false]
            rw [e3]
            simp only [loopR_succ, ht]
            simp only [a4, a6, a8, a38, a39, hc', hc0, hw, hnb, hnl, hnd, loopR_succ, loopOf, findLoop, firstRegion, Option.some_or, Option.none_or, Option.getD_some, Option.some.injEq, Try.f49, EVb, EVc, Int.reduceEq, Int.reduceToNat, Int.reduceLE, Int.reduceLT, Int.reduceAdd, Int.reduceMul, Int.reduceSub, Int.reduceNeg, Nat.reduceAdd, Nat.reduceSub, Nat.reduceMul, Nat.reduceLT, Nat.reduceBEq, Nat.reduceEqDiff, Nat.reduceLeDiff, FACTS, TYPES]
            rw [evalCode_drawn Try.f49 16 dr49_16]; rotate_left; rfl
            simp only [a4, a6, a8, a38, a39, hc', hc0, hw, ga, eal, la, eul, va0, va1, uA, hA, EVd, Nat.reducePow, Nat.reduceDiv, Nat.reduceMod, EVb, EVc, Int.reduceEq, Int.reduceToNat, Int.reduceLE, Int.reduceLT, Int.reduceAdd, Int.reduceMul, Int.reduceSub, Int.reduceNeg, Nat.reduceAdd, Nat.reduceSub, Nat.reduceMul, Nat.reduceLT, Nat.reduceBEq, Nat.reduceEqDiff, Nat.reduceLeDiff, FACTS, TYPES]
            rw [evalCode_drawn Try.f49 18 dr49_18]; rotate_left; rfl
            simp only [a4, a6, a8, a38, a39, hc', hc0, hw, ga, gb, eal, ebl, la, lb, eul, va0, va1, vb0, vb1, uA, uB, hA, hB, hab, EVd, Nat.reducePow, Nat.reduceDiv, Nat.reduceMod, EVb, EVc, Int.reduceEq, Int.reduceToNat, Int.reduceLE, Int.reduceLT, Int.reduceAdd, Int.reduceMul, Int.reduceSub, Int.reduceNeg, Nat.reduceAdd, Nat.reduceSub, Nat.reduceMul, Nat.reduceLT, Nat.reduceBEq, Nat.reduceEqDiff, Nat.reduceLeDiff, FACTS, TYPES]
            try simp only [a4, a6, a8, a38, a39, hc', hc0, hw, hwA, hwB, hwC, hwD, hwE, EVb, EVc, Int.reduceEq, Int.reduceToNat, Int.reduceLE, Int.reduceLT, Int.reduceAdd, Int.reduceMul, Int.reduceSub, Int.reduceNeg, Nat.reduceAdd, Nat.reduceSub, Nat.reduceMul, Nat.reduceLT, Nat.reduceBEq, Nat.reduceEqDiff, Nat.reduceLeDiff, FACTS, TYPES]
            refine .inr ⟨_, _, hc, rfl, (by rfl), (by rfl), (by rfl), (by rfl), (by rfl), ?_⟩
            exact ⟨_, by rfl⟩
  · refine .inl ?_
    obtain rfl : i = code.length := by omega
    have hc' : ¬ (((code.length : Nat) : Int) < ((code.length : Nat) : Int)) := by omega
    simp only [loopR_succ, ht]
    simp only [a4, a6, a8, a38, a39, hc', loopR_succ, loopOf, findLoop, firstRegion, Option.some_or, Option.none_or, Option.getD_some, Option.some.injEq, Try.f49, EVb, EVc, Int.reduceEq, Int.reduceToNat, Int.reduceLE, Int.reduceLT, Int.reduceAdd, Int.reduceMul, Int.reduceSub, Int.reduceNeg, Nat.reduceAdd, Nat.reduceSub, Nat.reduceMul, Nat.reduceLT, Nat.reduceBEq, Nat.reduceEqDiff, Nat.reduceLeDiff, FACTS, TYPES]
    exact ⟨_, rfl, (by rfl), (by rfl), (by rfl), (by rfl), (by rfl)⟩

end Go.Proofs.Sw
namespace Go.Proofs.Sw
set_option linter.unusedVariables false
set_option linter.unusedSimpArgs false
set_option linter.unusedSectionVars false
open Go.Ab
variable [Globals]
theorem Alive_bad (k : Nat) (p : Pg) (nl : Bool) (cap : Option Nat) (nl2 : Bool) (cap2 : Option Nat) (hk : p.outs.length + p.code.length + 110 ≤ k) (hr : rightM p = false) :
    ∃ G, evalT Try.prog (mkHints tab) (k+3) (.fn 49) [aP p nl cap nl2 cap2] [] = some (.tup [ii 0, ii 80], G) := by
  obtain ⟨G, hc⟩ := lives_bad k p nl cap nl2 cap2 hk hr
  simp only [aP, ii] at hc
  rw [ev49]
  simp only [Try.f49, aP, ii, hc, EVb, EVc, Int.reduceEq, Int.reduceToNat, Int.reduceLE, Int.reduceLT, Int.reduceAdd, Int.reduceMul, Int.reduceSub, Int.reduceNeg, Nat.reduceAdd, Nat.reduceSub, Nat.reduceMul, Nat.reduceLT, Nat.reduceBEq, Nat.reduceEqDiff, Nat.reduceLeDiff, FACTS, TYPES]
  exact ⟨_, rfl⟩
/-- How many values a program needs at once. -/
def aliveM (p : Pg) : Int := (alAt (lvEnd p) (untM p) (neededM p) (alive0 (untM p) (p.ins.toNat + 1)) p.code.length).2
theorem Alive_ev (k : Nat) (ins : Int) (n : Nat) (code : List Ins) (outs : List Int) (nl : Bool) (cap : Option Nat) (nl2 : Bool) (cap2 : Option Nat) (hk : outs.length + code.length + 3000 ≤ k) (hr : rightM ⟨ins, n, code, outs⟩ = true) :
    ∃ G, evalT Try.prog (mkHints tab) (k+3) (.fn 49) [aP ⟨ins, n, code, outs⟩ nl cap nl2 cap2] [] = some (.tup [ii (aliveM ⟨ins, n, code, outs⟩), ii 0], G) := by
  obtain ⟨X0, hL⟩ := lives_ev k ins n code outs nl cap nl2 cap2 (by omega) hr
  have hr' := hr
  simp only [rightM, headM, Bool.and_eq_true, decide_eq_true_eq] at hr'
  obtain ⟨⟨hh, ho⟩, hc⟩ := hr'
  obtain ⟨g, rfl⟩ : ∃ g : Nat, ins = g := ⟨ins.toNat, by omega⟩
  obtain ⟨P, hP⟩ : ∃ P : Pg, P = ⟨(g : Int), n, code, outs⟩ := ⟨_, rfl⟩
  have hule : (untM P).length = (lvEnd P).unt.length := untO_length _ _ _ _
  have hule2 := hule
  rw [hP] at hule2
  rw [← hule2] at hL
  have hok0 : LvOk (lvStart (g : Int) n code.length) n code.length := lvStart_ok (by omega)
  have hok : LvOk (lvEnd P) n code.length := by rw [hP]; exact (lvAt_ok hok0 _).1
  have hug : g < (untM P).length ∧ (untM P).length ≤ g + 1 + code.length := by
    rw [hule, hP]
    have h1 := (lvAt_ok (need := neededM ⟨(g : Int), n, code, outs⟩) (code := code) hok0 code.length).2
    have h2 : ∀ i, g + 1 ≤ (lvAt (lvStart (g : Int) n code.length) (neededM ⟨(g : Int), n, code, outs⟩) code i).unt.length := by
      intro i
      induction i with
      | zero => simp [lvAt, lvStart]
      | succ i ih => exact Nat.le_trans ih (lv_unt_mono i)
    have h3 := h2 code.length
    simp only [lvStart, List.length_replicate, Int.toNat_natCast] at h1
    exact ⟨h3, h1⟩
  have hvalX : ∀ i, i < code.length → (neededM P).getD i false = true → (0 ≤ (lvEnd P).a.getD i 0 ∧ (lvEnd P).a.getD i 0 < (untM P).length) ∧ (0 ≤ (lvEnd P).b.getD i 0 ∧ (lvEnd P).b.getD i 0 < (untM P).length) := by
    intro i hi hn
    subst hP
    have hm0 : mayM code[i] (n : Int) = true := List.all_eq_true.1 hc code[i] (List.getElem_mem hi)
    have hm := mayM_facts hm0
    obtain ⟨_, _, m5, m7⟩ := hm
    have ha := lv_at hok0 (List.getElem?_eq_getElem hi) hn code.length hi (Nat.le_refl _)
    obtain ⟨hk, hkl⟩ := lvAt_ok (need := neededM ⟨(g : Int), n, code, outs⟩) (code := code) hok0 i
    have hmono : ∀ j, (lvAt (lvStart (g : Int) n code.length) (neededM ⟨(g : Int), n, code, outs⟩) code i).unt.length ≤ (lvAt (lvStart (g : Int) n code.length) (neededM ⟨(g : Int), n, code, outs⟩) code (i + j)).unt.length := by
      intro j
      induction j with
      | zero => exact Nat.le_refl _
      | succ j ih => exact Nat.le_trans ih (lv_unt_mono _)
    have hm2 := hmono (code.length - i)
    rw [show i + (code.length - i) = code.length by omega] at hm2
    have v1 := hk.vals _ (getD_mem (show (code[i].a).toNat < _ by rw [hk.held]; omega))
    have v2 := lvB_ok hk m5 m7
    rw [hule]
    have w1 : (lvEnd ⟨(g : Int), n, code, outs⟩).a.getD i 0 = _ := ha.1
    have w2 : (lvEnd ⟨(g : Int), n, code, outs⟩).b.getD i 0 = _ := ha.2.1
    rw [w1, w2]
    exact ⟨⟨v1.1, Int.lt_of_lt_of_le v1.2 (Int.ofNat_le.2 hm2)⟩, v2.1, Int.lt_of_lt_of_le v2.2 (Int.ofNat_le.2 hm2)⟩
  simp only [aP, ii, sC, sI, sB, rI, hI] at hL
  rw [ev49]
  simp only [Try.f49, aP, ii, hL, EVb, EVc, Int.reduceEq, Int.reduceToNat, Int.reduceLE, Int.reduceLT, Int.reduceAdd, Int.reduceMul, Int.reduceSub, Int.reduceNeg, Nat.reduceAdd, Nat.reduceSub, Nat.reduceMul, Nat.reduceLT, Nat.reduceBEq, Nat.reduceEqDiff, Nat.reduceLeDiff, FACTS, TYPES]
  have hwg : IntKind.wrap .i64 ((g : Int) + 1) = ((g + 1 : Nat) : Int) := by rw [wrap64 (by omega) (by omega)]; omega
  rw [hwg]
  rw [evalCode_loopB LB49_6 lp49_6]; rotate_left; rfl; rfl; rfl
  generalize hz : loopR _ _ _ _ _ _ _ _ _ _ _ _ = z
  rw [hP] at hug hvalX hok
  obtain ⟨hug1, hug2⟩ := hug
  obtain ⟨unt, hunt⟩ : ∃ unt, unt = untM ⟨(g : Int), n, code, outs⟩ := ⟨_, rfl⟩
  rw [← hunt] at hug1 hug2 hz hvalX
  obtain ⟨l1, rfl, e1, e4, e6, _, _⟩ := loop_Alive6 (k + 2) _ _ _ _ _ _ _ _ _ code.length outs.length _ _ _ _ unt (g + 1) (by omega) (by omega) _ _ z hz (by omega) (by rfl) (by rfl) (by rfl) (by rfl) (by rfl)
  clear hz
  simp only [e1, e4, e6, EVb, EVc, Int.reduceEq, Int.reduceToNat, Int.reduceLE, Int.reduceLT, Int.reduceAdd, Int.reduceMul, Int.reduceSub, Int.reduceNeg, Nat.reduceAdd, Nat.reduceSub, Nat.reduceMul, Nat.reduceLT, Nat.reduceBEq, Nat.reduceEqDiff, Nat.reduceLeDiff, FACTS, TYPES]
  rw [evalCode_loopB LB49_13 lp49_13]; rotate_left; rfl; rfl; rfl
  generalize hz : loopR _ _ _ _ _ _ _ _ _ _ _ _ = z
  have ha0 := alive0_le unt (g + 1)
  obtain ⟨l2, rfl, f4, f6, f8, _, _⟩ := loop_Alive13 (k + 2) _ _ _ _ _ _ _ _ outs.length _ _ (lvEnd ⟨(g : Int), n, code, outs⟩) unt (neededM ⟨(g : Int), n, code, outs⟩) code (needL_len2 _ _) (alive0 unt (g + 1)) (by omega) (by omega) hok.a hok.b hvalX _ _ z hz (by omega) (by exact e4) (by exact e6) (by rfl) (by rfl) (by rfl)
  clear hz
  simp only [f4, f6, f8, EVb, EVc, Int.reduceEq, Int.reduceToNat, Int.reduceLE, Int.reduceLT, Int.reduceAdd, Int.reduceMul, Int.reduceSub, Int.reduceNeg, Nat.reduceAdd, Nat.reduceSub, Nat.reduceMul, Nat.reduceLT, Nat.reduceBEq, Nat.reduceEqDiff, Nat.reduceLeDiff, FACTS, TYPES]
  have : aliveM ⟨(g : Int), n, code, outs⟩ = (alAt (lvEnd ⟨(g : Int), n, code, outs⟩) unt (neededM ⟨(g : Int), n, code, outs⟩) (alive0 unt (g + 1)) code.length).2 := by rw [hunt]; rfl
  rw [this]
  exact ⟨_, by rfl⟩
end Go.Proofs.Sw
