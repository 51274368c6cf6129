/- A part of the proof: what functions of the program answer; conditions stand in each theorem. -/
import Derived.Test.YtefdgfdahmaciaaVG
import Derived.Test.YtefdgfdahmaciaaVC
import Derived.Test.YtefdgfdahmaciaaVD
import Derived.Test.YtefdgfdahmaciaaVA
import Derived.Test.YtefdgfdahmaciaaAbArgs
import Derived.SizedLaws
set_option linter.unusedVariables false
set_option linter.unusedSimpArgs false
set_option linter.unusedSectionVars false
namespace Go.Proofs.Sw
open Go.Ab
variable [Globals]
theorem bd125 (a : Nat) : buildA Try.prog 125 [(0, .hmap a)] = some (.agg [.hmap a, .c (.slice [] 0 true (some 0))]) := by kernel_rfl
theorem bd25p (a b : Int) : buildA Try.prog 25 [(0, .c (.int .i64 a)), (1, .c (.int .i64 b))] = some (.agg [.c (.int .i64 a), .c (.int .i64 b), .c (.slice [] 0 true (some 0)), .c (.slice [] 0 true (some 0))]) := by kernel_rfl
theorem Pack_ev (k : Nat) (ins : Int) (n : Nat) (code : List Ins) (outs : List Int) (nl : Bool) (cap : Option Nat) (nl2 : Bool) (cap2 : Option Nat) (hk : outs.length + code.length + 3000 ≤ k) (hr : rightM ⟨ins, n, code, outs⟩ = true) :
    ∃ X, evalT Try.prog (mkHints tab) (k+3) (.fn 44) [aP ⟨ins, n, code, outs⟩ nl cap nl2 cap2] [] =
      some (.tup [.agg [ii ins, ii (packM ⟨ins, n, code, outs⟩).regs, lv 0 5 (packM ⟨ins, n, code, outs⟩).code.length, hI 1 outs.length], ii 0], cdO (packM ⟨ins, n, code, outs⟩).code :: rI (packM ⟨ins, n, code, outs⟩).outs :: X) := by
  obtain ⟨X0, hL⟩ := lives_ev k ins n code outs nl cap nl2 cap2 (by omega) hr
  have hr' := hr
  simp only [rightM, headM, Bool.and_eq_true, decide_eq_true_eq] at hr'
  obtain ⟨⟨hh, ho⟩, hc⟩ := hr'
  obtain ⟨g, rfl⟩ : ∃ g : Nat, ins = g := ⟨ins.toNat, by omega⟩
  obtain ⟨P, hP⟩ : ∃ P : Pg, P = ⟨(g : Int), n, code, outs⟩ := ⟨_, rfl⟩
  have hule : (untM P).length = (lvEnd P).unt.length := untO_length _ _ _ _
  have hule2 := hule
  rw [hP] at hule2
  rw [← hule2] at hL
  have hok0 : LvOk (lvStart (g : Int) n code.length) n code.length := lvStart_ok (by omega)
  have hok : LvOk (lvEnd P) n code.length := by rw [hP]; exact (lvAt_ok hok0 _).1
  have hug : g < (untM P).length ∧ (untM P).length ≤ g + 1 + code.length := by
    rw [hule, hP]
    have h1 := (lvAt_ok (need := neededM ⟨(g : Int), n, code, outs⟩) (code := code) hok0 code.length).2
    have h2 : ∀ i, g + 1 ≤ (lvAt (lvStart (g : Int) n code.length) (neededM ⟨(g : Int), n, code, outs⟩) code i).unt.length := by
      intro i
      induction i with
      | zero => simp [lvAt, lvStart]
      | succ i ih => exact Nat.le_trans ih (lv_unt_mono i)
    have h3 := h2 code.length
    simp only [lvStart, List.length_replicate, Int.toNat_natCast] at h1
    exact ⟨h3, h1⟩
  have hvalX : ∀ i, i < code.length → (neededM P).getD i false = true → (0 ≤ (lvEnd P).a.getD i 0 ∧ (lvEnd P).a.getD i 0 < (untM P).length) ∧ (0 ≤ (lvEnd P).b.getD i 0 ∧ (lvEnd P).b.getD i 0 < (untM P).length) := by
    intro i hi hn
    subst hP
    have hm0 : mayM code[i] (n : Int) = true := List.all_eq_true.1 hc code[i] (List.getElem_mem hi)
    have hm := mayM_facts hm0
    obtain ⟨_, _, m5, m7⟩ := hm
    have ha := lv_at hok0 (List.getElem?_eq_getElem hi) hn code.length hi (Nat.le_refl _)
    obtain ⟨hk, hkl⟩ := lvAt_ok (need := neededM ⟨(g : Int), n, code, outs⟩) (code := code) hok0 i
    have hmono : ∀ j, (lvAt (lvStart (g : Int) n code.length) (neededM ⟨(g : Int), n, code, outs⟩) code i).unt.length ≤ (lvAt (lvStart (g : Int) n code.length) (neededM ⟨(g : Int), n, code, outs⟩) code (i + j)).unt.length := by
      intro j
      induction j with
      | zero => exact Nat.le_refl _
      | succ j ih => exact Nat.le_trans ih (lv_unt_mono _)
    have hm2 := hmono (code.length - i)
    rw [show i + (code.length - i) = code.length by omega] at hm2
    have v1 := hk.vals _ (getD_mem (show (code[i].a).toNat < _ by rw [hk.held]; omega))
    have v2 := lvB_ok hk m5 m7
    rw [hule]
    have w1 : (lvEnd ⟨(g : Int), n, code, outs⟩).a.getD i 0 = _ := ha.1
    have w2 : (lvEnd ⟨(g : Int), n, code, outs⟩).b.getD i 0 = _ := ha.2.1
    rw [w1, w2]
    exact ⟨⟨v1.1, Int.lt_of_lt_of_le v1.2 (Int.ofNat_le.2 hm2)⟩, v2.1, Int.lt_of_lt_of_le v2.2 (Int.ofNat_le.2 hm2)⟩
  simp only [aP, ii, sC, sI, sB, rI, hI] at hL
  rw [ev44]
  simp only [Try.f44, aP, ii, hL, bd125, FT, Int.reduceEq, Int.reduceToNat, Int.reduceLE, Int.reduceLT, Int.reduceAdd, Int.reduceMul, Int.reduceSub, Int.reduceNeg, Nat.reduceAdd, Nat.reduceSub, Nat.reduceMul, Nat.reduceLT, Nat.reduceBEq, Nat.reduceEqDiff, Nat.reduceLeDiff]
  rw [evalCode_loopB LB44_6 lp44_6]; rotate_left; rfl; rfl; rfl
  generalize hz : loopR _ _ _ _ _ _ _ _ _ _ _ _ = z
  rw [hP] at hug hvalX
  obtain ⟨hug1, hug2⟩ := hug
  have hol : (lOuts ⟨(g : Int), n, code, outs⟩).length = outs.length := outsV_length _ _
  obtain ⟨unt, hunt⟩ : ∃ unt, unt = untM ⟨(g : Int), n, code, outs⟩ := ⟨_, rfl⟩
  rw [← hunt] at hug1 hug2 hz hvalX
  obtain ⟨l1, rfl, e1, e2, e4, e6, _, _⟩ := loop_Pack6 (k + 1) _ _ _ _ _ _ _ _ _ _ _ _ _ code.length outs.length _ _ _ _ unt g hug1 (by omega) _ _ z hz (by omega) (by rfl) (by rfl) (by rfl) (by rfl) (by rfl) (by rfl)
  clear hz
  have hfl := layF_length (unt := unt) (i := g) (by omega)
  have hgp : 0 < g := by omega
  have hul := encInts_length unt
  have hx := encInts_getD (l := unt) (r := (g : Int)) (by omega) (by omega)
  rw [Int.toNat_natCast] at hx
  have hgi : (g : Int) < unt.length := by omega
  have hg0 : (0 : Int) ≤ g := by omega
  simp only [e1, e2, e4, e6, lv_pos (s := 2) (sz := 1) hgp, lo_pos (e := 4) hgp, Nat.mul_one, FT, Int.reduceEq, Int.reduceToNat, Int.reduceLE, Int.reduceLT, Int.reduceAdd, Int.reduceMul, Int.reduceSub, Int.reduceNeg, Nat.reduceAdd, Nat.reduceSub, Nat.reduceMul, Nat.reduceLT, Nat.reduceBEq, Nat.reduceEqDiff, Nat.reduceLeDiff]
  rw [evalCode_drawn Try.f44 10 dr44_10]; rotate_left; rfl
  simp only [e1, e2, e4, e6, hul, hx, hgi, hg0, EVd, List.getElem?_nil, Nat.reducePow, Nat.reduceDiv, Nat.reduceMod, FT, Int.reduceEq, Int.reduceToNat, Int.reduceLE, Int.reduceLT, Int.reduceAdd, Int.reduceMul, Int.reduceSub, Int.reduceNeg, Nat.reduceAdd, Nat.reduceSub, Nat.reduceMul, Nat.reduceLT, Nat.reduceBEq, Nat.reduceEqDiff, Nat.reduceLeDiff]
  obtain ⟨G2, hLay⟩ := lay_evB (k + 1) (layP g) (layF unt g) g (unt.getD g 0) (by intro h; rw [h] at hfl; simp at hfl; omega) (layP_none g) (by omega)
  simp only [hfl, ii, lv_pos (s := 2) (sz := 1) hgp, Nat.mul_one] at hLay
  by_cases hu0 : 0 ≤ unt.getD g 0
  · simp only [hu0, FT, Int.reduceEq, Int.reduceToNat, Int.reduceLE, Int.reduceLT, Int.reduceAdd, Int.reduceMul, Int.reduceSub, Int.reduceNeg, Nat.reduceAdd, Nat.reduceSub, Nat.reduceMul, Nat.reduceLT, Nat.reduceBEq, Nat.reduceEqDiff, Nat.reduceLeDiff]
    rw [evalCode_drawn Try.f44 11 dr44_11]; rotate_left; rfl
    simp only [e1, e2, e4, e6, hul, hx, hgi, hg0, hLay, entsI_ids, entsI_ren, EVd, List.getElem?_nil, Nat.reducePow, Nat.reduceDiv, Nat.reduceMod, FT, Int.reduceEq, Int.reduceToNat, Int.reduceLE, Int.reduceLT, Int.reduceAdd, Int.reduceMul, Int.reduceSub, Int.reduceNeg, Nat.reduceAdd, Nat.reduceSub, Nat.reduceMul, Nat.reduceLT, Nat.reduceBEq, Nat.reduceEqDiff, Nat.reduceLeDiff]
    rw [evalCode_drawn Try.f44 12 dr44_12]; rotate_left; rfl
    simp only [e1, e2, e4, e6, bd25p, EVd, List.getElem?_nil, Nat.reducePow, Nat.reduceDiv, Nat.reduceMod, FT, Int.reduceEq, Int.reduceToNat, Int.reduceLE, Int.reduceLT, Int.reduceAdd, Int.reduceMul, Int.reduceSub, Int.reduceNeg, Nat.reduceAdd, Nat.reduceSub, Nat.reduceMul, Nat.reduceLT, Nat.reduceBEq, Nat.reduceEqDiff, Nat.reduceLeDiff]
    rw [evalCode_loopB LB44_14 lp44_14]; rotate_left; rfl; rfl; rfl
    generalize hz : loopR _ _ _ _ _ _ _ _ _ _ _ _ = z
    have hpk : pk0 ⟨(g : Int), n, code, outs⟩ = ⟨layP g ++ [((g : Int), (g : Int))], layF unt g ++ [decide (unt.getD g 0 < 0)], [], ((g : Int) + 1)⟩ := by
      unfold pk0
      simp only [Int.toNat_natCast, ← hunt, hu0, if_true, if_false]
    have hbl : (layF unt g ++ [decide (unt.getD g 0 < 0)]).length = g + 1 := by simp [hfl]
    have hpk0 : PkOk ⟨layP g ++ [((g : Int), (g : Int))], layF unt g ++ [decide (unt.getD g 0 < 0)], [], ((g : Int) + 1)⟩ := ⟨by simp only [hbl]; omega, fun e he => by
      simp only [layP, List.mem_append, List.mem_map, List.mem_range, List.mem_singleton] at he
      simp only [hbl]
      rcases he with ⟨v, hv, rfl⟩ | rfl <;> simp only <;> omega⟩
    have hk0 : ∀ e ∈ (⟨layP g ++ [((g : Int), (g : Int))], layF unt g ++ [decide (unt.getD g 0 < 0)], [], ((g : Int) + 1)⟩ : Pk).at_, e.1 < (lvStart (g : Int) n code.length).unt.length := fun e he => by
      simp only [layP, List.mem_append, List.mem_map, List.mem_range, List.mem_singleton] at he
      simp only [lvStart, List.length_replicate, Int.toNat_natCast]
      rcases he with ⟨v, hv, rfl⟩ | rfl <;> simp only <;> omega
    have hx2 : AV.hsl 2 0 (g + 1) (g + 1) 1 = hI 2 (layF unt g ++ [decide (unt.getD g 0 < 0)]).length := by rw [hbl]
    rw [hx2] at hz
    have hmx1 : (if ((g + 1 : Nat) : Int) > (g : Int) then ((g + 1 : Nat) : Int) else (g : Int)) = (g : Int) + 1 := by rw [if_pos (by omega)]; omega
    have hmx2 : (if (g : Int) > (g : Int) then (g : Int) else (g : Int)) = (g : Int) := by rw [if_neg (by omega)]
    simp only [hmx1, hmx2] at hz
    obtain ⟨l2, rfl, f2, f4, f6, f8, _, _, _⟩ := loop_Pack14 (k + 1) _ _ _ _ _ _ _ _ _ _ _ _ outs.length g _ (lvEnd ⟨(g : Int), n, code, outs⟩) unt ⟨layP g ++ [((g : Int), (g : Int))], layF unt g ++ [decide (unt.getD g 0 < 0)], [], ((g : Int) + 1)⟩ (neededM ⟨(g : Int), n, code, outs⟩) code (needL_len2 _ _) nl cap hpk0 (by simp only [hbl]; omega) rfl (by simp only; omega) (by omega) (by omega) (by omega) (by have := hok.a; rw [hP] at this; exact this) (by have := hok.b; rw [hP] at this; exact this) (by have := hok.sets; rw [hP] at this; exact this) hvalX (fun i hi hn => pk_fresh hok0 rfl hk0 i hi hn) _ _ z hz (by omega) e2 e4 e6 (by rfl) (by rfl) (by rfl) (by rfl)
    clear hz
    obtain ⟨q, hq⟩ : ∃ q, q = pkAt (lvEnd ⟨(g : Int), n, code, outs⟩) unt ⟨layP g ++ [((g : Int), (g : Int))], layF unt g ++ [decide (unt.getD g 0 < 0)], [], ((g : Int) + 1)⟩ (neededM ⟨(g : Int), n, code, outs⟩) code code.length := ⟨_, rfl⟩
    obtain ⟨vs, hvs⟩ : ∃ vs, vs = lOuts ⟨(g : Int), n, code, outs⟩ := ⟨_, rfl⟩
    rw [← hq]
    simp only [f2, f4, f6, f8, FT, Int.reduceEq, Int.reduceToNat, Int.reduceLE, Int.reduceLT, Int.reduceAdd, Int.reduceMul, Int.reduceSub, Int.reduceNeg, Nat.reduceAdd, Nat.reduceSub, Nat.reduceMul, Nat.reduceLT, Nat.reduceBEq, Nat.reduceEqDiff, Nat.reduceLeDiff]
    rw [evalCode_loopB LB44_32 lp44_32]; rotate_left; rfl; rfl; rfl
    generalize hz : loopR _ _ _ _ _ _ _ _ _ _ _ _ = z
    rw [← hvs] at hol
    rw [← hvs, ← hol] at hz
    obtain ⟨l3, rfl, g2, g6, g8, _, _, _⟩ := loop_Pack32 (k + 2) _ _ _ _ _ _ _ _ _ (by simp only [FT, Int.reduceEq, Int.reduceToNat, Int.reduceLE, Int.reduceLT, Int.reduceAdd, Int.reduceMul, Int.reduceSub, Int.reduceNeg, Nat.reduceAdd, Nat.reduceSub, Nat.reduceMul, Nat.reduceLT, Nat.reduceBEq, Nat.reduceEqDiff, Nat.reduceLeDiff]) (by simp only [FT, Int.reduceEq, Int.reduceToNat, Int.reduceLE, Int.reduceLT, Int.reduceAdd, Int.reduceMul, Int.reduceSub, Int.reduceNeg, Nat.reduceAdd, Nat.reduceSub, Nat.reduceMul, Nat.reduceLT, Nat.reduceBEq, Nat.reduceEqDiff, Nat.reduceLeDiff]) (by simp only [FT, Int.reduceEq, Int.reduceToNat, Int.reduceLE, Int.reduceLT, Int.reduceAdd, Int.reduceMul, Int.reduceSub, Int.reduceNeg, Nat.reduceAdd, Nat.reduceSub, Nat.reduceMul, Nat.reduceLT, Nat.reduceBEq, Nat.reduceEqDiff, Nat.reduceLeDiff]) (by simp only [FT, Int.reduceEq, Int.reduceToNat, Int.reduceLE, Int.reduceLT, Int.reduceAdd, Int.reduceMul, Int.reduceSub, Int.reduceNeg, Nat.reduceAdd, Nat.reduceSub, Nat.reduceMul, Nat.reduceLT, Nat.reduceBEq, Nat.reduceEqDiff, Nat.reduceLeDiff]) (by simp only [FT, Int.reduceEq, Int.reduceToNat, Int.reduceLE, Int.reduceLT, Int.reduceAdd, Int.reduceMul, Int.reduceSub, Int.reduceNeg, Nat.reduceAdd, Nat.reduceSub, Nat.reduceMul, Nat.reduceLT, Nat.reduceBEq, Nat.reduceEqDiff, Nat.reduceLeDiff]) (by simp only [FT, Int.reduceEq, Int.reduceToNat, Int.reduceLE, Int.reduceLT, Int.reduceAdd, Int.reduceMul, Int.reduceSub, Int.reduceNeg, Nat.reduceAdd, Nat.reduceSub, Nat.reduceMul, Nat.reduceLT, Nat.reduceBEq, Nat.reduceEqDiff, Nat.reduceLeDiff]) (by simp only [FT, Int.reduceEq, Int.reduceToNat, Int.reduceLE, Int.reduceLT, Int.reduceAdd, Int.reduceMul, Int.reduceSub, Int.reduceNeg, Nat.reduceAdd, Nat.reduceSub, Nat.reduceMul, Nat.reduceLT, Nat.reduceBEq, Nat.reduceEqDiff, Nat.reduceLeDiff]) (by simp only [FT, Int.reduceEq, Int.reduceToNat, Int.reduceLE, Int.reduceLT, Int.reduceAdd, Int.reduceMul, Int.reduceSub, Int.reduceNeg, Nat.reduceAdd, Nat.reduceSub, Nat.reduceMul, Nat.reduceLT, Nat.reduceBEq, Nat.reduceEqDiff, Nat.reduceLeDiff]) (by simp only [FT, Int.reduceEq, Int.reduceToNat, Int.reduceLE, Int.reduceLT, Int.reduceAdd, Int.reduceMul, Int.reduceSub, Int.reduceNeg, Nat.reduceAdd, Nat.reduceSub, Nat.reduceMul, Nat.reduceLT, Nat.reduceBEq, Nat.reduceEqDiff, Nat.reduceLeDiff]) q.at_ q.free.length q.code.length _ _ vs (by rw [hol]; omega) _ _ z hz (by omega) f2 f6 f8 (by rfl) (by rfl) (by rfl)
    clear hz
    have hop : 0 < vs.length := by omega
    simp only [g2, g6, g8, List.take_length, lo_pos (e := 3) hop, lv_pos (s := 1) (sz := 1) hop, FT, Int.reduceEq, Int.reduceToNat, Int.reduceLE, Int.reduceLT, Int.reduceAdd, Int.reduceMul, Int.reduceSub, Int.reduceNeg, Nat.reduceAdd, Nat.reduceSub, Nat.reduceMul, Nat.reduceLT, Nat.reduceBEq, Nat.reduceEqDiff, Nat.reduceLeDiff]
    rw [← hol]
    have hpm : packM ⟨(g : Int), n, code, outs⟩ = ⟨g, q.regs, q.code, atL q.at_ vs⟩ := by
      unfold packM pkEnd
      rw [hpk, ← hunt, ← hvs]
      simp only [← hq]
    rw [hpm]
    exact ⟨_, by rfl⟩
  · simp only [hu0, FT, Int.reduceEq, Int.reduceToNat, Int.reduceLE, Int.reduceLT, Int.reduceAdd, Int.reduceMul, Int.reduceSub, Int.reduceNeg, Nat.reduceAdd, Nat.reduceSub, Nat.reduceMul, Nat.reduceLT, Nat.reduceBEq, Nat.reduceEqDiff, Nat.reduceLeDiff]
    rw [evalCode_drawn Try.f44 12 dr44_12]; rotate_left; rfl
    simp only [e1, e2, e4, e6, hul, hx, hgi, hg0, bd25p, EVd, List.getElem?_nil, Nat.reducePow, Nat.reduceDiv, Nat.reduceMod, FT, Int.reduceEq, Int.reduceToNat, Int.reduceLE, Int.reduceLT, Int.reduceAdd, Int.reduceMul, Int.reduceSub, Int.reduceNeg, Nat.reduceAdd, Nat.reduceSub, Nat.reduceMul, Nat.reduceLT, Nat.reduceBEq, Nat.reduceEqDiff, Nat.reduceLeDiff]
    rw [evalCode_loopB LB44_14 lp44_14]; rotate_left; rfl; rfl; rfl
    generalize hz : loopR _ _ _ _ _ _ _ _ _ _ _ _ = z
    have hpk : pk0 ⟨(g : Int), n, code, outs⟩ = ⟨layP g, layF unt g, [], (g : Int)⟩ := by
      unfold pk0
      simp only [Int.toNat_natCast, ← hunt, hu0, if_true, if_false]
    have hbl : (layF unt g).length = g := by simp [hfl]
    have hpk0 : PkOk ⟨layP g, layF unt g, [], (g : Int)⟩ := ⟨by simp only [hbl]; omega, fun e he => by
      simp only [layP, List.mem_append, List.mem_map, List.mem_range, List.mem_singleton] at he
      simp only [hbl]
      obtain ⟨v, hv, rfl⟩ := he
      simp only
      omega⟩
    have hk0 : ∀ e ∈ (⟨layP g, layF unt g, [], (g : Int)⟩ : Pk).at_, e.1 < (lvStart (g : Int) n code.length).unt.length := fun e he => by
      simp only [layP, List.mem_append, List.mem_map, List.mem_range, List.mem_singleton] at he
      simp only [lvStart, List.length_replicate, Int.toNat_natCast]
      obtain ⟨v, hv, rfl⟩ := he
      simp only
      omega
    have hx2 : AV.hsl 2 0 g g 1 = hI 2 (layF unt g).length := by rw [hbl]
    rw [hx2] at hz
    have hmx1 : (if ((g + 1 : Nat) : Int) > (g : Int) then ((g + 1 : Nat) : Int) else (g : Int)) = (g : Int) + 1 := by rw [if_pos (by omega)]; omega
    have hmx2 : (if (g : Int) > (g : Int) then (g : Int) else (g : Int)) = (g : Int) := by rw [if_neg (by omega)]
    simp only [hmx1, hmx2] at hz
    obtain ⟨l2, rfl, f2, f4, f6, f8, _, _, _⟩ := loop_Pack14 (k + 1) _ _ _ _ _ _ _ _ _ _ _ _ outs.length g _ (lvEnd ⟨(g : Int), n, code, outs⟩) unt ⟨layP g, layF unt g, [], (g : Int)⟩ (neededM ⟨(g : Int), n, code, outs⟩) code (needL_len2 _ _) nl cap hpk0 (by simp only [hbl]; omega) rfl (by simp only; omega) (by omega) (by omega) (by omega) (by have := hok.a; rw [hP] at this; exact this) (by have := hok.b; rw [hP] at this; exact this) (by have := hok.sets; rw [hP] at this; exact this) hvalX (fun i hi hn => pk_fresh hok0 rfl hk0 i hi hn) _ _ z hz (by omega) e2 e4 e6 (by rfl) (by rfl) (by rfl) (by rfl)
    clear hz
    obtain ⟨q, hq⟩ : ∃ q, q = pkAt (lvEnd ⟨(g : Int), n, code, outs⟩) unt ⟨layP g, layF unt g, [], (g : Int)⟩ (neededM ⟨(g : Int), n, code, outs⟩) code code.length := ⟨_, rfl⟩
    obtain ⟨vs, hvs⟩ : ∃ vs, vs = lOuts ⟨(g : Int), n, code, outs⟩ := ⟨_, rfl⟩
    rw [← hq]
    simp only [f2, f4, f6, f8, FT, Int.reduceEq, Int.reduceToNat, Int.reduceLE, Int.reduceLT, Int.reduceAdd, Int.reduceMul, Int.reduceSub, Int.reduceNeg, Nat.reduceAdd, Nat.reduceSub, Nat.reduceMul, Nat.reduceLT, Nat.reduceBEq, Nat.reduceEqDiff, Nat.reduceLeDiff]
    rw [evalCode_loopB LB44_32 lp44_32]; rotate_left; rfl; rfl; rfl
    generalize hz : loopR _ _ _ _ _ _ _ _ _ _ _ _ = z
    rw [← hvs] at hol
    rw [← hvs, ← hol] at hz
    obtain ⟨l3, rfl, g2, g6, g8, _, _, _⟩ := loop_Pack32 (k + 2) _ _ _ _ _ _ _ _ _ (by simp only [FT, Int.reduceEq, Int.reduceToNat, Int.reduceLE, Int.reduceLT, Int.reduceAdd, Int.reduceMul, Int.reduceSub, Int.reduceNeg, Nat.reduceAdd, Nat.reduceSub, Nat.reduceMul, Nat.reduceLT, Nat.reduceBEq, Nat.reduceEqDiff, Nat.reduceLeDiff]) (by simp only [FT, Int.reduceEq, Int.reduceToNat, Int.reduceLE, Int.reduceLT, Int.reduceAdd, Int.reduceMul, Int.reduceSub, Int.reduceNeg, Nat.reduceAdd, Nat.reduceSub, Nat.reduceMul, Nat.reduceLT, Nat.reduceBEq, Nat.reduceEqDiff, Nat.reduceLeDiff]) (by simp only [FT, Int.reduceEq, Int.reduceToNat, Int.reduceLE, Int.reduceLT, Int.reduceAdd, Int.reduceMul, Int.reduceSub, Int.reduceNeg, Nat.reduceAdd, Nat.reduceSub, Nat.reduceMul, Nat.reduceLT, Nat.reduceBEq, Nat.reduceEqDiff, Nat.reduceLeDiff]) (by simp only [FT, Int.reduceEq, Int.reduceToNat, Int.reduceLE, Int.reduceLT, Int.reduceAdd, Int.reduceMul, Int.reduceSub, Int.reduceNeg, Nat.reduceAdd, Nat.reduceSub, Nat.reduceMul, Nat.reduceLT, Nat.reduceBEq, Nat.reduceEqDiff, Nat.reduceLeDiff]) (by simp only [FT, Int.reduceEq, Int.reduceToNat, Int.reduceLE, Int.reduceLT, Int.reduceAdd, Int.reduceMul, Int.reduceSub, Int.reduceNeg, Nat.reduceAdd, Nat.reduceSub, Nat.reduceMul, Nat.reduceLT, Nat.reduceBEq, Nat.reduceEqDiff, Nat.reduceLeDiff]) (by simp only [FT, Int.reduceEq, Int.reduceToNat, Int.reduceLE, Int.reduceLT, Int.reduceAdd, Int.reduceMul, Int.reduceSub, Int.reduceNeg, Nat.reduceAdd, Nat.reduceSub, Nat.reduceMul, Nat.reduceLT, Nat.reduceBEq, Nat.reduceEqDiff, Nat.reduceLeDiff]) (by simp only [FT, Int.reduceEq, Int.reduceToNat, Int.reduceLE, Int.reduceLT, Int.reduceAdd, Int.reduceMul, Int.reduceSub, Int.reduceNeg, Nat.reduceAdd, Nat.reduceSub, Nat.reduceMul, Nat.reduceLT, Nat.reduceBEq, Nat.reduceEqDiff, Nat.reduceLeDiff]) (by simp only [FT, Int.reduceEq, Int.reduceToNat, Int.reduceLE, Int.reduceLT, Int.reduceAdd, Int.reduceMul, Int.reduceSub, Int.reduceNeg, Nat.reduceAdd, Nat.reduceSub, Nat.reduceMul, Nat.reduceLT, Nat.reduceBEq, Nat.reduceEqDiff, Nat.reduceLeDiff]) (by simp only [FT, Int.reduceEq, Int.reduceToNat, Int.reduceLE, Int.reduceLT, Int.reduceAdd, Int.reduceMul, Int.reduceSub, Int.reduceNeg, Nat.reduceAdd, Nat.reduceSub, Nat.reduceMul, Nat.reduceLT, Nat.reduceBEq, Nat.reduceEqDiff, Nat.reduceLeDiff]) q.at_ q.free.length q.code.length _ _ vs (by rw [hol]; omega) _ _ z hz (by omega) f2 f6 f8 (by rfl) (by rfl) (by rfl)
    clear hz
    have hop : 0 < vs.length := by omega
    simp only [g2, g6, g8, List.take_length, lo_pos (e := 3) hop, lv_pos (s := 1) (sz := 1) hop, FT, Int.reduceEq, Int.reduceToNat, Int.reduceLE, Int.reduceLT, Int.reduceAdd, Int.reduceMul, Int.reduceSub, Int.reduceNeg, Nat.reduceAdd, Nat.reduceSub, Nat.reduceMul, Nat.reduceLT, Nat.reduceBEq, Nat.reduceEqDiff, Nat.reduceLeDiff]
    rw [← hol]
    have hpm : packM ⟨(g : Int), n, code, outs⟩ = ⟨g, q.regs, q.code, atL q.at_ vs⟩ := by
      unfold packM pkEnd
      rw [hpk, ← hunt, ← hvs]
      simp only [← hq]
    rw [hpm]
    exact ⟨_, by rfl⟩
end Go.Proofs.Sw
namespace Go.Proofs.Sw
open Go.Ab
variable [Globals]
theorem lookI_app {k : Int} : ∀ {es fs : List (Int × Int)} {p : Nat × Int}, lookI k es = some p → lookI k (es ++ fs) = some p
  | [], _, _, h => by cases h
  | e :: es, fs, p, h => by
    rw [List.cons_append, lookI]
    rw [lookI] at h
    split at h
    · rename_i hk; rw [if_pos hk]; exact h
    · rename_i hk
      rw [if_neg hk]
      obtain ⟨q, hq, rfl⟩ := Option.map_eq_some_iff.1 h
      rw [lookI_app hq]; rfl
theorem lookI_new {k v : Int} : ∀ {es : List (Int × Int)}, lookI k es = none → lookI k (es ++ [(k, v)]) = some (es.length, v)
  | [], _ => by simp [lookI]
  | e :: es, h => by
    rw [List.cons_append, lookI]
    rw [lookI] at h
    split at h
    · cases h
    · rename_i hk
      rw [if_neg hk, lookI_new (Option.map_eq_none_iff.1 h)]; rfl
theorem lookI_ne {k k' v : Int} (hne : k ≠ k') : ∀ {es : List (Int × Int)}, lookI k es = none → lookI k (es ++ [(k', v)]) = none
  | [], _ => by simp [lookI, hne]
  | e :: es, h => by
    rw [List.cons_append, lookI]
    rw [lookI] at h
    split at h
    · cases h
    · rename_i hk
      rw [if_neg hk, lookI_ne hne (Option.map_eq_none_iff.1 h)]; rfl
theorem atI_ne {k k' v : Int} {es : List (Int × Int)} (hne : k ≠ k') : atI (es ++ [(k', v)]) k = atI es k := by
  unfold atI
  cases h : lookI k es with
  | none => rw [lookI_ne hne h]
  | some p => rw [lookI_app h]
theorem atI_new {k v : Int} {es : List (Int × Int)} (h : lookI k es = none) : atI (es ++ [(k, v)]) k = v := by
  unfold atI
  rw [lookI_new h]
theorem layP_at : ∀ {g r : Nat}, r < g → atI (layP g) (r : Int) = r
  | 0, r, h => by omega
  | g + 1, r, h => by
    rw [layP_succ]
    by_cases e : r = g
    · subst e
      exact atI_new (layP_none r)
    · rw [atI_ne (by omega)]
      exact layP_at (by omega)
theorem layF_get {unt : List Int} {g r : Nat} (h : r < g) (hu : g ≤ unt.length) : (layF unt g).getD r false = decide (unt.getD r 0 < 0) := by
  unfold layF
  have : r < unt.length := by omega
  simp [h, List.getElem?_take, this]
structure PkRel (S : Sv) (k : Nat) (q : Pk) : Prop where
  at_ : ∀ w ∈ valsO S k, (w = -1000 → 0 ≤ untilR S (-1000)) → atI q.at_ (ph S w) = gP S k w
  fr : ∀ r : Nat, r < q.free.length → (q.free.getD r false = false ↔ ∃ w ∈ aliveR S k, gP S k w = r)
  lt : ∀ w ∈ aliveR S k, gP S k w < q.free.length
  code : q.code = gC S k
  regs : q.regs = gR S k
theorem alive_none {S : Sv} {k : Nat} {w : Int} (h : w ∈ aliveR S k) : w = -1000 → 0 ≤ untilR S (-1000) := by
  rintro rfl
  have := (mem_alive.1 h).2
  omega
theorem pk_start {p : Pg} (hp : PgOk p) : PkRel (svP p) 0 (pk0 p) := by
  have h0 := hp.ok.ins
  have hs := hp.ok.small
  have e0 : (svP p).ins = p.ins := rfl
  rw [e0] at h0 hs
  obtain ⟨g, hg⟩ : ∃ g : Nat, p.ins = g := ⟨p.ins.toNat, by omega⟩
  have hgt : p.ins.toNat = g := by omega
  have hmem : ∀ {w : Int}, w ∈ valsO (svP p) 0 → w ∈ valsO (svP p) p.code.length := fun h => vals_mono h (by omega)
  have hul : g < (untM p).length := by
    obtain ⟨h1, _⟩ := lv_rel hp p.code.length (Nat.le_refl _)
    have : (untM p).length = (lvEnd p).unt.length := untO_length _ _ _ _
    unfold lvEnd at this
    omega
  have hN : (untM p).getD g 0 = en (untilR (svP p) (-1000)) := by
    have := unt_rel hp (w := -1000) (hmem (mem_valsO.2 (.inr (.inl rfl))))
    rwa [ph_none, e0, hgt] at this
  have hI : ∀ r : Nat, r < g → (untM p).getD r 0 = en (untilR (svP p) (-1 - (r : Int))) := fun r hr => by
    have := unt_rel hp (w := -1 - (r : Int)) (hmem (mem_valsO.2 (.inl ⟨r, by rw [e0]; omega, rfl⟩)))
    rwa [ph_in hp.ok (by rw [e0]; omega), Int.toNat_natCast] at this
  have hin : ∀ w ∈ valsO (svP p) 0, (∃ r : Nat, r < g ∧ w = -1 - (r : Int) ∧ ph (svP p) w = r ∧ gP (svP p) 0 w = r) ∨ (w = -1000 ∧ ph (svP p) w = g ∧ gP (svP p) 0 w = g) := fun w hw => by
    rcases mem_valsO.1 hw with ⟨r, hr, rfl⟩ | rfl | ⟨j, hj, _⟩
    · rw [e0] at hr
      exact .inl ⟨r, by omega, rfl, ph_in hp.ok (by rw [e0]; exact hr), gP0_in hp.ok.small (by rw [e0]; exact hr)⟩
    · exact .inr ⟨rfl, by rw [ph_none, e0, hg], by rw [gP0_none, e0, hg]⟩
    · omega
  have hlf : (layF (untM p) g).length = g := layF_length (by omega)
  by_cases hu : 0 ≤ (untM p).getD g 0
  · have hU : 0 ≤ untilR (svP p) (-1000) := by
      rw [hN] at hu
      have := en_neg (x := untilR (svP p) (-1000))
      omega
    have e : pk0 p = ⟨layP g ++ [((g : Int), (g : Int))], layF (untM p) g ++ [decide ((untM p).getD g 0 < 0)], [], (g : Int) + 1⟩ := by
      unfold pk0
      simp only [hg, Int.toNat_natCast, hu, if_true]
    rw [e]
    refine ⟨fun w hw hz => ?_, fun r hr => ?_, fun w hw => ?_, rfl, ?_⟩
    · simp only
      rcases hin w hw with ⟨r, hr, _, h2, h3⟩ | ⟨_, h2, h3⟩
      · rw [h2, h3, atI_ne (by omega)]
        exact layP_at hr
      · rw [h2, h3]
        exact atI_new (layP_none g)
    · simp only at hr ⊢
      rw [List.length_append, hlf] at hr
      simp only [List.length_cons, List.length_nil] at hr
      by_cases hrg : r < g
      · rw [List.getD_eq_getElem?_getD, List.getElem?_append_left (by omega), ← List.getD_eq_getElem?_getD, layF_get hrg (by omega), hI r hrg, decide_eq_false_iff_not]
        constructor
        · intro h
          refine ⟨-1 - (r : Int), mem_alive.2 ⟨mem_valsO.2 (.inl ⟨r, by rw [e0]; omega, rfl⟩), ?_⟩, gP0_in hp.ok.small (by rw [e0]; omega)⟩
          rw [en_neg] at h
          omega
        · rintro ⟨w, hw, hgp⟩
          obtain ⟨hv, hu2⟩ := mem_alive.1 hw
          rcases hin w hv with ⟨q, hq, h1, _, h3⟩ | ⟨_, _, h3⟩
          · have : q = r := by omega
            subst this
            rw [h1] at hu2
            rw [en_neg]
            omega
          · omega
      · have : r = g := by omega
        subst this
        rw [List.getD_eq_getElem?_getD, List.getElem?_append_right (by omega), hlf, Nat.sub_self]
        have : decide ((untM p).getD r 0 < 0) = false := decide_eq_false (by omega)
        simp only [List.getElem?_cons_zero, Option.getD_some]
        constructor
        · intro _
          exact ⟨-1000, mem_alive.2 ⟨mem_valsO.2 (.inr (.inl rfl)), by omega⟩, by rw [gP0_none, e0, hg]⟩
        · intro _
          exact this
    · simp only [List.length_append, hlf, List.length_cons, List.length_nil]
      rcases hin w (alive_vals hw) with ⟨q, hq, h1, _, h3⟩ | ⟨_, _, h3⟩ <;> omega
    · simp only [gR, if_pos hU, e0, hg]
  · have hU : ¬ 0 ≤ untilR (svP p) (-1000) := by
      rw [hN] at hu
      have := en_neg (x := untilR (svP p) (-1000))
      omega
    have e : pk0 p = ⟨layP g, layF (untM p) g, [], (g : Int)⟩ := by
      unfold pk0
      simp only [hg, Int.toNat_natCast, hu, if_false]
    rw [e]
    refine ⟨fun w hw hz => ?_, fun r hr => ?_, fun w hw => ?_, rfl, ?_⟩
    · simp only
      rcases hin w hw with ⟨r, hr, _, h2, h3⟩ | ⟨h1, _, _⟩
      · rw [h2, h3]
        exact layP_at hr
      · exact absurd (hz h1) hU
    · simp only at hr ⊢
      have hrg : r < g := by omega
      rw [layF_get hrg (by omega), hI r hrg, decide_eq_false_iff_not]
      constructor
      · intro h
        refine ⟨-1 - (r : Int), mem_alive.2 ⟨mem_valsO.2 (.inl ⟨r, by rw [e0]; omega, rfl⟩), ?_⟩, gP0_in hp.ok.small (by rw [e0]; omega)⟩
        rw [en_neg] at h
        omega
      · rintro ⟨w, hw, hgp⟩
        obtain ⟨hv, hu2⟩ := mem_alive.1 hw
        rcases hin w hv with ⟨q, hq, h1, _, h3⟩ | ⟨_, _, h3⟩
        · have : q = r := by omega
          subst this
          rw [h1] at hu2
          rw [en_neg]
          omega
        · omega
    · simp only [hlf]
      rcases hin w (alive_vals hw) with ⟨q, hq, h1, _, h3⟩ | ⟨h1, _, h3⟩
      · omega
      · exact absurd (alive_none hw h1) hU
    · simp only [gR, if_neg hU, e0, hg]
theorem least_not {fl : List Bool} (h : leastM fl < fl.length) : fl.getD (leastM fl) false = true := by
  have := List.findIdx_getElem (p := id) (xs := fl) (w := h)
  rw [List.getD_eq_getElem?_getD, List.getElem?_eq_getElem h]
  exact this
theorem least_all {fl : List Bool} {i : Nat} (h : i < leastM fl) : fl.getD i false = false := by
  have h2 := leastM_le fl
  have := List.not_of_lt_findIdx (p := id) (xs := fl) h
  rw [List.getD_eq_getElem?_getD, List.getElem?_eq_getElem (by omega)]
  simpa using this
theorem getDB_set {l : List Bool} {i k : Nat} {v : Bool} (hi : i < l.length) : (l.set i v).getD k false = if i = k then v else l.getD k false := by
  rw [List.getD_eq_getElem?_getD, List.getD_eq_getElem?_getD, List.getElem?_set]
  by_cases h : i = k
  · subst h; simp [hi]
  · simp [h]
def vA (S : Sv) (k : Nat) : Int := heldR S k (nth S.code k).a
def vB (S : Sv) (k : Nat) : Int := if (nth S.code k).op = 3 ∨ (nth S.code k).op = 4 then heldR S k (nth S.code k).b else heldR S k (nth S.code k).a
theorem asked_two {p : Pg} (hp : PgOk p) {k : Nat} (hk : k < p.code.length) (hn : nd (svP p).need k = true) :
    (vA (svP p) k ∈ aliveR (svP p) k ∧ vB (svP p) k ∈ aliveR (svP p) k) ∧ (lvEnd p).a.getD k 0 = ph (svP p) (vA (svP p) k) ∧ (lvEnd p).b.getD k 0 = ph (svP p) (vB (svP p) k) ∧ (lvEnd p).sets.getD k 0 = ph (svP p) k ∧
    ∀ w ∈ aliveR (svP p) k, (untilR (svP p) w = k → w = vA (svP p) k ∨ w = vB (svP p) k) := by
  have hc : (svP p).code = p.code := rfl
  have hop := hp.op.ops k (by rw [hc]; exact hk) hn
  have h1 : vA (svP p) k ∈ aliveR (svP p) k := asked_alive hp.inn (by rw [hc]; exact hk) hn (ask_a hop)
  have hasks := hp.inn.asks k (by rw [hc]; omega) hn
  have hra := hasks _ (ask_a hop)
  obtain ⟨l1, l2, l3, _⟩ := lv_rel hp k (by omega)
  have e : p.code[k]? = some (nth p.code k) := by rw [nth_get hk, List.getElem?_eq_getElem hk]
  have hok0 : LvOk (lvStart p.ins p.regs.toNat p.code.length) p.regs.toNat p.code.length := lvStart_ok (by have := hp.ok.ins; exact this)
  obtain ⟨a1, a2, a3⟩ := lv_at (need := neededM p) hok0 e hn p.code.length hk (Nat.le_refl _)
  have hA : (lvEnd p).a.getD k 0 = ph (svP p) (vA (svP p) k) := by
    show (lvAt _ _ _ _).a.getD k 0 = _
    rw [a1, l3 _ (by rw [hc] at hra; omega)]
    rw [hc] at hra
    rw [Int.toNat_of_nonneg hra.1]; rfl
  have hset : (lvEnd p).sets.getD k 0 = ph (svP p) k := by
    show (lvAt _ _ _ _).sets.getD k 0 = _
    rw [a3, ph_nat]; exact l1
  have hB : vB (svP p) k ∈ aliveR (svP p) k ∧ (lvEnd p).b.getD k 0 = ph (svP p) (vB (svP p) k) := by
    have hb : (lvEnd p).b.getD k 0 = lvB (lvAt (lvStart p.ins p.regs.toNat p.code.length) (neededM p) p.code k).held (nth p.code k) := a2
    by_cases h34 : (nth (svP p).code k).op = 3 ∨ (nth (svP p).code k).op = 4
    · have hrb := hasks _ (ask_b h34)
      have ev : vB (svP p) k = heldR (svP p) k (nth (svP p).code k).b := if_pos h34
      rw [ev]
      refine ⟨asked_alive hp.inn (by rw [hc]; exact hk) hn (ask_b h34), ?_⟩
      rw [hb]
      unfold lvB
      rw [if_pos (by rw [hc] at h34; exact h34)]
      rw [hc] at hrb
      rw [l3 _ (by omega), Int.toNat_of_nonneg hrb.1]; rfl
    · have ev : vB (svP p) k = vA (svP p) k := if_neg h34
      rw [ev]
      refine ⟨h1, ?_⟩
      rw [hb]
      unfold lvB
      rw [if_neg (by rw [hc] at h34; exact h34), ← a1]; exact hA
  refine ⟨⟨h1, hB.1⟩, hA, hB.2, hset, fun w hw hu => ?_⟩
  have := (askV_iff hn hop w).1 (ask_of_until (by rw [hc]; exact hk) hu)
  rcases this with h | h
  · exact .inl h.symm
  · exact .inr h.symm
theorem pk_rel {p : Pg} (hp : PgOk p) : ∀ k, k ≤ p.code.length → PkRel (svP p) k (pkAt (lvEnd p) (untM p) (pk0 p) (neededM p) p.code k)
  | 0, _ => pk_start hp
  | k + 1, hk => by
    have ih := pk_rel hp k (by omega)
    have hc : (svP p).code = p.code := rfl
    have hfresh0 : nd (svP p).need k = true → lookI ((lvEnd p).sets.getD k 0) (pkAt (lvEnd p) (untM p) (pk0 p) (neededM p) p.code k).at_ = none := fun hn => by
      have h0 := hp.ok.ins
      have e0 : (svP p).ins = p.ins := rfl
      rw [e0] at h0
      refine pk_fresh (lvStart_ok h0) rfl ?_ k (by omega) hn
      intro e he
      simp only [lvStart, List.length_replicate]
      unfold pk0 at he
      simp only at he
      split at he
      · simp only [layP, List.mem_append, List.mem_map, List.mem_range, List.mem_singleton] at he
        rcases he with ⟨v, hv, rfl⟩ | rfl <;> simp only <;> omega
      · simp only [layP, List.mem_map, List.mem_range] at he
        obtain ⟨v, hv, rfl⟩ := he
        simp only
        omega
    obtain ⟨q, hq⟩ : ∃ q, q = pkAt (lvEnd p) (untM p) (pk0 p) (neededM p) p.code k := ⟨_, rfl⟩
    rw [pkAt_succ (by omega)]
    rw [← hq] at ih hfresh0 ⊢
    obtain ⟨r1, r2, r3, r4, r5⟩ := ih
    cases hn : nd (svP p).need k
    · have hn' : ¬ (neededM p).getD k false = true := by show ¬ nd (svP p).need k = true; rw [hn]; simp
      rw [if_neg hn']
      have hal := alive_succ_no (S := svP p) (show k < (svP p).code.length by rw [hc]; omega) hn
      have hgp : ∀ {w : Int}, w ∈ valsO (svP p) k → gP (svP p) (k + 1) w = gP (svP p) k w := fun hw => gP_old (by have := vals_lt hw; omega)
      refine ⟨fun w hw hz => ?_, fun r hr => ?_, fun w hw => ?_, by rw [gC_succ_no hn]; exact r4, by rw [gR, hn, if_neg (by simp)]; exact r5⟩
      · rw [vals_succ_no hn] at hw
        rw [hgp hw]; exact r1 w hw hz
      · rw [r2 r hr, hal]
        constructor
        · rintro ⟨w, hw, e⟩; exact ⟨w, hw, by rw [hgp (alive_vals hw)]; exact e⟩
        · rintro ⟨w, hw, e⟩; exact ⟨w, hw, by rw [hgp (alive_vals hw)] at e; exact e⟩
      · rw [hal] at hw
        rw [hgp (alive_vals hw)]; exact r3 w hw
    · have hn' : (neededM p).getD k false = true := hn
      rw [if_pos hn', ← nth_get (show k < p.code.length by omega)]
      obtain ⟨⟨ma, mb⟩, eA, eB, eS, hask⟩ := asked_two hp (show k < p.code.length by omega) hn
      have hfresh := hfresh0 hn
      rw [eS] at hfresh
      have huse := hp.ok.use k (by rw [hc]; omega) hn
      have atA : atI q.at_ (ph (svP p) (vA (svP p) k)) = gP (svP p) k (vA (svP p) k) := r1 _ (alive_vals ma) (alive_none ma)
      have atB : atI q.at_ (ph (svP p) (vB (svP p) k)) = gP (svP p) k (vB (svP p) k) := r1 _ (alive_vals mb) (alive_none mb)
      have hmem : ∀ {w : Int}, w ∈ aliveR (svP p) k → w ∈ valsO (svP p) p.code.length := fun h => vals_mono (alive_vals h) (by omega)
      have uA : ((untM p).getD (ph (svP p) (vA (svP p) k)).toNat 0 = k) = (untilR (svP p) (vA (svP p) k) = k) := by rw [unt_rel hp (hmem ma)]; exact propext en_eq
      have uB : ((untM p).getD (ph (svP p) (vB (svP p) k)).toNat 0 = k) = (untilR (svP p) (vB (svP p) k) = k) := by rw [unt_rel hp (hmem mb)]; exact propext en_eq
      have ra := r3 _ ma
      have rb := r3 _ mb
      have ra0 := gP_nonneg hp.ok k (alive_vals ma)
      have rb0 := gP_nonneg hp.ok k (alive_vals mb)
      obtain ⟨f2, hf2⟩ : ∃ f2, f2 = freeOne q.at_ (untM p) k (freeOne q.at_ (untM p) k q.free ((lvEnd p).a.getD k 0)) ((lvEnd p).b.getD k 0) := ⟨_, rfl⟩
      have hf2l : f2.length = q.free.length := by rw [hf2, freeOne_length, freeOne_length]
      have hinj := fun {w v : Int} (hw : w ∈ aliveR (svP p) k) (hv : v ∈ aliveR (svP p) k) (e : gP (svP p) k w = gP (svP p) k v) => gP_inj hp.ok k (by rw [hc]; omega) hw hv e
      have hf2g : ∀ r : Nat, r < f2.length → (f2.getD r false = false ↔ ∃ w ∈ restR (svP p) k, gP (svP p) k w = r) := fun r hr => by
        have hstep : f2.getD r false = false ↔ (q.free.getD r false = false ∧ ¬ (untilR (svP p) (vA (svP p) k) = k ∧ gP (svP p) k (vA (svP p) k) = r) ∧ ¬ (untilR (svP p) (vB (svP p) k) = k ∧ gP (svP p) k (vB (svP p) k) = r)) := by
          rw [hf2, eA, eB]
          unfold freeOne
          rw [atA, atB]
          simp only [uA, uB]
          by_cases hA : untilR (svP p) (vA (svP p) k) = k
          · by_cases hB : untilR (svP p) (vB (svP p) k) = k
            · rw [if_pos hB, if_pos hA, getDB_set (by simp; omega), getDB_set (by omega)]
              by_cases e2 : (gP (svP p) k (vB (svP p) k)).toNat = r
              · rw [if_pos e2]
                constructor
                · intro h; cases h
                · intro h; exact absurd ⟨hB, by omega⟩ h.2.2
              · rw [if_neg e2]
                by_cases e1 : (gP (svP p) k (vA (svP p) k)).toNat = r
                · rw [if_pos e1]
                  constructor
                  · intro h; cases h
                  · intro h; exact absurd ⟨hA, by omega⟩ h.2.1
                · rw [if_neg e1]
                  exact ⟨fun h => ⟨h, fun x => by omega, fun x => by omega⟩, fun h => h.1⟩
            · rw [if_neg hB, if_pos hA, getDB_set (by omega)]
              by_cases e1 : (gP (svP p) k (vA (svP p) k)).toNat = r
              · rw [if_pos e1]
                constructor
                · intro h; cases h
                · intro h; exact absurd ⟨hA, by omega⟩ h.2.1
              · rw [if_neg e1]
                exact ⟨fun h => ⟨h, fun x => by omega, fun x => by omega⟩, fun h => h.1⟩
          · by_cases hB : untilR (svP p) (vB (svP p) k) = k
            · rw [if_pos hB, if_neg hA, getDB_set (by omega)]
              by_cases e2 : (gP (svP p) k (vB (svP p) k)).toNat = r
              · rw [if_pos e2]
                constructor
                · intro h; cases h
                · intro h; exact absurd ⟨hB, by omega⟩ h.2.2
              · rw [if_neg e2]
                exact ⟨fun h => ⟨h, fun x => by omega, fun x => by omega⟩, fun h => h.1⟩
            · rw [if_neg hB, if_neg hA]
              exact ⟨fun h => ⟨h, fun x => hA x.1, fun x => hB x.1⟩, fun h => h.1⟩
        rw [hstep, r2 r (by omega)]
        constructor
        · rintro ⟨⟨w, hw, e⟩, hnA, hnB⟩
          refine ⟨w, List.mem_filter.2 ⟨hw, ?_⟩, e⟩
          rw [decide_eq_true_eq]
          intro hu
          rcases hask w hw hu with rfl | rfl
          · exact hnA ⟨hu, e⟩
          · exact hnB ⟨hu, e⟩
        · rintro ⟨w, hw, e⟩
          have hwu : untilR (svP p) w ≠ k := by
            have := (mem_rest.1 hw).2
            omega
          refine ⟨⟨w, rest_alive hw, e⟩, fun ⟨x1, x2⟩ => ?_, fun ⟨x1, x2⟩ => ?_⟩
          · have := hinj ma (rest_alive hw) (by rw [x2, e])
            rw [this] at x1
            exact hwu x1
          · have := hinj mb (rest_alive hw) (by rw [x2, e])
            rw [this] at x1
            exact hwu x1
      have hlm := leastM_le f2
      have hmex : mex ((restR (svP p) k).map (gP (svP p) k)) = leastM f2 := by
        refine mex_unique ?_ fun i hi => ?_
        · rw [List.mem_map]
          rintro ⟨w, hw, e⟩
          by_cases hlt : leastM f2 < f2.length
          · have h1 := least_not hlt
            have h2 := (hf2g (leastM f2) hlt).2 ⟨w, hw, e⟩
            rw [h1] at h2
            cases h2
          · have := r3 w (rest_alive hw)
            omega
        · rw [List.mem_map]
          exact (hf2g i (by omega)).1 (least_all hi)
      have hnew : gP (svP p) (k + 1) k = (leastM f2 : Int) := by rw [gP_new hn, hmex]
      have hst : pkStep (lvEnd p) (untM p) q k (nth p.code k) = ⟨q.at_ ++ [(ph (svP p) k, (leastM f2 : Int))], giveF f2, q.code ++ [gI (svP p) k], if ((leastM f2 : Nat) : Int) + 1 > q.regs then ((leastM f2 : Nat) : Int) + 1 else q.regs⟩ := by
        rw [pkStep]
        simp only [← hf2]
        rw [eS, eA, eB, atA, atB, gI, hnew]
        by_cases h34 : (nth p.code k).op = 3 ∨ (nth p.code k).op = 4
        · have ev : vB (svP p) k = heldR (svP p) k (nth (svP p).code k).b := if_pos h34
          rw [if_pos h34, ev, hc, if_pos h34]; rfl
        · rw [if_neg h34, hc, if_neg h34]; rfl
      rw [hst]
      have hal := alive_succ (S := svP p) hn huse
      have hgp : ∀ {w : Int}, w ∈ valsO (svP p) k → gP (svP p) (k + 1) w = gP (svP p) k w := fun hw => gP_old (by have := vals_lt hw; omega)
      have hgl := giveF_length f2
      refine ⟨fun w hw hz => ?_, fun r hr => ?_, fun w hw => ?_, ?_, ?_⟩
      · simp only
        rw [vals_succ hn, List.mem_append, List.mem_singleton] at hw
        rcases hw with hw | rfl
        · have hne : ph (svP p) w ≠ ph (svP p) k := fun e => by
            have := ph_inj hp.ok (k := k + 1) (w := w) (v := k) (vals_mono hw (by omega)) (by rw [vals_succ hn]; simp) e
            have := vals_lt hw
            omega
          rw [atI_ne hne, hgp hw]
          exact r1 w hw hz
        · rw [atI_new hfresh, hnew]
      · simp only at hr ⊢
        rw [hal]
        have hrhs : (∃ w ∈ restR (svP p) k ++ [(k : Int)], gP (svP p) (k + 1) w = r) ↔ ((∃ w ∈ restR (svP p) k, gP (svP p) k w = r) ∨ leastM f2 = r) := by
          constructor
          · rintro ⟨w, hw, e⟩
            rw [List.mem_append, List.mem_singleton] at hw
            rcases hw with hw | rfl
            · rw [hgp (alive_vals (rest_alive hw))] at e
              exact .inl ⟨w, hw, e⟩
            · rw [hnew] at e
              exact .inr (by omega)
          · rintro (⟨w, hw, e⟩ | e)
            · exact ⟨w, by simp [hw], by rw [hgp (alive_vals (rest_alive hw))]; exact e⟩
            · exact ⟨k, by simp, by rw [hnew, e]⟩
        rw [hrhs]
        unfold giveF at hr ⊢
        by_cases hlt : leastM f2 < f2.length
        · rw [if_pos hlt, getDB_set hlt]
          rw [if_pos hlt, List.length_set] at hr
          by_cases e : leastM f2 = r
          · rw [if_pos e]; exact ⟨fun _ => .inr e, fun _ => rfl⟩
          · rw [if_neg e, hf2g r hr]
            exact ⟨fun h => .inl h, fun h => h.resolve_right e⟩
        · rw [if_neg hlt]
          rw [if_neg hlt, List.length_append] at hr
          simp only [List.length_cons, List.length_nil] at hr
          by_cases e : leastM f2 = r
          · rw [List.getD_eq_getElem?_getD, List.getElem?_append_right (by omega), show r - f2.length = 0 by omega]
            exact ⟨fun _ => .inr e, fun _ => rfl⟩
          · rw [List.getD_eq_getElem?_getD, List.getElem?_append_left (by omega), ← List.getD_eq_getElem?_getD, hf2g r (by omega)]
            exact ⟨fun h => .inl h, fun h => h.resolve_right e⟩
      · simp only
        rw [hal, List.mem_append, List.mem_singleton] at hw
        rcases hw with hw | rfl
        · have := r3 w (rest_alive hw)
          rw [hgp (alive_vals (rest_alive hw)), hgl]
          omega
        · rw [hnew, hgl]
          omega
      · simp only
        rw [gC_succ hn, r4]
      · simp only
        rw [gR, if_pos hn, r5, hnew]
theorem packM_eq {p : Pg} (hp : PgOk p) : packM p = greedy (svP p) := by
  obtain ⟨r1, r2, r3, r4, r5⟩ := pk_rel hp p.code.length (Nat.le_refl _)
  obtain ⟨l1, l2, l3, _⟩ := lv_rel hp p.code.length (Nat.le_refl _)
  have hc : (svP p).code = p.code := rfl
  unfold packM greedy
  rw [show pkEnd p = pkAt (lvEnd p) (untM p) (pk0 p) (neededM p) p.code p.code.length from rfl, r4, r5]
  congr 1
  unfold atL lOuts outsV gOuts
  rw [List.map_map]
  apply List.map_congr_left
  intro r hr
  have ha := out_alive (S := svP p) hp.inn hr
  have hro := hp.inn.outs r hr
  have := l3 r.toNat (by omega)
  rw [Int.toNat_of_nonneg hro.1] at this
  rw [Function.comp_apply, hc]
  show atI _ ((lvAt _ _ _ _).held.getD _ _) = _
  rw [this]
  rw [hc] at ha
  exact r1 _ (alive_vals ha) (alive_none ha)
end Go.Proofs.Sw
namespace Go.Proofs.Sw
open Go.Ab
variable [Globals]
theorem constant_op {x y : Ins} (h1 : x.op = y.op) (h2 : x.c = y.c) : constant x = constant y := by
  unfold constant
  rw [h1, h2]
theorem greedy_right {p : Pg} (hr : rightM p = true) : rightM (greedy (svP p)) = true := by
  have hp := pgOk hr
  have hc : (svP p).code = p.code := rfl
  have e0 : (svP p).ins = p.ins := rfl
  have hr' := hr
  simp only [rightM, headM, Bool.and_eq_true, decide_eq_true_eq] at hr'
  obtain ⟨⟨hh, ho⟩, hcd⟩ := hr'
  have hz := gR_zero hp.ok hp.inn
  have hle := gR_le hp.ok hp.inn p.code.length (by rw [hc]; exact Nat.le_refl _)
  have hm0 := gR_mono (S := svP p) (j := 0) p.code.length (by omega)
  have hcl := cnt_le (svP p) p.code.length
  simp only [rightM, Bool.and_eq_true]
  refine ⟨⟨?_, ?_⟩, ?_⟩
  · simp only [headM, greedy, gC_length, gOuts, List.length_map, decide_eq_true_eq, hc]
    show 1 ≤ p.ins ∧ p.ins ≤ _ ∧ _ ∧ _ ∧ 1 ≤ p.outs.length ∧ p.outs.length ≤ 128
    rw [e0] at hz
    omega
  · rw [outsM, List.all_eq_true]
    intro r hr2
    obtain ⟨q, hq, rfl⟩ := List.mem_map.1 (show r ∈ (svP p).outs.map _ from hr2)
    have ha := out_alive hp.inn hq
    have h1 := gP_nonneg hp.ok _ (alive_vals ha)
    have h2 := gP_lt hp.ok _ (Nat.le_refl _) ha
    exact decide_eq_true (show 0 ≤ _ ∧ _ < gR (svP p) (svP p).code.length from And.intro h1 h2)
  · rw [codeM, List.all_eq_true]
    intro x hx
    obtain ⟨j, hj, hn, rfl⟩ := gC_mem _ (show x ∈ gC (svP p) (svP p).code.length from hx)
    have hop := hp.op.ops j hj hn
    have hm : mayM (nth p.code j) p.regs = true := by
      rw [nth_get (by rw [hc] at hj; exact hj)]
      exact List.all_eq_true.1 hcd _ (List.getElem_mem _)
    have ha := asked_alive hp.inn hj hn (ask_a hop)
    have h1 := gP_nonneg hp.ok _ (alive_vals ha)
    have h2 := gP_lt hp.ok _ (by omega) ha
    have h3 := gR_mono (S := svP p) (j := j) (svP p).code.length (by omega)
    have h4 := gR_mono (S := svP p) (j := j + 1) (svP p).code.length (by omega)
    have h5 := gR_new hn
    have h6 := gP_nonneg hp.ok (j + 1) (w := j) (by rw [vals_succ hn]; simp)
    have hcc : constant (gI (svP p) j) = constant (nth p.code j) := constant_op rfl rfl
    simp only [mayM, Bool.and_eq_true, decide_eq_true_eq] at hm ⊢
    obtain ⟨⟨⟨m1, m2⟩, m3⟩, m4⟩ := hm
    have hgr : (greedy (svP p)).regs = gR (svP p) (svP p).code.length := rfl
    rw [hcc, hgr]
    rw [hc] at hop h1 h2
    refine ⟨⟨⟨⟨hop.1, hop.2, ?_, ?_, ?_⟩, m2⟩, ?_⟩, ?_⟩
    · exact h6
    · show gP (svP p) (j + 1) j < _
      omega
    · show (nth p.code j).op = 3 ∨ (nth p.code j).op = 4 ∨ (if (nth p.code j).op = 3 ∨ (nth p.code j).op = 4 then _ else (nth p.code j).b) = 0
      by_cases h34 : (nth p.code j).op = 3 ∨ (nth p.code j).op = 4
      · omega
      · rw [if_neg h34]; omega
    · show 0 ≤ gP (svP p) j (heldR (svP p) j (nth p.code j).a) ∧ gP (svP p) j (heldR (svP p) j (nth p.code j).a) < _
      exact ⟨h1, by omega⟩
    · intro h34
      have h34' : (nth (svP p).code j).op = 3 ∨ (nth (svP p).code j).op = 4 := h34
      have hb := asked_alive hp.inn hj hn (ask_b h34')
      have h7 := gP_nonneg hp.ok _ (alive_vals hb)
      have h8 := gP_lt hp.ok _ (by omega) hb
      have e : (gI (svP p) j).b = gP (svP p) j (heldR (svP p) j (nth (svP p).code j).b) := if_pos h34'
      rw [e]
      exact ⟨h7, by omega⟩
theorem packM_right {p : Pg} (hr : rightM p = true) : rightM (packM p) = true := by rw [packM_eq (pgOk hr)]; exact greedy_right hr
end Go.Proofs.Sw
namespace Go.Proofs.Sw
open Go.Ab
variable [Globals]
theorem getDB_mark : ∀ (rs : List Int) (l : List Bool) (i : Nat), (∀ r ∈ rs, 0 ≤ r) → i < l.length → (mark l true rs).getD i false = (l.getD i false || rs.any fun r => decide (r = i))
  | [], l, i, _, _ => by simp [mark]
  | r :: rs, l, i, h, hi => by
    rw [mark, getDB_mark rs _ i (fun x hx => h x (List.mem_cons_of_mem _ hx)) (by simpa using hi), List.any_cons]
    have h0 := h r List.mem_cons_self
    by_cases e : r = i
    · subst e
      rw [show ((i : Nat) : Int).toNat = i from rfl, getDB_set hi]
      simp
    · have h1 : ¬ r.toNat = i := by omega
      rw [List.getD_eq_getElem?_getD, List.getElem?_set, if_neg h1, ← List.getD_eq_getElem?_getD]
      simp [e]
theorem needL_drop (base : List Bool) : ∀ (k : Nat) (code : List Ins), (needL base code).2.drop k = (needL base (code.drop k)).2
  | 0, code => rfl
  | k + 1, [] => by simp [needL]
  | k + 1, x :: l => by
    rw [List.drop_succ_cons, ← needL_drop base k l, needL]
    split <;> rw [List.drop_succ_cons]
abbrev livA (p : Pg) (k : Nat) : List Bool := (needL (asked0 p.regs.toNat p.outs) (p.code.drop k)).1
theorem livA_length (p : Pg) (k : Nat) : (livA p k).length = p.regs.toNat := by
  rw [livA, (needL_length _ _).1, asked0, mark_length, List.length_replicate]
theorem need_at {p : Pg} {k : Nat} (hk : k < p.code.length) :
    (neededM p).getD k false = (livA p (k + 1)).getD (nth p.code k).to.toNat false ∧
    livA p k = if (neededM p).getD k false = true then mark ((livA p (k + 1)).set (nth p.code k).to.toNat false) true (asks (nth p.code k)) else livA p (k + 1) := by
  have hd : p.code.drop k = nth p.code k :: p.code.drop (k + 1) := by rw [nth_get hk]; exact (List.drop_eq_getElem_cons hk)
  have h1 : (neededM p).getD k false = ((needL (asked0 p.regs.toNat p.outs) (p.code.drop k)).2).getD 0 false := by
    rw [← needL_drop, neededM, List.getD_eq_getElem?_getD, List.getD_eq_getElem?_getD, List.getElem?_drop, Nat.add_zero]
  have h2 : (neededM p).getD k false = (livA p (k + 1)).getD (nth p.code k).to.toNat false := by
    rw [h1, hd, needL]
    show _ = (needL (asked0 p.regs.toNat p.outs) (p.code.drop (k + 1))).1.getD (nth p.code k).to.toNat false
    cases h : (needL (asked0 p.regs.toNat p.outs) (p.code.drop (k + 1))).1.getD (nth p.code k).to.toNat false <;> simp
  refine ⟨h2, ?_⟩
  rw [h2, livA, hd, needL]
  split <;> rfl
section
variable {α : Type} {M : Sem α}
structure OrI (p : Pg) (m k : Nat) (R Q : List α) (W : Int → α) : Prop where
  rlen : R.length = p.regs.toNat
  qlen : Q.length = m
  reg : ∀ r : Nat, r < p.regs.toNat → (livA p k).getD r false = true → R.getD r M.d = W (heldR (svP p) k r)
  val : ∀ w ∈ aliveR (svP p) k, Q.getD (gP (svP p) k w).toNat M.d = W w
theorem order_start {p : Pg} (hp : PgOk p) {m : Nat} (hm : gR (svP p) 0 ≤ m) {R0 Q0 : List α} {z : α} (hR : R0.length = p.regs.toNat) (hQ : Q0.length = m) (hi : ∀ r : Nat, r < p.ins → Q0.getD r M.d = R0.getD r M.d)
    (hz : ∀ r : Nat, p.ins ≤ r → r < p.regs.toNat → R0.getD r M.d = z) (hz2 : ∀ r : Nat, p.ins ≤ r → r < m → Q0.getD r M.d = z) :
    OrI (M := M) p m 0 R0 Q0 (fun w => if w = -1000 then z else R0.getD (-1 - w).toNat M.d) := by
  have e0 : (svP p).ins = p.ins := rfl
  have hs := hp.ok.small
  have h0 := hp.ok.ins
  rw [e0] at hs h0
  refine ⟨hR, hQ, fun r hr _ => ?_, fun w hw => ?_⟩
  · rw [heldR, e0]
    by_cases h : (r : Int) < p.ins
    · rw [if_pos h]
      show _ = if (-1 - (r : Int)) = -1000 then z else R0.getD (-1 - (-1 - (r : Int))).toNat M.d
      rw [if_neg (by omega), show (-1 - (-1 - (r : Int))).toNat = r by omega]
    · rw [if_neg h]
      show _ = if (-1000 : Int) = -1000 then z else _
      rw [if_pos rfl]
      exact hz r (by omega) hr
  · have hlt := gP_lt hp.ok 0 (Nat.zero_le _) hw
    rcases mem_valsO.1 (alive_vals hw) with ⟨r, hr, rfl⟩ | rfl | ⟨j, hj, _⟩
    · rw [gP0_in hp.ok.small hr, Int.toNat_natCast]
      rw [e0] at hr
      show _ = if (-1 - (r : Int)) = -1000 then z else R0.getD (-1 - (-1 - (r : Int))).toNat M.d
      rw [if_neg (by omega), show (-1 - (-1 - (r : Int))).toNat = r by omega]
      exact hi r (by omega)
    · rw [gP0_none, e0] at hlt ⊢
      show _ = if (-1000 : Int) = -1000 then z else _
      rw [if_pos rfl]
      exact hz2 _ (by omega) (by omega)
    · omega
theorem order_step {p : Pg} (hp : PgOk p) {m k : Nat} (hk : k < p.code.length) (hm : gR (svP p) (k + 1) ≤ m) {R Q R' : List α} {W : Int → α} (h : OrI (M := M) p m k R Q W) (hto : 0 ≤ (nth p.code k).to ∧ (nth p.code k).to < p.regs)
    (hs : stepE M R (nth p.code k) = some R') : ∃ Q' W', (if nd (svP p).need k = true then stepE M Q (gI (svP p) k) else some Q) = some Q' ∧ OrI (M := M) p m (k + 1) R' Q' W' := by
  have hc : (svP p).code = p.code := rfl
  have hcl : k < (svP p).code.length := hk
  obtain ⟨n1, n2⟩ := need_at hk
  have hnd : nd (svP p).need k = (neededM p).getD k false := rfl
  have hl := livA_length p (k + 1)
  have hton : (nth p.code k).to.toNat < p.regs.toNat := by omega
  obtain ⟨u, hu, rfl⟩ : ∃ u, M.f (nth p.code k).op (nth p.code k).c (R.getD (nth p.code k).a.toNat M.d) (R.getD (nth p.code k).b.toNat M.d) = some u ∧ R' = R.set (nth p.code k).to.toNat u := by
    unfold stepE at hs
    cases hf : M.f (nth p.code k).op (nth p.code k).c (R.getD (nth p.code k).a.toNat M.d) (R.getD (nth p.code k).b.toNat M.d) with
    | none => rw [hf] at hs; cases hs
    | some u => rw [hf] at hs; exact ⟨u, rfl, (Option.some.inj hs).symm⟩
  cases hn : nd (svP p).need k with
  | false =>
    rw [if_neg (by simp)]
    rw [← hnd, hn] at n1 n2
    rw [if_neg (by simp)] at n2
    refine ⟨Q, W, rfl, by simp [h.rlen], h.qlen, fun r hr ha => ?_, fun w hw => ?_⟩
    · have hne : r ≠ (nth p.code k).to.toNat := fun e => by rw [e, ← n1] at ha; cases ha
      rw [getDA_set (by rw [h.rlen]; exact hton), if_neg hne, heldR, hn, if_neg (by simp)]
      exact h.reg r hr (by rw [n2]; exact ha)
    · rw [alive_succ_no hcl hn] at hw
      rw [gP_old (by have := vals_lt (alive_vals hw); omega)]
      exact h.val w hw
  | true =>
    rw [if_pos rfl]
    rw [← hnd, hn] at n1 n2
    rw [if_pos rfl] at n2
    have hnone : ∀ r ∈ asks (nth p.code k), 0 ≤ r ∧ r < (p.regs.toNat : Int) := fun r hr => hp.inn.asks k hcl hn r hr
    have live : ∀ r ∈ asks (nth p.code k), (livA p k).getD r.toNat false = true := fun r hr => by
      have := hnone r hr
      rw [n2, getDB_mark _ _ _ (fun x hx => (hnone x hx).1) (by rw [List.length_set, hl]; omega), Bool.or_eq_true]
      right
      rw [List.any_eq_true]
      exact ⟨r, hr, by simp; omega⟩
    have hask : ∀ r ∈ asks (nth p.code k), Q.getD (gP (svP p) k (heldR (svP p) k r)).toNat M.d = R.getD r.toNat M.d := fun r hr => by
      have h1 := hnone r hr
      rw [h.val _ (asked_alive hp.inn hcl hn hr), h.reg r.toNat (by omega) (live r hr), show ((r.toNat : Nat) : Int) = r by omega]
    have hop := hp.op.ops k hcl hn
    rw [hc] at hop
    have hfq : M.f (gI (svP p) k).op (gI (svP p) k).c (Q.getD (gI (svP p) k).a.toNat M.d) (Q.getD (gI (svP p) k).b.toNat M.d) = some u := by
      rw [← hu]
      show M.f (nth p.code k).op (nth p.code k).c (Q.getD (gP (svP p) k (heldR (svP p) k (nth p.code k).a)).toNat M.d) (Q.getD (if (nth p.code k).op = 3 ∨ (nth p.code k).op = 4 then gP (svP p) k (heldR (svP p) k (nth p.code k).b) else (nth p.code k).b).toNat M.d) = _
      by_cases h34 : (nth p.code k).op = 3 ∨ (nth p.code k).op = 4
      · rw [if_pos h34, hask _ (by rw [asks_two h34]; simp), hask _ (by rw [asks_two h34]; simp)]
      · rw [hask (nth p.code k).a (by rw [asks_one h34 hop]; simp)]
        exact M.two _ _ _ _ _ (fun e => h34 (.inl e)) (fun e => h34 (.inr e))
    have hsq : stepE M Q (gI (svP p) k) = some (Q.set (gP (svP p) (k + 1) k).toNat u) := by
      unfold stepE
      rw [hfq]
      rfl
    have hk1 : (k : Int) < untilR (svP p) k := hp.ok.use k hcl hn
    have hka : (k : Int) ∈ aliveR (svP p) (k + 1) := by rw [alive_succ hn hk1]; simp
    have hlt := gP_lt hp.ok (k + 1) hcl hka
    have hnn := gP_nonneg hp.ok (k + 1) (alive_vals hka)
    have hql : (gP (svP p) (k + 1) k).toNat < Q.length := by rw [h.qlen]; omega
    rw [hsq]
    refine ⟨_, fun z => if z = (k : Int) then u else W z, rfl, by simp [h.rlen], by simp [h.qlen], fun r hr ha => ?_, fun w hw => ?_⟩
    · rw [getDA_set (by rw [h.rlen]; exact hton), heldR, hn]
      show _ = if (if true = true ∧ (nth p.code k).to = (r : Int) then (k : Int) else heldR (svP p) k r) = (k : Int) then u else W (if true = true ∧ (nth p.code k).to = (r : Int) then (k : Int) else heldR (svP p) k r)
      by_cases e : (nth p.code k).to = (r : Int)
      · have e2 : r = (nth p.code k).to.toNat := by omega
        rw [if_pos e2, if_pos (show true = true ∧ (nth p.code k).to = (r : Int) from ⟨rfl, e⟩), if_pos rfl]
      · have e2 : ¬ r = (nth p.code k).to.toNat := by omega
        have hh := vals_lt (held_mem (S := svP p) (r := (r : Int)) (by omega) k)
        rw [if_neg e2, if_neg (show ¬ (true = true ∧ (nth p.code k).to = (r : Int)) from fun x => e x.2), if_neg (by omega)]
        refine h.reg r hr ?_
        rw [n2, getDB_mark _ _ _ (fun x hx => (hnone x hx).1) (by rw [List.length_set, hl]; exact hr), Bool.or_eq_true]
        left
        rw [List.getD_eq_getElem?_getD, List.getElem?_set, if_neg (fun x => e2 x.symm), ← List.getD_eq_getElem?_getD]
        exact ha
    · rw [alive_succ hn hk1, List.mem_append, List.mem_singleton] at hw
      show _ = if w = (k : Int) then u else W w
      rcases hw with hw | rfl
      · have hwk := vals_lt (alive_vals (rest_alive hw))
        have hg0 := gP_nonneg hp.ok k (alive_vals (rest_alive hw))
        rw [gP_old (show w ≠ (k : Int) by omega), getDA_set hql, if_neg, if_neg (by omega)]
        · exact h.val w (rest_alive hw)
        · intro e
          rw [gP_new hn] at e
          refine mex_not ((restR (svP p) k).map (gP (svP p) k)) (List.mem_map.2 ⟨w, hw, ?_⟩)
          omega
      · rw [getDA_set hql, if_pos rfl, if_pos rfl]
theorem order_run {p : Pg} (hr : rightM p = true) {m : Nat} (hm : gR (svP p) p.code.length ≤ m) {R0 Q0 : List α} {W0 : Int → α} (h0 : OrI (M := M) p m 0 R0 Q0 W0) : ∀ k, k ≤ p.code.length → ∀ R, runE M (p.code.take k) R0 = some R →
    ∃ Q W, runE M (gC (svP p) k) Q0 = some Q ∧ OrI (M := M) p m k R Q W
  | 0, _, R, hR => by
    obtain rfl := Option.some.inj (show some R0 = some R from hR)
    exact ⟨Q0, W0, rfl, h0⟩
  | k + 1, hk, R, hR => by
    have hp := pgOk hr
    have hlt : k < p.code.length := hk
    rw [List.take_succ_eq_append_getElem hlt, runE_snoc] at hR
    cases hR1 : runE M (p.code.take k) R0 with
    | none => rw [hR1] at hR; cases hR
    | some R1 =>
      rw [hR1] at hR
      obtain ⟨Q, W, hQ, h⟩ := order_run hr hm h0 k (by omega) R1 hR1
      have hmm := gR_mono (S := svP p) (j := k + 1) p.code.length hk
      have hto : 0 ≤ (nth p.code k).to ∧ (nth p.code k).to < p.regs := by
        simp only [rightM, codeM, Bool.and_eq_true, List.all_eq_true] at hr
        rw [nth_get hlt]
        exact (mayM_facts (hr.2 _ (List.getElem_mem hlt))).2.1
      obtain ⟨Q', W', hq, hi⟩ := order_step hp hlt (by omega) h hto (by rw [nth_get hlt]; exact hR)
      refine ⟨Q', W', ?_, hi⟩
      rw [gC]
      split
      · rename_i hn
        rw [if_pos hn] at hq
        rw [runE_snoc, hQ]
        exact hq
      · rename_i hn
        rw [if_neg hn] at hq
        obtain rfl := Option.some.inj hq
        exact hQ
theorem order_same {p : Pg} (hr : rightM p = true) {R0 Q0 : List α} {z : α} (hR : R0.length = p.regs.toNat) (hQ : Q0.length = (packM p).regs.toNat) (hi : ∀ r : Nat, r < p.ins → Q0.getD r M.d = R0.getD r M.d)
    (hz : ∀ r : Nat, p.ins ≤ r → r < p.regs.toNat → R0.getD r M.d = z) (hz2 : ∀ r : Nat, p.ins ≤ r → r < (packM p).regs.toNat → Q0.getD r M.d = z) {R : List α} (hrun : runE M p.code R0 = some R) :
    ∃ Q, runE M (packM p).code Q0 = some Q ∧ (packM p).outs.map (fun r => Q.getD r.toNat M.d) = p.outs.map (fun r => R.getD r.toNat M.d) := by
  have hp := pgOk hr
  rw [packM_eq hp] at hQ hz2 ⊢
  have hm : gR (svP p) p.code.length ≤ ((greedy (svP p)).regs.toNat : Int) := by
    show gR (svP p) p.code.length ≤ ((gR (svP p) p.code.length).toNat : Int)
    omega
  have hm0 := gR_mono (S := svP p) (j := 0) p.code.length (Nat.zero_le _)
  have h0 := order_start (M := M) hp (by omega) hR hQ hi hz hz2
  obtain ⟨Q, W, hQ2, h⟩ := order_run hr hm h0 p.code.length (Nat.le_refl _) R (by rw [List.take_of_length_le (Nat.le_refl _)]; exact hrun)
  refine ⟨Q, hQ2, ?_⟩
  show (gOuts (svP p)).map _ = _
  unfold gOuts
  rw [List.map_map]
  refine List.map_congr_left fun r hro => ?_
  have hb := hp.inn.outs r hro
  show Q.getD (gP (svP p) p.code.length (heldR (svP p) p.code.length r)).toNat M.d = _
  rw [h.val _ (show heldR (svP p) p.code.length r ∈ aliveR (svP p) p.code.length from out_alive hp.inn hro), h.reg r.toNat (by omega) ?_, show ((r.toNat : Nat) : Int) = r by omega]
  show (needL (asked0 p.regs.toNat p.outs) (p.code.drop p.code.length)).1.getD r.toNat false = true
  rw [List.drop_length]
  show (asked0 p.regs.toNat p.outs).getD r.toNat false = true
  rw [asked0_get (outs := p.outs) (fun x hx => hp.inn.outs x hx) hb.1 hb.2, List.any_eq_true]
  exact ⟨r, hro, by simp⟩
end
end Go.Proofs.Sw
namespace Go.Proofs.Sw
open Go.Ab
variable [Globals]
theorem live16 (k : Nat) : run (k+60) 40 [] = some (bb true) := by kernel_rfl
def lg16 (p : Pg) : Bool := decide (40 < p.code.length) || decide (40 < p.outs.length)
theorem lg16_ev (k : Nat) (p : Pg) (nl : Bool) (cap : Option Nat) (nl2 : Bool) (cap2 : Option Nat) : run (k+1) 42 [aP p nl cap nl2 cap2] = some (bb (lg16 p)) := by
  rw [run, ev42, ans_trim]
  by_cases h1 : (40 : Int) < p.code.length
  · have : 40 < p.code.length := by omega
    simp only [Try.f42, aP, ii, bb, h1, FT, Int.reduceEq, Int.reduceToNat, Int.reduceLE, Int.reduceLT, Int.reduceAdd, Int.reduceMul, Int.reduceSub, Int.reduceNeg, Nat.reduceAdd, Nat.reduceSub, Nat.reduceMul, Nat.reduceLT, Nat.reduceBEq, Nat.reduceEqDiff, Nat.reduceLeDiff]
    simp [lg16, this]
  · have : ¬ 40 < p.code.length := by omega
    simp only [Try.f42, aP, ii, bb, h1, FT, Int.reduceEq, Int.reduceToNat, Int.reduceLE, Int.reduceLT, Int.reduceAdd, Int.reduceMul, Int.reduceSub, Int.reduceNeg, Nat.reduceAdd, Nat.reduceSub, Nat.reduceMul, Nat.reduceLT, Nat.reduceBEq, Nat.reduceEqDiff, Nat.reduceLeDiff]
    by_cases h2 : (40 : Int) < p.outs.length
    · have : 40 < p.outs.length := by omega
      simp [lg16, *]
    · have : ¬ 40 < p.outs.length := by omega
      simp [lg16, *]
theorem packM_small {p : Pg} (hr : rightM p = true) : (packM p).code.length ≤ p.code.length ∧ (packM p).outs.length = p.outs.length ∧ (packM p).ins = p.ins := by
  rw [packM_eq (pgOk hr)]
  exact ⟨by show (gC _ _).length ≤ _; rw [gC_length]; exact cnt_le _ _, by show (gOuts _).length = _; unfold gOuts; rw [List.length_map]; rfl, rfl⟩
theorem Pack_run (k : Nat) (ins : Int) (n : Nat) (code : List Ins) (outs : List Int) (nl : Bool) (cap : Option Nat) (nl2 : Bool) (cap2 : Option Nat) (hk : outs.length + code.length + 3000 ≤ k) (hr : rightM ⟨ins, n, code, outs⟩ = true) :
    ∃ (nl3 : Bool) (cap3 : Option Nat), run (k+3) 44 [aP ⟨ins, n, code, outs⟩ nl cap nl2 cap2] = some (.tup [aP (packM ⟨ins, n, code, outs⟩) nl3 cap3 false none, ii 0]) := by
  obtain ⟨X, h⟩ := Pack_ev k ins n code outs nl cap nl2 cap2 hk hr
  obtain ⟨_, hol, hin⟩ := packM_small hr
  obtain ⟨⟨i2, r2, C, O⟩, hq⟩ : ∃ q, q = packM ⟨ins, n, code, outs⟩ := ⟨_, rfl⟩
  rw [← hq] at h hol hin ⊢
  simp only at h hol hin
  subst hin
  have hel := encCode_length C
  have hOe : (encInts O).length = outs.length := by rw [encInts_length, hol]
  have htk : (encInts O).take outs.length = encInts O := List.take_of_length_le (by rw [hOe]; exact Nat.le_refl _)
  by_cases h0 : C.length = 0
  · have hCn : C = [] := List.eq_nil_of_length_eq_zero h0
    subst hCn
    refine ⟨true, some 0, ?_⟩
    unfold run
    rw [h]
    simp only [List.length_nil, lv_zero, lo_zero, hOe, htk, Nat.le_refl, FT, Int.reduceEq, Int.reduceToNat, Int.reduceLE, Int.reduceLT, Int.reduceAdd, Int.reduceMul, Int.reduceSub, Int.reduceNeg, Nat.reduceAdd, Nat.reduceSub, Nat.reduceMul, Nat.reduceLT, Nat.reduceBEq, Nat.reduceEqDiff, Nat.reduceLeDiff]
    simp only [aP, sC, sI, encCode, List.length_nil, hol]
  · refine ⟨false, none, ?_⟩
    unfold run
    have e0 : cdO C = .row false 34 (encCode C) := lo_pos (show 0 < C.length by omega)
    rw [h, lv_pos (show 0 < C.length by omega), e0]
    have htc : (encCode C).take (C.length * 5) = encCode C := List.take_of_length_le (by rw [hel]; exact Nat.le_refl _)
    simp only [hel, htc, hOe, htk, Nat.le_refl, FT, Int.reduceEq, Int.reduceToNat, Int.reduceLE, Int.reduceLT, Int.reduceAdd, Int.reduceMul, Int.reduceSub, Int.reduceNeg, Nat.reduceAdd, Nat.reduceSub, Nat.reduceMul, Nat.reduceLT, Nat.reduceBEq, Nat.reduceEqDiff, Nat.reduceLeDiff]
    simp only [aP, sC, sI, hol]
theorem loop_ox (kf : Nat) (o0 o1 : AObj) (h0 : o0.under 2 = true) (h1 : o1.under 2 = true) (A B : List Rw) (hAB : A.length = B.length) (hA6 : A.length ≤ 1000) (nl nl2 : Bool) (cap cap2 : Option Nat) (hv : A.map Rw.vals = B.map Rw.vals) (L : Nat) (hL : L ≤ 1000) (hAS : ∀ r ∈ A, SzR L 2000 r) (hBS : ∀ r ∈ B, SzR L 2000 r) (hkf : 50000 ≤ kf) (k : Nat) (l : Ass) (z : Option Out) (hz : loopR Try.prog tab (kf + 3) none LB45_11 45 76 [10, 13, 14] 2 k l ([o0, o1]) = z) (hk : A.length < k) (a10 : asc l 10 = sW A nl cap) (a13 : asc l 13 = sW B nl2 cap2) (a14 : asc l 14 = ii 0) :
    ∃ l', z = some (.exit 0 (fr 76 l') ([o0, o1])) ∧ asc l' 10 = sW A nl cap ∧ asc l' 13 = sW B nl2 cap2 ∧ asc l' 14 = ii A.length := by
  subst hz
  refine loop_nat A.length (fun k l H => loopR Try.prog tab (kf + 3) none LB45_11 45 76 [10, 13, 14] 2 k l H)
    (fun i l H => asc l 10 = sW A nl cap ∧ asc l 13 = sW B nl2 cap2 ∧ asc l 14 = ii i ∧ ∃ G, H = ([o0, o1]) ++ G)
    (fun z => ∃ l', z = some (.exit 0 (fr 76 l') ([o0, o1])) ∧ asc l' 10 = sW A nl cap ∧ asc l' 13 = sW B nl2 cap2 ∧ asc l' 14 = ii A.length) ?_ A.length 0 k l _ (by omega) hk ⟨a10, a13, a14, [], by rw [List.append_nil]⟩
  clear hk a10 a13 a14
  rintro i k l H hi ⟨a10, a13, a14, G, rfl⟩
  have ht : trim 2 (fr 76 (keep l [10, 13, 14])) (([o0, o1]) ++ G) = ([o0, o1]) := trim_app (by simp) (by simp only [a10, a13, a14, h0, h1, EVb, EVc, Int.reduceEq, Int.reduceToNat, Int.reduceLE, Int.reduceLT, Int.reduceAdd, Int.reduceMul, Int.reduceSub, Int.reduceNeg, Nat.reduceAdd, Nat.reduceSub, Nat.reduceMul, Nat.reduceLT, Nat.reduceBEq, Nat.reduceEqDiff, Nat.reduceLeDiff]) (by simp only [h0, h1, EVb, EVc, Int.reduceEq, Int.reduceToNat, Int.reduceLE, Int.reduceLT, Int.reduceAdd, Int.reduceMul, Int.reduceSub, Int.reduceNeg, Nat.reduceAdd, Nat.reduceSub, Nat.reduceMul, Nat.reduceLT, Nat.reduceBEq, Nat.reduceEqDiff, Nat.reduceLeDiff])
  by_cases hc : i < A.length
  · have hc' : (i : Int) < ((A.length : Nat) : Int) := by omega
    have hc0 : (0 : Int) ≤ i := by omega
    have hw : IntKind.wrap .i64 ((i : Int) + 1) = ((i + 1 : Nat) : Int) := by rw [wrap64 (by omega) (by omega)]; omega
    have hcB : i < B.length := by omega
    have hx := encW_getN hc
    have hy := encW_getN hcB
    have hcB' : (i : Int) < B.length := by omega
    have hea := encW_length A
    have heb := encW_length B
    have hga : A.getD i dR ∈ A := by rw [List.getD_eq_getElem?_getD, List.getElem?_eq_getElem hc]; exact List.getElem_mem hc
    have hgb : B.getD i dR ∈ B := by rw [List.getD_eq_getElem?_getD, List.getElem?_eq_getElem hcB]; exact List.getElem_mem hcB
    have he : (A.getD i dR).l.map RI.v = (B.getD i dR).l.map RI.v := by
      have := congrArg (fun l => l[i]?) hv
      simp only [List.getElem?_map, List.getElem?_eq_getElem hc, List.getElem?_eq_getElem hcB, Option.map_some, Option.some.injEq] at this
      rw [List.getD_eq_getElem?_getD, List.getElem?_eq_getElem hc, List.getD_eq_getElem?_getD, List.getElem?_eq_getElem hcB]
      exact this
    have hsm := wSame_ev kf (A.getD i dR).l (B.getD i dR).l (A.getD i dR).nl (B.getD i dR).nl (A.getD i dR).cap (B.getD i dR).cap (by rw [(hAS _ hga).len]; omega) (fun x hx => Nat.le_trans ((hAS _ hga).sz x hx) (by decide)) (fun x hx => Nat.le_trans ((hBS _ hgb).sz x hx) (by decide)) hkf
    rw [he, decide_eq_true (rfl : _ = _)] at hsm
    simp only [run, bb] at hsm
    simp only [loopR_succ, ht]
    simp only [a10, a13, a14, hc', hc0, hw, hx, hy, hcB', hea, heb, hsm, loopR_succ, loopOf, findLoop, firstRegion, Option.some_or, Option.none_or, Option.getD_some, Option.some.injEq, Try.f45, FT, Int.reduceEq, Int.reduceToNat, Int.reduceLE, Int.reduceLT, Int.reduceAdd, Int.reduceMul, Int.reduceSub, Int.reduceNeg, Nat.reduceAdd, Nat.reduceSub, Nat.reduceMul, Nat.reduceLT, Nat.reduceBEq, Nat.reduceEqDiff, Nat.reduceLeDiff]
    rw [evalCode_drawn Try.f45 13 dr45_13]; rotate_left; rfl
    simp only [a10, a13, a14, hc', hc0, hw, hx, hy, hcB', hea, heb, hsm, EVd, List.getElem?_nil, Nat.reducePow, Nat.reduceDiv, Nat.reduceMod, FT, Int.reduceEq, Int.reduceToNat, Int.reduceLE, Int.reduceLT, Int.reduceAdd, Int.reduceMul, Int.reduceSub, Int.reduceNeg, Nat.reduceAdd, Nat.reduceSub, Nat.reduceMul, Nat.reduceLT, Nat.reduceBEq, Nat.reduceEqDiff, Nat.reduceLeDiff]
    try simp only [a10, a13, a14, hc', hc0, hw, hx, hy, hcB', hea, heb, hsm, FT, Int.reduceEq, Int.reduceToNat, Int.reduceLE, Int.reduceLT, Int.reduceAdd, Int.reduceMul, Int.reduceSub, Int.reduceNeg, Nat.reduceAdd, Nat.reduceSub, Nat.reduceMul, Nat.reduceLT, Nat.reduceBEq, Nat.reduceEqDiff, Nat.reduceLeDiff]
    exact .inr ⟨_, _, hc, rfl, (by rfl), (by rfl), (by rfl), ⟨_, by rfl⟩⟩
  · refine .inl ?_
    obtain rfl : i = A.length := by omega
    have hc' : ¬ (((A.length : Nat) : Int) < ((A.length : Nat) : Int)) := by omega
    simp only [loopR_succ, ht]
    simp only [a10, a13, a14, hc', loopR_succ, loopOf, findLoop, firstRegion, Option.some_or, Option.none_or, Option.getD_some, Option.some.injEq, Try.f45, FT, Int.reduceEq, Int.reduceToNat, Int.reduceLE, Int.reduceLT, Int.reduceAdd, Int.reduceMul, Int.reduceSub, Int.reduceNeg, Nat.reduceAdd, Nat.reduceSub, Nat.reduceMul, Nat.reduceLT, Nat.reduceBEq, Nat.reduceEqDiff, Nat.reduceLeDiff]
    exact ⟨_, rfl, (by rfl), (by rfl), (by rfl)⟩
theorem ini_get {Q : List Rw} {L n r : Nat} (hr : r < n) (hq : r < Q.length) (d : List Int) : ((iniR Q L n n).map Rw.vals).getD r d = (Q.getD r dR).vals := by
  rw [List.getD_eq_getElem?_getD]
  unfold iniR
  rw [List.map_map, List.getElem?_map, List.getElem?_range hr]
  show Rw.vals (if r < n then _ else _) = _
  rw [if_pos hr, if_pos hq]
theorem answers_ev (k : Nat) (ins : Int) (n m : Nat) (code C : List Ins) (outs O : List Int) (nl : Bool) (cap : Option Nat) (nl2 : Bool) (cap2 : Option Nat) (nlq : Bool) (capq : Option Nat) (nlq2 : Bool) (capq2 : Option Nat) (Q : List Rw) (nl3 : Bool) (cap3 : Option Nat) (L : Nat) (hk : 60000 ≤ k) (hL : L ≤ 20) (hQ0 : 0 < Q.length) (hQs : ∀ r ∈ Q, SzR L 4 r)
    (hr : rightM ⟨ins, n, code, outs⟩ = true) (hrq : rightM ⟨ins, m, C, O⟩ = true) (hcl : code.length ≤ 200) (hol : outs.length ≤ 200) (hcl2 : C.length ≤ 200) (hOl : O.length = outs.length)
    (hsame : ∀ R, runE (rowSem L) code ((iniR Q L n n).map Rw.vals) = some R → ∃ R', runE (rowSem L) C ((iniR Q L m m).map Rw.vals) = some R' ∧ O.map (fun r => R'.getD r.toNat (rowSem L).d) = outs.map (fun r => R.getD r.toNat (rowSem L).d)) :
    run (k+61) 45 [aP ⟨ins, n, code, outs⟩ nl cap nl2 cap2, aP ⟨ins, m, C, O⟩ nlq capq nlq2 capq2, sW Q nl3 cap3] = some (bb true) := by
  have hrt := rRight_ev (k + 59) ⟨ins, m, C, O⟩ nlq capq nlq2 capq2 (by show O.length + C.length + 11 ≤ _; omega)
  have hr' := hr
  simp only [rightM, headM, codeM, outsM, Bool.and_eq_true, decide_eq_true_eq, List.all_eq_true] at hr'
  obtain ⟨⟨⟨g1, g2, g3, g4, g5, g6⟩, go⟩, gc⟩ := hr'
  have hrq' := hrq
  simp only [rightM, headM, codeM, outsM, Bool.and_eq_true, decide_eq_true_eq, List.all_eq_true] at hrq'
  obtain ⟨⟨_, go2⟩, _⟩ := hrq'
  have hF1 := Follow_ev (k + 51) ins n code outs nl cap nl2 cap2 Q nl3 cap3 L (by omega) (by omega) hQs hr (by omega) (by omega) (by omega)
  have hF2 := Follow_ev (k + 51) ins m C O nlq capq nlq2 capq2 Q nl3 cap3 L (by omega) (by omega) hQs hrq (by omega) (by omega) (by omega)
  have hOli : (O.length : Int) = outs.length := by omega
  rcases hF1 with ⟨hn1, ss1, sn1, sb1, sc1, j1, hv1⟩ | ⟨ss1, sn1, sb1, sc1, R1, nl4, cap4, hn1, hR1l, hR1s, hv1⟩
  · have hj1 : (0 : Int) ≤ j1 := by omega
    simp only [run, aP, ii, bb, sC, sI, hrq] at hv1 hrt
    rw [run, ev45, ans_trim]
    simp only [Try.f45, aP, ii, bb, hrt, hv1, hOli, hj1, FT, Int.reduceEq, Int.reduceToNat, Int.reduceLE, Int.reduceLT, Int.reduceAdd, Int.reduceMul, Int.reduceSub, Int.reduceNeg, Nat.reduceAdd, Nat.reduceSub, Nat.reduceMul, Nat.reduceLT, Nat.reduceBEq, Nat.reduceEqDiff, Nat.reduceLeDiff]
  · obtain ⟨R', hs1, hs2⟩ := hsame _ hn1
    rcases hF2 with ⟨hn2, _⟩ | ⟨ss2, sn2, sb2, sc2, R2, nl5, cap5, hn2, hR2l, hR2s, hv2⟩
    · rw [hs1] at hn2; cases hn2
    · rw [hs1] at hn2
      obtain rfl := Option.some.inj hn2
      have go1 : ∀ r ∈ outs, 0 ≤ r ∧ r < (R1.length : Int) := fun r hr => by rw [hR1l]; exact go r hr
      have go2' : ∀ r ∈ O, 0 ≤ r ∧ r < (R2.length : Int) := fun r hr => by rw [hR2l]; exact go2 r hr
      obtain ⟨Xo, hXo⟩ : ∃ Xo, Xo = outs.map (fun r => R1.getD r.toNat dR) := ⟨_, rfl⟩
      obtain ⟨Yo, hYo⟩ : ∃ Yo, Yo = O.map (fun r => R2.getD r.toNat dR) := ⟨_, rfl⟩
      have hXl : Xo.length = outs.length := by rw [hXo, List.length_map]
      have hYl : Yo.length = outs.length := by rw [hYo, List.length_map, hOl]
      have hXY : Xo.map Rw.vals = Yo.map Rw.vals := by
        rw [hXo, hYo, out_vals go1 (rowSem L).d, out_vals go2' (rowSem L).d]
        exact hs2.symm
      have hXs : ∀ r ∈ Xo, SzR L 2000 r := by rw [hXo]; exact SzR.out (fun r hr => (hR1s r hr).mono (by omega)) go1
      have hYs : ∀ r ∈ Yo, SzR L 2000 r := by rw [hYo]; exact SzR.out (fun r hr => (hR2s r hr).mono (by omega)) go2'
      rw [← hXo] at hv1
      rw [← hYo] at hv2
      simp only [run, aP, ii, bb, sC, sI, sW, hXl, hYl, hrq] at hv1 hv2 hrt
      rw [run, ev45, ans_trim]
      simp only [Try.f45, aP, ii, bb, sW, hrt, hv1, hv2, hOli, FT, Int.reduceEq, Int.reduceToNat, Int.reduceLE, Int.reduceLT, Int.reduceAdd, Int.reduceMul, Int.reduceSub, Int.reduceNeg, Nat.reduceAdd, Nat.reduceSub, Nat.reduceMul, Nat.reduceLT, Nat.reduceBEq, Nat.reduceEqDiff, Nat.reduceLeDiff]
      rw [evalCode_loopB LB45_11 lp45_11]; rotate_left; rfl; rfl; rfl
      generalize hz : loopR _ _ _ _ _ _ _ _ _ _ _ _ = z
      obtain ⟨l9, rfl, f10, f13, f14⟩ := loop_ox (k + 57) _ _ (by rfl) (by rfl) Xo Yo (by rw [hXl, hYl]) (by omega) nl4 nl5 cap4 cap5 hXY L (by omega) hXs hYs (by omega) _ _ z hz (by omega) (by rw [sW, hXl]; rfl) (by rw [sW, hYl]; rfl) (by rfl)
      simp only [FT, Int.reduceEq, Int.reduceToNat, Int.reduceLE, Int.reduceLT, Int.reduceAdd, Int.reduceMul, Int.reduceSub, Int.reduceNeg, Nat.reduceAdd, Nat.reduceSub, Nat.reduceMul, Nat.reduceLT, Nat.reduceBEq, Nat.reduceEqDiff, Nat.reduceLeDiff]
theorem OrderSame_ev (k : Nat) (p : Pg) (nl : Bool) (cap : Option Nat) (nl2 : Bool) (cap2 : Option Nat) (D : List Gr) (nl3 : Bool) (cap3 : Option Nat) (hk : p.outs.length + p.code.length + D.length + 70100 ≤ k) (_ : nl = true → p.code = []) (_ : nl2 = true → p.outs = []) (hs : p.code.length * 40 ≤ roomBytes) (_ : p.outs.length * 8 ≤ roomBytes) (hD : GrOk D) (hq6 : D.length ≤ 4611686018427387904) (hs24 : D.length * 24 ≤ roomBytes) :
    run (k+1) 8 [aP p nl cap nl2 cap2, sG D nl3 cap3] = some (bb true) := by
  have hl6 : p.code.length ≤ 4611686018427387904 := Nat.le_trans (show p.code.length ≤ p.code.length * 40 by omega) (Nat.le_trans hs (by decide))
  obtain ⟨k, rfl⟩ : ∃ j, k = j + 120 := ⟨k - 120, by omega⟩
  have hwk := live16 (k + 60)
  have hlg' := lg16_ev (k + 119) p nl cap nl2 cap2
  have hrt := rRight_ev (k + 119) p nl cap nl2 cap2 (by omega)
  have hgr := grids_ev (k + 117) D nl3 cap3 hD hs24 hq6 (by omega)
  cases hlg : lg16 p with
  | true =>
    simp only [run, aP, ii, sC, sI, bb, hlg] at hwk hlg' hrt
    rcases hgr with hg | ⟨Q, nlg, capg, hQ, hg⟩
    · simp only [run, bb] at hg
      rw [run, ev8, ans_trim]
      simp only [Try.f8, aP, ii, bb, hwk, hlg', hrt, hg, FT, Int.reduceEq, Int.reduceToNat, Int.reduceLE, Int.reduceLT, Int.reduceAdd, Int.reduceMul, Int.reduceSub, Int.reduceNeg, Nat.reduceAdd, Nat.reduceSub, Nat.reduceMul, Nat.reduceLT, Nat.reduceBEq, Nat.reduceEqDiff, Nat.reduceLeDiff]
    · simp only [run, bb] at hg
      rw [run, ev8, ans_trim]
      simp only [Try.f8, aP, ii, bb, hwk, hlg', hrt, hg, FT, Int.reduceEq, Int.reduceToNat, Int.reduceLE, Int.reduceLT, Int.reduceAdd, Int.reduceMul, Int.reduceSub, Int.reduceNeg, Nat.reduceAdd, Nat.reduceSub, Nat.reduceMul, Nat.reduceLT, Nat.reduceBEq, Nat.reduceEqDiff, Nat.reduceLeDiff]
  | false =>
    cases hr : rightM p with
    | false =>
      simp only [run, aP, ii, sC, sI, bb, hlg, hr] at hwk hlg' hrt
      rcases hgr with hg | ⟨Q, nlg, capg, hQ, hg⟩
      · simp only [run, bb] at hg
        rw [run, ev8, ans_trim]
        simp only [Try.f8, aP, ii, bb, hwk, hlg', hrt, hg, FT, Int.reduceEq, Int.reduceToNat, Int.reduceLE, Int.reduceLT, Int.reduceAdd, Int.reduceMul, Int.reduceSub, Int.reduceNeg, Nat.reduceAdd, Nat.reduceSub, Nat.reduceMul, Nat.reduceLT, Nat.reduceBEq, Nat.reduceEqDiff, Nat.reduceLeDiff]
      · simp only [run, bb] at hg
        rw [run, ev8, ans_trim]
        simp only [Try.f8, aP, ii, bb, hwk, hlg', hrt, hg, FT, Int.reduceEq, Int.reduceToNat, Int.reduceLE, Int.reduceLT, Int.reduceAdd, Int.reduceMul, Int.reduceSub, Int.reduceNeg, Nat.reduceAdd, Nat.reduceSub, Nat.reduceMul, Nat.reduceLT, Nat.reduceBEq, Nat.reduceEqDiff, Nat.reduceLeDiff]
    | true =>
      rcases hgr with hg | ⟨Q, nlg, capg, hQ, hg⟩
      · simp only [run, aP, ii, sC, sI, bb, hlg, hr] at hwk hlg' hrt hg
        rw [run, ev8, ans_trim]
        simp only [Try.f8, aP, ii, bb, hwk, hlg', hrt, hg, FT, Int.reduceEq, Int.reduceToNat, Int.reduceLE, Int.reduceLT, Int.reduceAdd, Int.reduceMul, Int.reduceSub, Int.reduceNeg, Nat.reduceAdd, Nat.reduceSub, Nat.reduceMul, Nat.reduceLT, Nat.reduceBEq, Nat.reduceEqDiff, Nat.reduceLeDiff]
      · by_cases hln : (D.length : Int) = p.ins
        · have hsf := l16shifts_ev (k + 119) p nl nl2 cap cap2 hl6 (by omega)
          by_cases hsh : (12 : Int) < shN p.code p.code.length
          · simp only [run, aP, ii, sC, sI, bb, hlg, hr] at hwk hlg' hrt hsf hg
            rw [run, ev8, ans_trim]
            simp only [Try.f8, aP, ii, bb, hwk, hlg', hrt, hsf, hg, hln, hsh, FT, Int.reduceEq, Int.reduceToNat, Int.reduceLE, Int.reduceLT, Int.reduceAdd, Int.reduceMul, Int.reduceSub, Int.reduceNeg, Nat.reduceAdd, Nat.reduceSub, Nat.reduceMul, Nat.reduceLT, Nat.reduceBEq, Nat.reduceEqDiff, Nat.reduceLeDiff]
          · obtain ⟨ins, regs, code, outs⟩ := p
            obtain ⟨n, hn⟩ : ∃ n : Nat, regs = n := by
              have hr' := hr
              simp only [rightM, headM, Bool.and_eq_true, decide_eq_true_eq] at hr'
              exact ⟨regs.toNat, by omega⟩
            subst hn
            have hl := hlg
            simp only [lg16, Bool.or_eq_false_iff, decide_eq_false_iff_not] at hl
            obtain ⟨hl1, hl2⟩ := hl
            have hr' := hr
            simp only [rightM, headM, Bool.and_eq_true, decide_eq_true_eq] at hr'
            obtain ⟨⟨⟨g1, g2, g3, g4, g5, g6⟩, _⟩, _⟩ := hr'
            simp only at hln
            have hD0 : 0 < D.length := by omega
            obtain ⟨nlq, capq, hps⟩ := Pack_run (k + 117) ins n code outs nl cap nl2 cap2 (by omega) hr
            have hrq := packM_right hr
            obtain ⟨hcl2, hOl, hin⟩ := packM_small hr
            have hrq' := hrq
            simp only [rightM, headM, Bool.and_eq_true, decide_eq_true_eq] at hrq'
            obtain ⟨⟨⟨q1, q2, q3, _, _, _⟩, _⟩, _⟩ := hrq'
            obtain ⟨L, hL⟩ : ∃ L, L = (D.getD 0 dG).l.length := ⟨_, rfl⟩
            obtain ⟨_, hi2⟩ := ini_vals (n := n) hQ hD0
            obtain ⟨_, hi3⟩ := ini_vals (n := (packM ⟨ins, n, code, outs⟩).regs.toNat) hQ hD0
            have hQs := hQ.sz
            have hfit := hQ.fit
            have hQl := hQ.len
            rw [← hL] at hi2 hi3 hQs hfit
            have hos := fun R => order_same (M := rowSem L) hr (R0 := (iniR Q L n n).map Rw.vals) (Q0 := (iniR Q L (packM ⟨ins, n, code, outs⟩).regs.toNat (packM ⟨ins, n, code, outs⟩).regs.toNat).map Rw.vals) (z := List.replicate L 0) (R := R)
              (by rw [List.length_map, iniR_length]; show n = ((n : Nat) : Int).toNat; omega) (by rw [List.length_map, iniR_length])
              (fun r h => by
                have h' : (r : Int) < ins := h
                rw [ini_get (by omega) (by omega), ini_get (by omega) (by omega)])
              (fun r h1 h2 => by
                have h1' : ins ≤ (r : Int) := h1
                have h2' : r < ((n : Nat) : Int).toNat := h2
                exact hi2 r (by omega) (by omega))
              (fun r h1 h2 => by
                have h1' : ins ≤ (r : Int) := h1
                exact hi3 r (by omega) h2)
            obtain ⟨⟨i2, r2, C, O⟩, hq⟩ : ∃ q, q = packM ⟨ins, n, code, outs⟩ := ⟨_, rfl⟩
            rw [← hq] at hps hrq hcl2 hOl hin q1 q2 q3 hos
            simp only at hcl2 hOl hin q1 q2 q3 hos
            subst hin
            obtain ⟨m, hm⟩ : ∃ m : Nat, r2 = m := ⟨r2.toNat, by omega⟩
            subst hm
            rw [show ((m : Nat) : Int).toNat = m by omega] at hos
            have han := answers_ev (k + 59) i2 n m code C outs O nl cap nl2 cap2 nlq capq false none Q nlg capg L (by omega) (by omega) (by omega) hQs hr hrq (by omega) (by omega) (by omega) hOl (fun R h => hos R h)
            have hhs : ¬ (12 : Int) < shN code code.length := hsh
            simp only [run, aP, ii, sC, sI, bb, hlg, hr] at hwk hlg' hrt hsf hg hps han
            rw [run, ev8, ans_trim]
            simp only [Try.f8, aP, ii, bb, hwk, hlg', hrt, hsf, hg, hln, hhs, hps, han, FT, Int.reduceEq, Int.reduceToNat, Int.reduceLE, Int.reduceLT, Int.reduceAdd, Int.reduceMul, Int.reduceSub, Int.reduceNeg, Nat.reduceAdd, Nat.reduceSub, Nat.reduceMul, Nat.reduceLT, Nat.reduceBEq, Nat.reduceEqDiff, Nat.reduceLeDiff]
        · simp only [run, aP, ii, sC, sI, bb, hlg, hr] at hwk hlg' hrt hg
          rw [run, ev8, ans_trim]
          simp only [Try.f8, aP, ii, bb, hwk, hlg', hrt, hg, hln, FT, Int.reduceEq, Int.reduceToNat, Int.reduceLE, Int.reduceLT, Int.reduceAdd, Int.reduceMul, Int.reduceSub, Int.reduceNeg, Nat.reduceAdd, Nat.reduceSub, Nat.reduceMul, Nat.reduceLT, Nat.reduceBEq, Nat.reduceEqDiff, Nat.reduceLeDiff]
end Go.Proofs.Sw
namespace Go.Proofs.Sw
open Go.Ab
section
variable [Globals]
variable {H : Type} {enc : TypeId × Value → H} {W : World} {spare : Nat → Bool} {held : Bool} {fuel : Nat} {cs : List Value} {x : DataW H × List MemPlace}
theorem cells34 : Try.prog.cellsOf 34 = 5 := by kernel_rfl
theorem cells3 : Try.prog.cellsOf 3 = 1 := by kernel_rfl
set_option maxRecDepth 10000 in
theorem open_ins (h : DataW.trod enc Try.prog W 0 spare held fuel 34 cs = some x) : ∃ o t a b c : Int, cs = [.int .i64 o, .int .i64 t, .int .i64 a, .int .i64 b, .int .i64 c] := by
  obtain ⟨xs, n, rfl, _, hl, hx, hf⟩ := DataW.trod_struct Try.underlying34 h
  rw [cells34] at hl
  have hx' : xs.length = 5 := hx.trans (by kernel_rfl)
  match cs, hl with
  | [c0, c1, c2, c3, c4], _ =>
    have g0 : DataW.trod enc Try.prog W 0 spare held n 3 (([c0, c1, c2, c3, c4].drop 0).take (Try.prog.cellsOf 3)) = xs[0]? := hf 0 _ rfl
    have g1 : DataW.trod enc Try.prog W 0 spare held n 3 (([c0, c1, c2, c3, c4].drop 1).take (Try.prog.cellsOf 3)) = xs[1]? := hf 1 _ rfl
    have g2 : DataW.trod enc Try.prog W 0 spare held n 3 (([c0, c1, c2, c3, c4].drop 2).take (Try.prog.cellsOf 3)) = xs[2]? := hf 2 _ rfl
    have g3 : DataW.trod enc Try.prog W 0 spare held n 3 (([c0, c1, c2, c3, c4].drop 3).take (Try.prog.cellsOf 3)) = xs[3]? := hf 3 _ rfl
    have g4 : DataW.trod enc Try.prog W 0 spare held n 3 (([c0, c1, c2, c3, c4].drop 4).take (Try.prog.cellsOf 3)) = xs[4]? := hf 4 _ rfl
    rw [cells3, List.getElem?_eq_getElem (by omega)] at g0 g1 g2 g3 g4
    obtain ⟨n0, e0, _⟩ := open_num Try.underlying3 g0
    obtain ⟨n1, e1, _⟩ := open_num Try.underlying3 g1
    obtain ⟨n2, e2, _⟩ := open_num Try.underlying3 g2
    obtain ⟨n3, e3, _⟩ := open_num Try.underlying3 g3
    obtain ⟨n4, e4, _⟩ := open_num Try.underlying3 g4
    simp at e0 e1 e2 e3 e4
    exact ⟨n0, n1, n2, n3, n4, by rw [e0, e1, e2, e3, e4]⟩
theorem agg_of {v : Value} {l : List Value} (h : v.cells.toList = l) (hl : 1 < l.length) : v = .agg l.toArray := by
  cases v with
  | agg cs =>
    have : cs.toList = l := h
    rw [← this]
  | _ =>
    have h1 := congrArg List.length h
    have h2 : l.length = 1 := by rw [← h1]; rfl
    omega
theorem cells25 : Try.prog.cellsOf 25 = 4 := by kernel_rfl
theorem cells22 : Try.prog.cellsOf 22 = 1 := by kernel_rfl
theorem cells23 : Try.prog.cellsOf 23 = 1 := by kernel_rfl
theorem elem_ins (n : Nat) (cs' : List Value) (y : DataW H × List MemPlace) (h : DataW.trod enc Try.prog W 0 spare held n 34 cs' = some y) : ∃ ivs, (∃ i : Ins, ivs = enc1 i) ∧ ivs.length = 5 ∧ Rel W ivs cs' := by
  obtain ⟨o, t, a, b, c, rfl⟩ := open_ins h
  exact ⟨_, ⟨⟨o, t, a, b, c⟩, rfl⟩, rfl, Rel.cons (.int _ _) (Rel.cons (.int _ _) (Rel.cons (.int _ _) (Rel.cons (.int _ _) (Rel.cons (.int _ _) Rel.nil))))⟩
theorem elem_int (n : Nat) (cs' : List Value) (y : DataW H × List MemPlace) (h : DataW.trod enc Try.prog W 0 spare held n 3 cs' = some y) : ∃ ivs, (∃ z : Int, ivs = [.int .i64 z]) ∧ ivs.length = 1 ∧ Rel W ivs cs' := by
  obtain ⟨z, rfl, _⟩ := open_num Try.underlying3 h
  exact ⟨_, ⟨z, rfl⟩, rfl, Rel.cons (.int _ _) Rel.nil⟩
theorem code_of : ∀ (chunks : List (List IV)), (∀ c ∈ chunks, (∃ i : Ins, c = enc1 i) ∧ c.length = 5) → ∃ code : List Ins, chunks.flatten = encCode code ∧ chunks.length = code.length
  | [], _ => ⟨[], rfl, rfl⟩
  | c :: cs, h => by
    obtain ⟨code, h1, h2⟩ := code_of cs fun c hc => h c (by simp [hc])
    obtain ⟨⟨i, rfl⟩, _⟩ := h c (by simp)
    exact ⟨i :: code, by rw [List.flatten_cons, h1, encCode], by simp [h2]⟩
theorem ints_of : ∀ (chunks : List (List IV)), (∀ c ∈ chunks, (∃ z : Int, c = [.int .i64 z]) ∧ c.length = 1) → ∃ l : List Int, chunks.flatten = encInts l ∧ chunks.length = l.length
  | [], _ => ⟨[], rfl, rfl⟩
  | c :: cs, h => by
    obtain ⟨l, h1, h2⟩ := ints_of cs fun c hc => h c (by simp [hc])
    obtain ⟨⟨z, rfl⟩, _⟩ := h c (by simp)
    exact ⟨z :: l, by rw [List.flatten_cons, h1]; rfl, by simp [h2]⟩
set_option maxRecDepth 10000 in
theorem open_pgV {v : Value} {d : DataW H} {p : List MemPlace} (h : DataW.Trod enc Try.prog W 0 spare held 25 v d p) :
    ∃ (q : Pg) (nl nl2 : Bool), VRel (Old W) [] [] W (aP q nl none nl2 none) v ∧ (nl = true → q.code = []) ∧ (nl2 = true → q.outs = []) ∧ q.code.length ≤ maxLen ∧ q.outs.length ≤ maxLen := by
  obtain ⟨m, hm⟩ := h
  generalize hcs : v.cells.toList = cs at hm
  obtain ⟨xs, n, rfl, _, hl, hx, hf⟩ := DataW.trod_struct Try.underlying25 hm
  rw [cells25] at hl
  have hx' : xs.length = 4 := hx.trans (by kernel_rfl)
  match cs, hl with
  | [c0, c1, c2, c3], _ =>
    have g0 : DataW.trod enc Try.prog W 0 spare held n 3 (([c0, c1, c2, c3].drop 0).take (Try.prog.cellsOf 3)) = xs[0]? := hf 0 _ rfl
    have g1 : DataW.trod enc Try.prog W 0 spare held n 3 (([c0, c1, c2, c3].drop 1).take (Try.prog.cellsOf 3)) = xs[1]? := hf 1 _ rfl
    have g2 : DataW.trod enc Try.prog W 0 spare held n 22 (([c0, c1, c2, c3].drop 2).take (Try.prog.cellsOf 22)) = xs[2]? := hf 2 _ rfl
    have g3 : DataW.trod enc Try.prog W 0 spare held n 23 (([c0, c1, c2, c3].drop 3).take (Try.prog.cellsOf 23)) = xs[3]? := hf 3 _ rfl
    rw [cells3, List.getElem?_eq_getElem (by omega)] at g0 g1
    rw [cells22, List.getElem?_eq_getElem (by omega)] at g2
    rw [cells23, List.getElem?_eq_getElem (by omega)] at g3
    obtain ⟨n0, e0, _⟩ := open_num Try.underlying3 g0
    obtain ⟨n1, e1, _⟩ := open_num Try.underlying3 g1
    obtain ⟨v2, ch2, nl, e2, o2, hg2, hl2, hn2, r2⟩ := open_slice (fun ivs => ∃ i : Ins, ivs = enc1 i) Try.underlying22 cells34 (by omega) elem_ins g2
    obtain ⟨v3, ch3, nl2, e3, o3, hg3, hl3, hn3, r3⟩ := open_slice (fun ivs => ∃ z : Int, ivs = [.int .i64 z]) Try.underlying23 cells3 (by omega) elem_int g3
    simp at e0 e1 e2 e3
    subst e0; subst e1; subst e2; subst e3
    obtain ⟨code, k1, k2⟩ := code_of ch2 hg2
    obtain ⟨outs, k3, k4⟩ := ints_of ch3 hg3
    rw [k1, k2] at r2
    rw [k3, k4] at r3
    refine ⟨⟨n0, n1, code, outs⟩, nl, nl2, ?_, fun h => ?_, fun h => ?_, by rw [← k2]; exact hl2, by rw [← k4]; exact hl3⟩
    · rw [agg_of hcs (by simp)]
      exact VRel.of_rel (xs := [.int .i64 n0, .int .i64 n1, .slice (encCode code) code.length nl none, .slice (encInts outs) outs.length nl2 none]) (Rel.cons (.int _ _) (Rel.cons (.int _ _) (Rel.cons r2 (Rel.cons r3 Rel.nil))))
    · have := hn2 h
      subst this
      exact List.eq_nil_of_length_eq_zero k2.symm
    · have := hn3 h
      subst this
      exact List.eq_nil_of_length_eq_zero k4.symm
end
end Go.Proofs.Sw
namespace Go.Proofs.Sw
open Go.Ab
section
variable [Globals]
variable {H : Type} {enc : TypeId × Value → H} {W : World} {spare : Nat → Bool} {held : Bool} {fuel : Nat}
theorem rel_len {ivs : List IV} {n : Nat} {nl : Bool} {cap : Option Nat} {a : Option Addr} {len c : Nat} (h : IRel (Old W) W (.slice ivs n nl cap) (.slice a len c)) : n = len := by
  cases h; rfl
theorem slice_len {t e : TypeId} {cs : List Value} {x : DataW H × List MemPlace} {v : Value} {ivs : List IV} {n : Nat} {nl : Bool} {cap : Option Nat} (ht : Try.prog.underlying t = some (.slice e)) (h : DataW.trod enc Try.prog W 0 spare held fuel t cs = some x) (hv : cs = [v]) (hr : IRel (Old W) W (.slice ivs n nl cap) v) :
    (∃ el sp, x.1 = .slice el sp ∧ el.length = n) ∨ n = 0 := by
  rcases DataW.trod_slice ht h with ⟨rfl, _⟩ | ⟨a, len, cp, elems, rest, m, _, rfl, rfl, _, _, _, hel, _, _, _⟩
  · obtain rfl : v = .slice none 0 0 := by simpa using hv.symm
    exact .inr (rel_len hr)
  · obtain rfl : v = .slice (some a) len cp := by simpa using hv.symm
    exact .inl ⟨_, _, rfl, by rw [List.length_map, hel]; exact (rel_len hr).symm⟩
theorem pg_rel {q : Pg} {nl nl2 : Bool} {v : Value} (h : VRel (Old W) [] [] W (aP q nl none nl2 none) v) {c0 c1 c2 c3 : Value} (hc : v.cells.toList = [c0, c1, c2, c3]) :
    IRel (Old W) W (.slice (encCode q.code) q.code.length nl none) c2 ∧ IRel (Old W) W (.slice (encInts q.outs) q.outs.length nl2 none) c3 := by
  cases h with
  | agg h1 h2 r =>
    rename_i cs
    have e : cs.toList = [c0, c1, c2, c3] := hc
    have g : ∀ i c, [c0, c1, c2, c3][i]? = some c → cs.getD i undef = c := fun i c hi => by
      have : cs[i]? = some c := by rw [← Array.getElem?_toList, e]; exact hi
      rw [Array.getD_eq_getD_getElem?, this]; rfl
    constructor
    · have := r 2 _ rfl
      rw [g 2 c2 rfl] at this
      cases this with
      | c h => exact h
    · have := r 3 _ rfl
      rw [g 3 c3 rfl] at this
      cases this with
      | c h => exact h
set_option maxRecDepth 10000 in
theorem open_pgZ {q : Pg} {nl nl2 : Bool} {v : Value} {d : DataW H} {p : List MemPlace} (h : DataW.Trod enc Try.prog W 0 spare held 25 v d p) (hr : VRel (Old W) [] [] W (aP q nl none nl2 none) v) (hz : (d.weights Try.prog 25).all (· ≤ reachBytes) = true) :
    q.code.length * 40 ≤ reachBytes ∧ q.outs.length * 8 ≤ reachBytes := by
  obtain ⟨m, hm⟩ := h
  generalize hcs : v.cells.toList = cs at hm
  obtain ⟨xs, n, rfl, hx0, hl, hx, hf⟩ := DataW.trod_struct Try.underlying25 hm
  rw [cells25] at hl
  have hx' : xs.length = 4 := hx.trans (by kernel_rfl)
  simp only [Prod.mk.injEq] at hx0
  obtain ⟨rfl, _⟩ := hx0
  simp only [DataW.weights, Try.underlying25] at hz
  match cs, hl with
  | [c0, c1, c2, c3], _ =>
    have g2 : DataW.trod enc Try.prog W 0 spare held n 22 (([c0, c1, c2, c3].drop 2).take (Try.prog.cellsOf 22)) = xs[2]? := hf 2 _ rfl
    have g3 : DataW.trod enc Try.prog W 0 spare held n 23 (([c0, c1, c2, c3].drop 3).take (Try.prog.cellsOf 23)) = xs[3]? := hf 3 _ rfl
    rw [cells22, List.getElem?_eq_getElem (by omega)] at g2
    rw [cells23, List.getElem?_eq_getElem (by omega)] at g3
    obtain ⟨r2, r3⟩ := pg_rel hr hcs
    have b34 : Try.prog.bytesOf 34 = 40 := by kernel_rfl
    have b3 : Try.prog.bytesOf 3 = 8 := by kernel_rfl
    constructor
    · rcases slice_len Try.underlying22 g2 rfl r2 with ⟨el, sp, e, he⟩ | h0
      · have := sized_slice hz (j := 2) (t := 22) (e := 34) (elems := el) (spare := sp) rfl (by rw [List.getElem?_map, List.getElem?_eq_getElem (by omega), Option.map_some, e]) Try.underlying22
        rw [b34, he] at this
        exact Nat.le_trans (Nat.mul_le_mul_right 40 (Nat.le_add_right _ _)) this
      · rw [h0]; decide
    · rcases slice_len Try.underlying23 g3 rfl r3 with ⟨el, sp, e, he⟩ | h0
      · have := sized_slice hz (j := 3) (t := 23) (e := 3) (elems := el) (spare := sp) rfl (by rw [List.getElem?_map, List.getElem?_eq_getElem (by omega), Option.map_some, e]) Try.underlying23
        rw [b3, he] at this
        exact Nat.le_trans (Nat.mul_le_mul_right 8 (Nat.le_add_right _ _)) this
      · rw [h0]; decide
theorem reach_room {n : Nat} (h : n ≤ reachBytes) : n ≤ Go.Ab.roomBytes := Nat.le_trans h (by decide)
end
end Go.Proofs.Sw
namespace Go.Proofs.Sw
open Go.Ab
section
variable [Globals]
variable {H : Type} {enc : TypeId × Value → H} {W : World} {spare : Nat → Bool} {held : Bool} {fuel : Nat} {cs : List Value} {x : DataW H × List MemPlace}
theorem cells2 : Try.prog.cellsOf 2 = 1 := by kernel_rfl
theorem cells38 : Try.prog.cellsOf 38 = 1 := by kernel_rfl
theorem elem_i64 (n : Nat) (cs' : List Value) (y : DataW H × List MemPlace) (h : DataW.trod enc Try.prog W 0 spare held n 2 cs' = some y) : ∃ ivs, (∃ z : Int, in64 z ∧ ivs = [.int .i64 z]) ∧ ivs.length = 1 ∧ Rel W ivs cs' := by
  obtain ⟨z, rfl, hz⟩ := open_num Try.underlying2 h
  refine ⟨_, ⟨z, ?_, rfl⟩, rfl, Rel.cons (.int _ _) Rel.nil⟩
  have hz' := hz
  simp [Lit.wf, IntKind.min, IntKind.max, IntKind.bits, IntKind.signed] at hz'
  unfold in64
  omega
theorem i64s_of : ∀ (chunks : List (List IV)), (∀ c ∈ chunks, (∃ z : Int, in64 z ∧ c = [.int .i64 z]) ∧ c.length = 1) → ∃ l : List Int, chunks.flatten = encInts l ∧ chunks.length = l.length ∧ ∀ z ∈ l, in64 z
  | [], _ => ⟨[], rfl, rfl, fun z hz => by cases hz⟩
  | c :: cs, h => by
    obtain ⟨l, h1, h2, h3⟩ := i64s_of cs fun c hc => h c (by simp [hc])
    obtain ⟨⟨z, hz, rfl⟩, _⟩ := h c (by simp)
    refine ⟨z :: l, by rw [List.flatten_cons, h1]; rfl, by simp [h2], fun y hy => ?_⟩
    rcases List.mem_cons.1 hy with rfl | hy
    · exact hz
    · exact h3 y hy
theorem elem_row (n : Nat) (cs' : List Value) (y : DataW H × List MemPlace) (h : DataW.trod enc Try.prog W 0 spare held n 38 cs' = some y) : ∃ ivs, (∃ g : Gr, (∀ z ∈ g.l, in64 z) ∧ ivs = [iGr g]) ∧ ivs.length = 1 ∧ Rel W ivs cs' := by
  obtain ⟨v, ch, nl, rfl, _, hg, _, _, r⟩ := open_slice (fun ivs => ∃ z : Int, in64 z ∧ ivs = [.int .i64 z]) Try.underlying38 cells2 (by omega) elem_i64 h
  obtain ⟨l, h1, h2, h3⟩ := i64s_of ch hg
  rw [h1, h2] at r
  exact ⟨_, ⟨⟨l, nl, none⟩, h3, rfl⟩, rfl, Rel.cons r Rel.nil⟩
theorem rows_of : ∀ (chunks : List (List IV)), (∀ c ∈ chunks, (∃ g : Gr, (∀ z ∈ g.l, in64 z) ∧ c = [iGr g]) ∧ c.length = 1) → ∃ D : List Gr, chunks.flatten = encG D ∧ chunks.length = D.length ∧ GrOk D
  | [], _ => ⟨[], rfl, rfl, fun g hg => by cases hg⟩
  | c :: cs, h => by
    obtain ⟨l, h1, h2, h3⟩ := rows_of cs fun c hc => h c (by simp [hc])
    obtain ⟨⟨g, hg, rfl⟩, _⟩ := h c (by simp)
    refine ⟨g :: l, by rw [List.flatten_cons, h1]; rfl, by simp [h2], fun y hy => ?_⟩
    rcases List.mem_cons.1 hy with rfl | hy
    · exact hg
    · exact h3 y hy
theorem open_gridV {v : Value} {d : DataW H} {p : List MemPlace} (hv : ∃ a len cap, v = .slice a len cap) (h : DataW.Trod enc Try.prog W 0 spare held 35 v d p) :
    ∃ (D : List Gr) (nl : Bool), VRel (Old W) [] [] W (sG D nl none) v ∧ GrOk D ∧ D.length ≤ maxLen := by
  obtain ⟨m, hm⟩ := h
  generalize hcs : v.cells.toList = cs at hm
  obtain ⟨v', ch, nl, rfl, oc, hg, hl, _, r⟩ := open_slice (fun ivs => ∃ g : Gr, (∀ z ∈ g.l, in64 z) ∧ ivs = [iGr g]) Try.underlying35 cells38 (by omega) elem_row hm
  obtain ⟨D, h1, h2, h3⟩ := rows_of ch hg
  rw [h1, h2] at r
  refine ⟨D, nl, ?_, h3, by rw [← h2]; exact hl⟩
  obtain ⟨a, len, cap, rfl⟩ := hv
  obtain rfl : Value.slice a len cap = v' := by simpa [Value.cells] using hcs
  exact .c r
theorem open_gridZ {D : List Gr} {nl : Bool} {v : Value} {d : DataW H} {p : List MemPlace} (hv : ∃ a len cap, v = .slice a len cap) (h : DataW.Trod enc Try.prog W 0 spare held 35 v d p) (hr : VRel (Old W) [] [] W (sG D nl none) v) (hz : (d.weights Try.prog 35).all (· ≤ reachBytes) = true) : D.length * 24 ≤ reachBytes := by
  obtain ⟨m, hm⟩ := h
  obtain ⟨a, len, cap, rfl⟩ := hv
  have hi : IRel (Old W) W (.slice (encG D) D.length nl none) (.slice a len cap) := by cases hr with | c h => exact h
  have b38 : Try.prog.bytesOf 38 = 24 := by kernel_rfl
  rcases slice_len Try.underlying35 hm rfl hi with ⟨el, sp, e, he⟩ | h0
  · have h1 : d = .slice el sp := e
    subst h1
    simp only [DataW.weights, Try.underlying35] at hz
    simp only [List.all_cons, Bool.and_eq_true, decide_eq_true_eq, b38, he] at hz
    exact Nat.le_trans (Nat.mul_le_mul_right 24 (Nat.le_add_right _ _)) hz.1
  · rw [h0]; decide
end
end Go.Proofs.Sw
