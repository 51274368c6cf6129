/- A part of the proof: what functions of the program answer, of whatever arguments, reckoned with letters by the interpreter's equations. Its conditions stand in each theorem. -/
import Derived.Test.YtefdgfdahmaciaaWD
import Derived.Test.YtefdgfdahmaciaaWE
namespace Go.Proofs.Sw
set_option linter.unusedVariables false
set_option linter.unusedSimpArgs false
set_option linter.unusedSectionVars false
open Go.Ab
variable [Globals]
theorem rep_set2 (kk : Nat) (b : Bool) (F : List Bool) : (List.replicate (kk + 1) false ++ F).set kk b = List.replicate kk false ++ b :: F := by
  rw [List.replicate_succ', List.append_assoc, List.set_append_right _ _ (by simp)]
  simp
theorem loop_rNeeded_3 (kf : Nat) (ins regs : Int) (code : List Ins) (nl nl2 : Bool) (cap cap2 : Option Nat) (outs : List Int) (hl : code.length ≤ 1000000) (hl2 : outs.length ≤ 1000000) (hkf : code.length + outs.length + 20 ≤ kf) (k : Nat) (l : Ass) (z : Option Out)
    (hz : loopR Try.prog tab kf none LB53_3 53 99 [1, 3, 4] 2 k l [cP ins regs (sC code nl cap) (sI outs nl2 cap2), rB (List.replicate code.length false)] = z) (hk : code.length < k)
    (h1 : asc l 1 = .ptr 0 0) (h3 : asc l 3 = .hsl 1 0 code.length code.length 1) (h4 : asc l 4 = ii ((code.length : Int) - 1 - ((0 : Nat) : Int))) :
    ∃ l', z = some (.exit 0 (fr 99 l') [cP ins regs (sC code nl cap) (sI outs nl2 cap2), rB (needR outs code)]) ∧ asc l' 3 = .hsl 1 0 code.length code.length 1 := by
  subst hz
  refine loop_nat code.length (fun k l H => loopR Try.prog tab kf none LB53_3 53 99 [1, 3, 4] 2 k l H)
    (fun i l H => asc l 1 = .ptr 0 0 ∧ asc l 3 = .hsl 1 0 code.length code.length 1 ∧ asc l 4 = ii ((code.length : Int) - 1 - (i : Int)) ∧ H = [cP ins regs (sC code nl cap) (sI outs nl2 cap2), rB (List.replicate (code.length - i) false ++ needR outs (code.drop (code.length - i)))])
    (fun z => ∃ l', z = some (.exit 0 (fr 99 l') [cP ins regs (sC code nl cap) (sI outs nl2 cap2), rB (needR outs code)]) ∧ asc l' 3 = .hsl 1 0 code.length code.length 1) ?_ code.length 0 k l _ (by omega) (by omega) ⟨h1, h3, h4, by simp [needR]⟩
  clear h1 h3 h4 hk
  rintro i k l H hi ⟨h1, h3, h4, rfl⟩
  have ht : ∀ (a : AObj) (q : List Bool), trim 2 (fr 99 (keep l [1, 3, 4])) [a, rB q] = [a, rB q] := fun a q => trim_same rfl
  by_cases hc : i < code.length
  · refine .inr ?_
    obtain ⟨kk, hkk⟩ : ∃ kk, code.length = kk + 1 + i := ⟨code.length - 1 - i, by omega⟩
    have e1 : code.length - i = kk + 1 := by omega
    have e2 : code.length - (i + 1) = kk := by omega
    have e3 : (code.length : Int) - 1 - (i : Int) = (kk : Int) := by omega
    have e4 : (code.length : Int) - 1 - ((i + 1 : Nat) : Int) = (kk : Int) - 1 := by omega
    rw [e3] at h4
    rw [e1, e2, e4]
    have hcc : kk < code.length := by omega
    have hc' : ((kk : Int) < code.length) := by omega
    have hc0 : (0 : Int) ≤ kk := by omega
    have hto := encCode_to hcc
    have hw : IntKind.wrap .i64 ((kk : Int) + 1) = ((kk + 1 : Nat) : Int) := wrap_succ hcc (by omega)
    have hw2 : IntKind.wrap .i64 ((kk : Int) - 1) = (kk : Int) - 1 := wrap64 (by omega) (by omega)
    have hnr : needR outs (code.drop kk) = needF outs code[kk].to (code.drop (kk + 1)) (needR outs (code.drop (kk + 1))) :: needR outs (code.drop (kk + 1)) := by
      rw [List.drop_eq_getElem_cons hcc, needR]
    obtain ⟨F, hF⟩ : ∃ F, F = needR outs (code.drop (kk + 1)) := ⟨_, rfl⟩
    have hFl : F.length = i := by rw [hF, needR_length]; simp; omega
    obtain ⟨B, hB⟩ : ∃ B, B = List.replicate (kk + 1) false ++ F := ⟨_, rfl⟩
    have hBl : B.length = code.length := by rw [hB]; simp [hFl]; omega
    have hBd : B.drop (kk + 1) = F := by rw [hB]; rw [List.drop_left' (by simp)]
    have hBs : ∀ b, B.set kk b = List.replicate kk false ++ b :: F := fun b => by rw [hB, rep_set2]
    have hB0 : B = B.set kk false := by rw [hBs, hB, List.replicate_succ', List.append_assoc]; rfl
    rw [← hF] at hnr
    rw [← hF, ← hB, hnr]
    obtain ⟨x, hX⟩ : ∃ x, x = code[kk] := ⟨_, rfl⟩
    rw [← hX] at hto ⊢
    simp only [loopR_succ, ht]
    rw [hB0]
    simp only [h1, h3, h4, hc', hc0, hto, hw, loopR_succ, loopOf, findLoop, firstRegion, Option.some_or, Option.none_or, Option.getD_some, Option.some.injEq, Try.f53, EVb, EVc, Int.reduceEq, Int.reduceToNat, Int.reduceLE, Int.reduceLT, Int.reduceAdd, Int.reduceMul, Int.reduceSub, Int.reduceNeg, Nat.reduceAdd, Nat.reduceSub, Nat.reduceMul, Nat.reduceLT, Nat.reduceBEq, Nat.reduceEqDiff, Nat.reduceLeDiff, FACTS, TYPES]
    rw [evalCode_loopB LB53_8 lp53_8]; rotate_left; rfl; rfl; rfl
    generalize hz : loopR _ _ _ _ _ _ _ _ _ _ _ _ = z
    obtain ⟨l2, over, acc, rfl, g1, g3, g4, g5, g6, hT⟩ := loop_rNeeded_8 kf (by omega) ins regs code nl cap (sI outs nl2 cap2) B kk x.to outs hl hBl hcc _ _ z hz (by omega) (by omega) (by rfl) (by rfl) (by rfl) (by rfl) (by rfl) (by rfl)
    clear hz
    rw [hBd] at hT
    simp only [g1, g3, g4, g5, g6, EVb, EVc, Int.reduceEq, Int.reduceToNat, Int.reduceLE, Int.reduceLT, Int.reduceAdd, Int.reduceMul, Int.reduceSub, Int.reduceNeg, Nat.reduceAdd, Nat.reduceSub, Nat.reduceMul, Nat.reduceLT, Nat.reduceBEq, Nat.reduceEqDiff, Nat.reduceLeDiff, FACTS, TYPES]
    rw [evalCode_loopB LB53_18 lp53_18]; rotate_left; rfl; rfl; rfl
    generalize hz : loopR _ _ _ _ _ _ _ _ _ _ _ _ = z
    obtain ⟨l3, rfl, q1, q3, q4⟩ := loop_rNeeded_18 kf ins regs (sC code nl cap) B code.length kk x.to acc over outs nl2 cap2 hl2 hBl hcc _ _ z hz (by omega) (by exact g1) (by exact g3) (by exact g4) (by exact g5) (by exact g6) (by rfl)
    clear hz
    simp only [q1, q3, q4, hw2, EVb, EVc, Int.reduceEq, Int.reduceToNat, Int.reduceLE, Int.reduceLT, Int.reduceAdd, Int.reduceMul, Int.reduceSub, Int.reduceNeg, Nat.reduceAdd, Nat.reduceSub, Nat.reduceMul, Nat.reduceLT, Nat.reduceBEq, Nat.reduceEqDiff, Nat.reduceLeDiff, FACTS, TYPES]
    refine ⟨_, _, by omega, rfl, (by exact q1), (by exact q3), (by rfl), ?_⟩
    rw [hT, hBs]
  · refine .inl ?_
    obtain rfl : i = code.length := by omega
    have hc' : ¬ ((0 : Int) ≤ (code.length : Int) - 1 - code.length) := by omega
    simp only [Nat.sub_self, List.drop_zero, List.replicate_zero, List.nil_append]
    simp only [loopR_succ, ht]
    simp only [h1, h3, h4, hc', loopR_succ, loopOf, findLoop, firstRegion, Option.some_or, Option.none_or, Option.getD_some, Option.some.injEq, Try.f53, EVb, EVc, Int.reduceEq, Int.reduceToNat, Int.reduceLE, Int.reduceLT, Int.reduceAdd, Int.reduceMul, Int.reduceSub, Int.reduceNeg, Nat.reduceAdd, Nat.reduceSub, Nat.reduceMul, Nat.reduceLT, Nat.reduceBEq, Nat.reduceEqDiff, Nat.reduceLeDiff, FACTS, TYPES]
    exact ⟨_, rfl, (by rfl)⟩
theorem rNeededR_ev (k : Nat) (p : Pg) (nl : Bool) (cap : Option Nat) (nl2 : Bool) (cap2 : Option Nat) (hl : p.code.length ≤ 1000000) (hl2 : p.outs.length ≤ 1000000) (hk : p.code.length + p.outs.length + 20 ≤ k) :
    run (k+1) 53 [aP p nl cap nl2 cap2] = some (sB (needR p.outs p.code) false none) := by
  obtain ⟨ins, regs, code, outs⟩ := p
  simp only at hk hl hl2
  rw [run, ev53, ans_trim]
  have hw : IntKind.wrap .i64 ((code.length : Int) - 1) = (code.length : Int) - 1 := wrap64 (by omega) (by omega)
  have hr := encB_rep code.length
  have hrl := needR_length outs code
  have hrb : code.length ≤ roomBytes := Nat.le_trans hl (by decide)
  have h00 : (0 : Int) ≤ code.length := by omega
  simp only [Try.f53, aP, ii, bb, hw, hr, hrb, h00, EVb, EVc, Int.reduceEq, Int.reduceToNat, Int.reduceLE, Int.reduceLT, Int.reduceAdd, Int.reduceMul, Int.reduceSub, Int.reduceNeg, Nat.reduceAdd, Nat.reduceSub, Nat.reduceMul, Nat.reduceLT, Nat.reduceBEq, Nat.reduceEqDiff, Nat.reduceLeDiff, FACTS, TYPES]
  rw [evalCode_loopB LB53_3 lp53_3]; rotate_left; rfl; rfl; rfl
  generalize hz : loopR _ _ _ _ _ _ _ _ _ _ _ _ = z
  obtain ⟨l', rfl, e3⟩ := loop_rNeeded_3 k ins regs code nl nl2 cap cap2 outs hl hl2 hk _ _ z hz (by omega) (by rfl) (by rfl) (by rw [show (code.length : Int) - 1 - ((0 : Nat) : Int) = (code.length : Int) - 1 by omega]; rfl)
  clear hz
  have hel : (encB (needR outs code)).length = code.length := by rw [encB_length, hrl]
  have htk : (encB (needR outs code)).take code.length = encB (needR outs code) := by rw [← hel, List.take_length]
  simp only [e3, hel, hrl, htk, Nat.le_refl, sB, EVb, EVc, Int.reduceEq, Int.reduceToNat, Int.reduceLE, Int.reduceLT, Int.reduceAdd, Int.reduceMul, Int.reduceSub, Int.reduceNeg, Nat.reduceAdd, Nat.reduceSub, Nat.reduceMul, Nat.reduceLT, Nat.reduceBEq, Nat.reduceEqDiff, Nat.reduceLeDiff, FACTS, TYPES]
end Go.Proofs.Sw
namespace Go.Proofs.Sw
set_option linter.unusedVariables false
set_option linter.unusedSimpArgs false
set_option linter.unusedSectionVars false
open Go.Ab
variable [Globals]
theorem may_asks {x : Ins} {n : Nat} (h : mayM x n = true) : (0 ≤ x.to ∧ x.to < (n : Int)) ∧ ∀ r ∈ asks x, 0 ≤ r ∧ r < (n : Int) := by
  have hm := h
  simp only [mayM, Bool.and_eq_true, decide_eq_true_eq] at hm
  refine ⟨by omega, fun r hr => ?_⟩
  unfold asks at hr
  split at hr
  · rcases List.mem_cons.1 hr with rfl | hr
    · omega
    · rcases List.mem_cons.1 hr with rfl | hr
      · omega
      · cases hr
  · split at hr
    · rcases List.mem_cons.1 hr with rfl | hr
      · omega
      · cases hr
    · cases hr
theorem any_toNat {n : Nat} {r : Int} (h0 : 0 ≤ r) : ∀ ls : List Int, (∀ a ∈ ls, 0 ≤ a ∧ a < (n : Int)) → (ls.any fun a => a.toNat == r.toNat) = ls.any (· == r)
  | [], _ => rfl
  | a :: ls, h => by
    obtain ⟨g, _⟩ := h a (by simp)
    rw [List.any_cons, List.any_cons, any_toNat h0 ls fun b hb => h b (by simp [hb])]
    congr 1
    rw [Bool.eq_iff_iff]
    simp only [beq_iff_eq]
    omega
theorem asked0_get {n : Nat} {outs : List Int} (ho : ∀ r ∈ outs, 0 ≤ r ∧ r < (n : Int)) {r : Int} (h0 : 0 ≤ r) (h1 : r < n) : (asked0 n outs).getD r.toNat false = outs.any (· == r) := by
  unfold asked0
  rw [mark_getD _ _ _ _ (by simp; omega), any_toNat (n := n) h0 outs ho]
  cases hh : outs.any (· == r)
  · rw [if_neg (by simp), List.getD_eq_getElem?_getD, List.getElem?_replicate]; split <;> rfl
  · rfl
theorem needL_R (n : Nat) (outs : List Int) (ho : ∀ r ∈ outs, 0 ≤ r ∧ r < (n : Int)) : ∀ code : List Ins, (∀ i ∈ code, mayM i n = true) →
    (needL (asked0 n outs) code).2 = needR outs code ∧ (needL (asked0 n outs) code).1.length = n ∧ ∀ r : Int, 0 ≤ r → r < n → (needL (asked0 n outs) code).1.getD r.toNat false = needF outs r code (needR outs code)
  | [], _ => ⟨rfl, by simp [needL, asked0, mark_length], fun r h0 h1 => by rw [needL]; exact asked0_get ho h0 h1⟩
  | i :: rest, h => by
    obtain ⟨g1, g2, g3⟩ := needL_R n outs ho rest fun j hj => h j (by simp [hj])
    obtain ⟨⟨t0, t1⟩, ha⟩ := may_asks (h i (by simp))
    have ht := g3 i.to t0 t1
    rw [needL, needR]
    rw [ht, g1]
    cases hf : needF outs i.to rest (needR outs rest) with
    | true =>
      rw [if_pos rfl]
      refine ⟨rfl, by simp [mark_length, g2], fun r h0 h1 => ?_⟩
      rw [mark_getD _ _ _ _ (by simp [g2]; omega), any_toNat (n := n) h0 _ ha, needF, Bool.true_and]
      by_cases hr : i.to = r
      · rw [hr]
        have : ((needL (asked0 n outs) rest).1.set r.toNat false).getD r.toNat false = false := by
          simp [g2, show r.toNat < n by omega]
        rw [this]
        cases (asks i).any (· == r) <;> simp
      · have : ((needL (asked0 n outs) rest).1.set i.to.toNat false).getD r.toNat false = needF outs r rest (needR outs rest) := by
          rw [← g3 r h0 h1]
          simp [List.getElem?_set_ne (show i.to.toNat ≠ r.toNat by omega)]
        rw [this, decide_eq_false hr]
        cases (asks i).any (· == r) <;> simp
    | false =>
      rw [if_neg (by simp)]
      refine ⟨rfl, g2, fun r h0 h1 => ?_⟩
      rw [needF, Bool.false_and, Bool.false_or]
      by_cases hr : i.to = r
      · rw [← hr, ht, hf]; simp
      · rw [decide_eq_false hr, g3 r h0 h1]; simp
theorem neededM_R (n : Nat) (ins : Int) (code : List Ins) (outs : List Int) (hr : rightM ⟨ins, n, code, outs⟩ = true) : needR outs code = neededM ⟨ins, n, code, outs⟩ := by
  simp only [rightM, headM, Bool.and_eq_true, decide_eq_true_eq] at hr
  obtain ⟨⟨hh, ho⟩, hc⟩ := hr
  have hout : ∀ r ∈ outs, 0 ≤ r ∧ r < (n : Int) := fun r h => by have := List.all_eq_true.1 ho r h; simpa using this
  have hcode : ∀ i ∈ code, mayM i n = true := fun i h => List.all_eq_true.1 hc i h
  exact ((needL_R n outs hout code hcode).1).symm
theorem rNeeded_ev (k n : Nat) (ins : Int) (code : List Ins) (outs : List Int) (nl : Bool) (cap : Option Nat) (nl2 : Bool) (cap2 : Option Nat) (hk : outs.length + code.length + 20 ≤ k) (hr : rightM ⟨ins, n, code, outs⟩ = true) :
    run (k+1) 53 [aP ⟨ins, n, code, outs⟩ nl cap nl2 cap2] = some (sB (neededM ⟨ins, n, code, outs⟩) false none) := by
  rw [← neededM_R n ins code outs hr]
  simp only [rightM, headM, Bool.and_eq_true, decide_eq_true_eq] at hr
  exact rNeededR_ev k ⟨ins, n, code, outs⟩ nl cap nl2 cap2 (by simp only; omega) (by simp only; omega) (by simp only; omega)
/-! ### Idle, Pass -/
/-- Whether an instruction stays. -/
def idleB : List Ins → List Bool → List Bool
  | i :: c, f :: fl => (!f || nothing i) :: idleB c fl
  | _, _ => []
theorem idleB_length : ∀ (c : List Ins) (fl : List Bool), fl.length = c.length → (idleB c fl).length = c.length
  | [], [], _ => rfl
  | i :: c, f :: fl, h => by simp [idleB, idleB_length c fl (by simpa using h)]
theorem idleB_get : ∀ (c : List Ins) (fl : List Bool) (i : Nat) (h : i < c.length) (h2 : i < fl.length) (h3 : i < (idleB c fl).length), (idleB c fl)[i] = (!fl[i] || nothing c[i])
  | x :: c, f :: fl, 0, _, _, _ => rfl
  | x :: c, f :: fl, i + 1, h, h2, h3 => by
    simp only [idleB, List.getElem_cons_succ]
    exact idleB_get c fl i (by simpa using h) (by simpa using h2) _
theorem encB_append (l m : List Bool) : encB (l ++ m) = encB l ++ encB m := by simp [encB]
theorem loop_r15Idle_4 (kf : Nat) (pc : AV × AV) (ov : IV) (code : List Ins) (nl nl2 : Bool) (cap cap2 : Option Nat) (fl : List Bool) (hfl : fl.length = code.length) (hlen : code.length ≤ 1000000) (ins regs : Int)
    (k : Nat) (l : Ass) (z : Option Out) (hz : loopR Try.prog tab kf none LB36_4 36 42 [1, 3, 4, 5] 2 k l [.slot, cP ins regs (sC code nl cap) (.c ov)] = z) (hk : code.length < k)
    (a1 : asc l 1 = .ptr 1 0) (a3 : asc l 3 = sB fl nl2 cap2) (a4 : asc l 4 = .c (.slice [] 0 true (some 0))) (a5 : asc l 5 = ii (0 : Nat)) :
    ∃ l', z = some (.exit 0 (fr 42 l') [lo 4 code.length (encB (idleB code fl)), cP ins regs (sC code nl cap) (.c ov)]) ∧ asc l' 4 = lv 0 1 code.length := by
  subst hz
  have hil := idleB_length code fl hfl
  refine loop_nat code.length (fun k l H => loopR Try.prog tab kf none LB36_4 36 42 [1, 3, 4, 5] 2 k l H)
    (fun i l H => asc l 1 = .ptr 1 0 ∧ asc l 3 = sB fl nl2 cap2 ∧ asc l 4 = lv 0 1 i ∧ asc l 5 = ii i ∧
      H.take 2 = [lo 4 i (encB ((idleB code fl).take i)), cP ins regs (sC code nl cap) (.c ov)])
    (fun z => ∃ l', z = some (.exit 0 (fr 42 l') [lo 4 code.length (encB (idleB code fl)), cP ins regs (sC code nl cap) (.c ov)]) ∧ asc l' 4 = lv 0 1 code.length) ?_ code.length 0 k l _ (by omega) hk ⟨a1, a3, a4, a5, rfl⟩
  clear a1 a3 a4 a5 hk
  rintro i k l H hi ⟨a1, a3, a4, a5, hH⟩
  have ht : trim 2 (fr 42 (keep l [1, 3, 4, 5])) H = [lo 4 i (encB ((idleB code fl).take i)), cP ins regs (sC code nl cap) (.c ov)] := by
    rw [trim_fr (by simp only [a1, a3, a4, a5, Bool.or_true, EVb, EVc, Int.reduceEq, Int.reduceToNat, Int.reduceLE, Int.reduceLT, Int.reduceAdd, Int.reduceMul, Int.reduceSub, Int.reduceNeg, Nat.reduceAdd, Nat.reduceSub, Nat.reduceMul, Nat.reduceLT, Nat.reduceBEq, Nat.reduceEqDiff, Nat.reduceLeDiff]) (by rw [hH]; simp only [EVb, EVc, Int.reduceEq, Int.reduceToNat, Int.reduceLE, Int.reduceLT, Int.reduceAdd, Int.reduceMul, Int.reduceSub, Int.reduceNeg, Nat.reduceAdd, Nat.reduceSub, Nat.reduceMul, Nat.reduceLT, Nat.reduceBEq, Nat.reduceEqDiff, Nat.reduceLeDiff]), hH]
  by_cases hc : i < code.length
  · refine .inr ?_
    have hi0 : (0 : Int) ≤ i := by omega
    have hi1 : (i : Int) < fl.length := by omega
    have hi2 : (i : Int) < code.length := by omega
    have hx := encCode_get hc
    have hb := encB_getN (show i < fl.length by omega)
    have hw := wrap_succ hc (by omega)
    have hg := idleB_get code fl i hc (by omega) (by omega)
    have htk : (idleB code fl).take (i + 1) = (idleB code fl).take i ++ [(idleB code fl)[i]'(by omega)] := List.take_succ_eq_append_getElem (by omega)
    rw [hg] at htk
    obtain ⟨x, hX⟩ : ∃ x, x = code[i] := ⟨_, rfl⟩
    obtain ⟨f, hF⟩ : ∃ f, f = fl[i] := ⟨_, rfl⟩
    rw [← hX] at hx htk
    rw [← hF] at hb htk
    have hel : (encB ((idleB code fl).take i)).length = i * 1 := by rw [encB_length, List.length_take, hil]; omega
    have hap : ∀ (b : Bool) (X : Heap), apO 4 1 1 (some 0) (lv 0 1 i) (lo 4 i (encB ((idleB code fl).take i)) :: X) (some ([.bool b], 1)) = some (lv 0 1 (i + 1), lo 4 (i + 1) (encB ((idleB code fl).take i) ++ [.bool b]) :: X) :=
      fun b X => lo_length (Nat.le_trans (Nat.mul_le_mul_right 1 (show i + 1 ≤ 1000000 by omega)) (by decide)) (by omega) hel
    have hen : ∀ b, encB ((idleB code fl).take i) ++ [.bool b] = encB ((idleB code fl).take i ++ [b]) := fun b => by rw [encB_append]; rfl
    cases f with
    | false =>
      rw [Bool.not_false, Bool.true_or] at htk
      simp only [loopR_succ, ht]
      simp only [a1, a3, a4, a5, hi0, hi1, hi2, hx, hb, hw, hap, loopR_succ, loopOf, findLoop, firstRegion, Option.some_or, Option.none_or, Option.getD_some, Option.some.injEq, Try.f36, EVb, EVc, Int.reduceEq, Int.reduceToNat, Int.reduceLE, Int.reduceLT, Int.reduceAdd, Int.reduceMul, Int.reduceSub, Int.reduceNeg, Nat.reduceAdd, Nat.reduceSub, Nat.reduceMul, Nat.reduceLT, Nat.reduceBEq, Nat.reduceEqDiff, Nat.reduceLeDiff, FACTS, TYPES]
      exact ⟨_, _, hc, rfl, (by rfl), (by rfl), (by rfl), (by rfl), by rw [htk, ← hen]; rfl⟩
    | true =>
      rw [Bool.not_true, Bool.false_or] at htk
      by_cases h1 : x.op = 1
      · by_cases h2 : x.to = x.a
        · rw [show nothing x = true by simp [nothing, h1, h2]] at htk
          simp only [loopR_succ, ht]
          simp only [a1, a3, a4, a5, hi0, hi1, hi2, hx, hb, hw, hap, h1, h2, loopR_succ, loopOf, findLoop, firstRegion, Option.some_or, Option.none_or, Option.getD_some, Option.some.injEq, Try.f36, EVb, EVc, Int.reduceEq, Int.reduceToNat, Int.reduceLE, Int.reduceLT, Int.reduceAdd, Int.reduceMul, Int.reduceSub, Int.reduceNeg, Nat.reduceAdd, Nat.reduceSub, Nat.reduceMul, Nat.reduceLT, Nat.reduceBEq, Nat.reduceEqDiff, Nat.reduceLeDiff, FACTS, TYPES]
          exact ⟨_, _, hc, rfl, (by rfl), (by rfl), (by rfl), (by rfl), by rw [htk, ← hen]; rfl⟩
        · rw [show nothing x = false by simp [nothing, h2]] at htk
          simp only [loopR_succ, ht]
          simp only [a1, a3, a4, a5, hi0, hi1, hi2, hx, hb, hw, hap, h1, h2, loopR_succ, loopOf, findLoop, firstRegion, Option.some_or, Option.none_or, Option.getD_some, Option.some.injEq, Try.f36, EVb, EVc, Int.reduceEq, Int.reduceToNat, Int.reduceLE, Int.reduceLT, Int.reduceAdd, Int.reduceMul, Int.reduceSub, Int.reduceNeg, Nat.reduceAdd, Nat.reduceSub, Nat.reduceMul, Nat.reduceLT, Nat.reduceBEq, Nat.reduceEqDiff, Nat.reduceLeDiff, FACTS, TYPES]
          exact ⟨_, _, hc, rfl, (by rfl), (by rfl), (by rfl), (by rfl), by rw [htk, ← hen]; rfl⟩
      · rw [show nothing x = false by simp [nothing, h1]] at htk
        simp only [loopR_succ, ht]
        simp only [a1, a3, a4, a5, hi0, hi1, hi2, hx, hb, hw, hap, h1, loopR_succ, loopOf, findLoop, firstRegion, Option.some_or, Option.none_or, Option.getD_some, Option.some.injEq, Try.f36, EVb, EVc, Int.reduceEq, Int.reduceToNat, Int.reduceLE, Int.reduceLT, Int.reduceAdd, Int.reduceMul, Int.reduceSub, Int.reduceNeg, Nat.reduceAdd, Nat.reduceSub, Nat.reduceMul, Nat.reduceLT, Nat.reduceBEq, Nat.reduceEqDiff, Nat.reduceLeDiff, FACTS, TYPES]
        exact ⟨_, _, hc, rfl, (by rfl), (by rfl), (by rfl), (by rfl), by rw [htk, ← hen]; rfl⟩
  · refine .inl ?_
    obtain rfl : i = code.length := by omega
    have he : (idleB code fl).take code.length = idleB code fl := List.take_of_length_le (by omega)
    rw [he] at ht
    have hc' : ¬ ((code.length : Int) < code.length) := by omega
    simp only [loopR_succ, ht]
    simp only [a1, a3, a4, a5, hc', loopR_succ, loopOf, findLoop, firstRegion, Option.some_or, Option.none_or, Option.getD_some, Option.some.injEq, Try.f36, EVb, EVc, Int.reduceEq, Int.reduceToNat, Int.reduceLE, Int.reduceLT, Int.reduceAdd, Int.reduceMul, Int.reduceSub, Int.reduceNeg, Nat.reduceAdd, Nat.reduceSub, Nat.reduceMul, Nat.reduceLT, Nat.reduceBEq, Nat.reduceEqDiff, Nat.reduceLeDiff, FACTS, TYPES]
    exact ⟨_, rfl, (by rfl)⟩
end Go.Proofs.Sw
namespace Go.Proofs.Sw
set_option linter.unusedVariables false
set_option linter.unusedSimpArgs false
set_option linter.unusedSectionVars false
open Go.Ab
variable [Globals]
theorem r15Idle_ev (k n : Nat) (ins : Int) (code : List Ins) (outs : List Int) (nl : Bool) (cap : Option Nat) (nl2 : Bool) (cap2 : Option Nat) (hk : outs.length + code.length + 30 ≤ k) (hr : rightM ⟨ins, n, code, outs⟩ = true) :
    run (k+1) 36 [aP ⟨ins, n, code, outs⟩ nl cap nl2 cap2] = some (.c (.slice (encB (idleB code (neededM ⟨ins, n, code, outs⟩))) code.length (nlE code) (cpE code))) := by
  have hr' := hr
  simp only [rightM, headM, Bool.and_eq_true, decide_eq_true_eq] at hr'
  obtain ⟨k, rfl⟩ : ∃ j, k = j + 1 := ⟨k - 1, by omega⟩
  have hne := rNeeded_ev k n ins code outs nl cap nl2 cap2 (by omega) hr
  have hnl : (neededM ⟨ins, n, code, outs⟩).length = code.length := (needL_length _ _).2
  have hil := idleB_length code _ hnl
  have hel : (encB (idleB code (neededM ⟨ins, n, code, outs⟩))).length = code.length := by rw [encB_length, hil]
  simp only [run, aP, ii, bb, sI, sC, sB] at hne
  rw [run, ev36, ans_trim]
  simp only [Try.f36, aP, ii, bb, hne, EVb, EVc, Int.reduceEq, Int.reduceToNat, Int.reduceLE, Int.reduceLT, Int.reduceAdd, Int.reduceMul, Int.reduceSub, Int.reduceNeg, Nat.reduceAdd, Nat.reduceSub, Nat.reduceMul, Nat.reduceLT, Nat.reduceBEq, Nat.reduceEqDiff, Nat.reduceLeDiff, FACTS, TYPES]
  rw [evalCode_loopB LB36_4 lp36_4]; rotate_left; rfl; rfl; rfl
  generalize hz : loopR _ _ _ _ _ _ _ _ _ _ _ _ = z
  obtain ⟨l', rfl, e4⟩ := loop_r15Idle_4 (k + 1) (.c (.bool true), .c (.bool true)) (.slice (encInts outs) outs.length nl2 cap2) code nl false cap none (neededM ⟨ins, n, code, outs⟩) hnl (by omega) ins n _ _ z hz (by omega) (by rfl) (by rfl) (by rfl) (by rfl)
  clear hz
  by_cases hz : code.length = 0
  · simp only [e4, hel, hz, nlE, cpE, EVb, EVc, Int.reduceEq, Int.reduceToNat, Int.reduceLE, Int.reduceLT, Int.reduceAdd, Int.reduceMul, Int.reduceSub, Int.reduceNeg, Nat.reduceAdd, Nat.reduceSub, Nat.reduceMul, Nat.reduceLT, Nat.reduceBEq, Nat.reduceEqDiff, Nat.reduceLeDiff, FACTS, TYPES]
    try simp [hz]
  · simp only [e4, hel, hz, nlE, cpE, EVb, EVc, Int.reduceEq, Int.reduceToNat, Int.reduceLE, Int.reduceLT, Int.reduceAdd, Int.reduceMul, Int.reduceSub, Int.reduceNeg, Nat.reduceAdd, Nat.reduceSub, Nat.reduceMul, Nat.reduceLT, Nat.reduceBEq, Nat.reduceEqDiff, Nat.reduceLeDiff, FACTS, TYPES]
    try simp [hz]
theorem loop_r15Pass_5 (kf : Nat) (ins regs : Int) (x3 : IV) (c2 : AObj) (hc2 : AObj.under 4 c2 = true) (o4 : AV) (ho4 : AV.under 4 o4 = true) (ho4c : o4.isCell = true) (code : List Ins) (nl : Bool) (cap : Option Nat) (fl : List Bool) (nl2 : Bool) (cap2 : Option Nat) (hfl : fl.length = code.length) (hlen : code.length ≤ 1000000)
    (k : Nat) (l : Ass) (z : Option Out) (hz : loopR Try.prog tab kf none LB37_5 37 34 [1, 2, 3, 4, 5] 4 k l [.slot, cP ins regs (sC code nl cap) (.c x3), c2, cP ins regs (.c (.slice [] 0 true (some 0))) o4] = z) (hk : code.length < k)
    (a1 : asc l 1 = .ptr 1 0) (a2 : asc l 2 = .ptr 2 0) (a3 : asc l 3 = .ptr 3 0) (a4 : asc l 4 = .c (.slice (encB (idleB code fl)) code.length nl2 cap2)) (a5 : asc l 5 = ii (0 : Nat)) :
    ∃ l', z = some (.exit 0 (fr 34 l') [lo 34 (keepL code fl).length (encCode (keepL code fl)), cP ins regs (sC code nl cap) (.c x3), c2, cP ins regs (lv 0 5 (keepL code fl).length) o4]) ∧ asc l' 2 = .ptr 2 0 ∧ asc l' 3 = .ptr 3 0 := by
  subst hz
  have hil := idleB_length code fl hfl
  refine loop_nat code.length (fun k l H => loopR Try.prog tab kf none LB37_5 37 34 [1, 2, 3, 4, 5] 4 k l H)
    (fun i l H => asc l 1 = .ptr 1 0 ∧ asc l 2 = .ptr 2 0 ∧ asc l 3 = .ptr 3 0 ∧ asc l 4 = .c (.slice (encB (idleB code fl)) code.length nl2 cap2) ∧ asc l 5 = ii i ∧
      H.take 4 = [lo 34 (keepL (code.take i) (fl.take i)).length (encCode (keepL (code.take i) (fl.take i))), cP ins regs (sC code nl cap) (.c x3), c2, cP ins regs (lv 0 5 (keepL (code.take i) (fl.take i)).length) o4])
    (fun z => ∃ l', z = some (.exit 0 (fr 34 l') [lo 34 (keepL code fl).length (encCode (keepL code fl)), cP ins regs (sC code nl cap) (.c x3), c2, cP ins regs (lv 0 5 (keepL code fl).length) o4]) ∧ asc l' 2 = .ptr 2 0 ∧ asc l' 3 = .ptr 3 0) ?_ code.length 0 k l _ (by omega) hk ⟨a1, a2, a3, a4, a5, rfl⟩
  clear a1 a2 a3 a4 a5 hk
  rintro i k l H hi ⟨a1, a2, a3, a4, a5, hH⟩
  have ht : trim 4 (fr 34 (keep l [1, 2, 3, 4, 5])) H = [lo 34 (keepL (code.take i) (fl.take i)).length (encCode (keepL (code.take i) (fl.take i))), cP ins regs (sC code nl cap) (.c x3), c2, cP ins regs (lv 0 5 (keepL (code.take i) (fl.take i)).length) o4] := by
    rw [trim_fr (by simp only [a1, a2, a3, a4, a5, Bool.or_true, EVb, EVc, Int.reduceEq, Int.reduceToNat, Int.reduceLE, Int.reduceLT, Int.reduceAdd, Int.reduceMul, Int.reduceSub, Int.reduceNeg, Nat.reduceAdd, Nat.reduceSub, Nat.reduceMul, Nat.reduceLT, Nat.reduceBEq, Nat.reduceEqDiff, Nat.reduceLeDiff]) (by rw [hH]; simp only [hc2, ho4, Bool.or_true, EVb, EVc, Int.reduceEq, Int.reduceToNat, Int.reduceLE, Int.reduceLT, Int.reduceAdd, Int.reduceMul, Int.reduceSub, Int.reduceNeg, Nat.reduceAdd, Nat.reduceSub, Nat.reduceMul, Nat.reduceLT, Nat.reduceBEq, Nat.reduceEqDiff, Nat.reduceLeDiff]), hH]
  by_cases hc : i < code.length
  · refine .inr ?_
    have hi0 : (0 : Int) ≤ i := by omega
    have hi2 : (i : Int) < code.length := by omega
    have hx := encCode_get hc
    have hb := encB_getN (show i < (idleB code fl).length by omega)
    have hw := wrap_succ hc (by omega)
    have hg := idleB_get code fl i hc (by omega) (by omega)
    have hkt := keepL_take code fl i hc (by omega)
    rw [hg] at hb
    obtain ⟨x, hX⟩ : ∃ x, x = code[i] := ⟨_, rfl⟩
    rw [← hX] at hx hkt hb
    obtain ⟨f, hF⟩ : ∃ f, f = (fl[i] && !nothing x) := ⟨_, rfl⟩
    have hF2 : (!fl[i] || nothing x) = !f := by rw [hF]; cases fl[i] <;> simp
    rw [← hF] at hkt
    rw [hF2] at hb
    have hac : (keepL (code.take i) (fl.take i)).length ≤ i := Nat.le_trans (keepL_len _ _) (by simp; omega)
    obtain ⟨acc, hA⟩ : ∃ acc, acc = keepL (code.take i) (fl.take i) := ⟨_, rfl⟩
    rw [← hA] at hkt hac ht
    have hap : ∀ X : Heap, apO 34 5 40 (some 0) (lv 0 5 acc.length) (lo 34 acc.length (encCode acc) :: X) (some (enc1 x, 1)) = some (lv 0 5 (acc.length + 1), lo 34 (acc.length + 1) (encCode acc ++ enc1 x) :: X) :=
      fun X => lo_length (Nat.le_trans (Nat.mul_le_mul_right 40 (show acc.length + 1 ≤ 1000000 by omega)) (by decide)) (by omega) (encCode_length acc)
    have hen : encCode acc ++ enc1 x = encCode (acc ++ [x]) := by rw [encCode_append]; simp [encCode]
    cases f with
    | false =>
      simp only [loopR_succ, ht]
      simp only [a1, a2, a3, a4, a5, hi0, hi2, hx, hb, hw, Bool.not_false, loopR_succ, loopOf, findLoop, firstRegion, Option.some_or, Option.none_or, Option.getD_some, Option.some.injEq, Try.f37, EVb, EVc, Int.reduceEq, Int.reduceToNat, Int.reduceLE, Int.reduceLT, Int.reduceAdd, Int.reduceMul, Int.reduceSub, Int.reduceNeg, Nat.reduceAdd, Nat.reduceSub, Nat.reduceMul, Nat.reduceLT, Nat.reduceBEq, Nat.reduceEqDiff, Nat.reduceLeDiff, FACTS, TYPES]
      refine ⟨_, _, hc, rfl, (by rfl), (by rfl), (by rfl), (by rfl), (by rfl), ?_⟩
      rw [hkt]; simp
    | true =>
      simp only [loopR_succ, ht]
      simp only [a1, a2, a3, a4, a5, hi0, hi2, hx, hb, hw, Bool.not_true, loopR_succ, loopOf, findLoop, firstRegion, Option.some_or, Option.none_or, Option.getD_some, Option.some.injEq, Try.f37, EVb, EVc, Int.reduceEq, Int.reduceToNat, Int.reduceLE, Int.reduceLT, Int.reduceAdd, Int.reduceMul, Int.reduceSub, Int.reduceNeg, Nat.reduceAdd, Nat.reduceSub, Nat.reduceMul, Nat.reduceLT, Nat.reduceBEq, Nat.reduceEqDiff, Nat.reduceLeDiff, FACTS, TYPES]
      rw [evalCode_drawn Try.f37 8 dr37_8]; rotate_left; rfl
      simp only [hi0, hi2, hx, hw, hap, hen, EVd, Nat.reducePow, Nat.reduceDiv, Nat.reduceMod, EVb, EVc, Int.reduceEq, Int.reduceToNat, Int.reduceLE, Int.reduceLT, Int.reduceAdd, Int.reduceMul, Int.reduceSub, Int.reduceNeg, Nat.reduceAdd, Nat.reduceSub, Nat.reduceMul, Nat.reduceLT, Nat.reduceBEq, Nat.reduceEqDiff, Nat.reduceLeDiff, FACTS, TYPES]
      refine ⟨_, _, hc, rfl, (by rfl), (by rfl), (by rfl), (by rfl), (by rfl), ?_⟩
      rw [hkt]; simp
  · refine .inl ?_
    obtain rfl : i = code.length := by omega
    have he : code.take code.length = code := List.take_length
    have he2 : fl.take code.length = fl := by rw [← hfl]; exact List.take_length
    rw [he, he2] at ht
    have hc' : ¬ ((code.length : Int) < code.length) := by omega
    simp only [loopR_succ, ht]
    simp only [a1, a2, a3, a4, a5, hc', loopR_succ, loopOf, findLoop, firstRegion, Option.some_or, Option.none_or, Option.getD_some, Option.some.injEq, Try.f37, EVb, EVc, Int.reduceEq, Int.reduceToNat, Int.reduceLE, Int.reduceLT, Int.reduceAdd, Int.reduceMul, Int.reduceSub, Int.reduceNeg, Nat.reduceAdd, Nat.reduceSub, Nat.reduceMul, Nat.reduceLT, Nat.reduceBEq, Nat.reduceEqDiff, Nat.reduceLeDiff, FACTS, TYPES]
    exact ⟨_, rfl, (by rfl), (by rfl)⟩
theorem r15Pass_ev (k n : Nat) (ins : Int) (code : List Ins) (outs : List Int) (nl : Bool) (cap : Option Nat) (nl2 : Bool) (cap2 : Option Nat) (hk : outs.length + code.length + 40 ≤ k) (hr : rightM ⟨ins, n, code, outs⟩ = true) :
    run (k+1) 37 [aP ⟨ins, n, code, outs⟩ nl cap nl2 cap2] = some (aP (deadP ⟨ins, n, code, outs⟩) (nlE (deadP ⟨ins, n, code, outs⟩).code) (cpE (deadP ⟨ins, n, code, outs⟩).code) (nlE outs) (cpE outs)) := by
  have hr' := hr
  simp only [rightM, headM, Bool.and_eq_true, decide_eq_true_eq] at hr'
  obtain ⟨⟨hh, ho⟩, hc⟩ := hr'
  obtain ⟨k, rfl⟩ : ∃ j, k = j + 1 := ⟨k - 1, by omega⟩
  have hid := r15Idle_ev k n ins code outs nl cap nl2 cap2 (by omega) hr
  have hcp := rCopy_ev k ⟨ins, n, code, outs⟩ nl nl2 cap cap2 (Nat.le_trans (Nat.mul_le_mul_right 40 (show code.length ≤ 16384 by omega)) (by decide)) (Nat.le_trans (Nat.mul_le_mul_right 8 (show outs.length ≤ 128 by omega)) (by decide))
  have hnl : (neededM ⟨ins, n, code, outs⟩).length = code.length := (needL_length _ _).2
  have hq : (encCode (deadP ⟨ins, n, code, outs⟩).code).length = (deadP ⟨ins, n, code, outs⟩).code.length * 5 := encCode_length _
  simp only [run, aP, ii, sI, sC] at hid hcp
  rw [run, ev37, ans_trim]
  simp only [Try.f37, aP, ii, bb, hid, hcp, EVb, EVc, Int.reduceEq, Int.reduceToNat, Int.reduceLE, Int.reduceLT, Int.reduceAdd, Int.reduceMul, Int.reduceSub, Int.reduceNeg, Nat.reduceAdd, Nat.reduceSub, Nat.reduceMul, Nat.reduceLT, Nat.reduceBEq, Nat.reduceEqDiff, Nat.reduceLeDiff, FACTS, TYPES]
  rw [evalCode_loopB LB37_5 lp37_5]; rotate_left; rfl; rfl; rfl
  generalize hz : loopR _ _ _ _ _ _ _ _ _ _ _ _ = z
  obtain ⟨l', rfl, e2, e3⟩ := loop_r15Pass_5 (k + 1) ins n (.slice (encInts outs) outs.length nl2 cap2) _ (by rfl) (sI outs (nlE outs) (cpE outs)) (by rfl) (by rfl) code nl cap (neededM ⟨ins, n, code, outs⟩) (nlE code) (cpE code) hnl (by omega) _ _ z hz (by omega) (by rfl) (by rfl) (by rfl) (by rfl) (by rfl)
  clear hz
  have e1 : (deadP ⟨ins, n, code, outs⟩).ins = ins := rfl
  have e5 : (deadP ⟨ins, n, code, outs⟩).regs = n := rfl
  have e6 : (deadP ⟨ins, n, code, outs⟩).outs = outs := rfl
  have e7 : keepL code (neededM ⟨ins, n, code, outs⟩) = (deadP ⟨ins, n, code, outs⟩).code := rfl
  rw [e7]
  by_cases hz : (deadP ⟨ins, n, code, outs⟩).code.length = 0
  · simp only [e2, e3, hq, hz, e1, e5, e6, aP, ii, EVb, EVc, Int.reduceEq, Int.reduceToNat, Int.reduceLE, Int.reduceLT, Int.reduceAdd, Int.reduceMul, Int.reduceSub, Int.reduceNeg, Nat.reduceAdd, Nat.reduceSub, Nat.reduceMul, Nat.reduceLT, Nat.reduceBEq, Nat.reduceEqDiff, Nat.reduceLeDiff, FACTS, TYPES]
    simp [nlE, cpE, sC, sI, hz]
  · simp only [e2, e3, hq, hz, e1, e5, e6, aP, ii, EVb, EVc, Int.reduceEq, Int.reduceToNat, Int.reduceLE, Int.reduceLT, Int.reduceAdd, Int.reduceMul, Int.reduceSub, Int.reduceNeg, Nat.reduceAdd, Nat.reduceSub, Nat.reduceMul, Nat.reduceLT, Nat.reduceBEq, Nat.reduceEqDiff, Nat.reduceLeDiff, FACTS, TYPES]
    simp [nlE, cpE, sC, sI, hz]
end Go.Proofs.Sw
namespace Go.Proofs.Sw
set_option linter.unusedVariables false
set_option linter.unusedSimpArgs false
set_option linter.unusedSectionVars false
open Go.Ab
variable [Globals]
/-- Whether a register's beginning is asked. -/
def askF (outs : List Int) (r : Int) : List Ins → Bool
  | i :: rest => (asks i).any (· == r) || (!(decide (i.to = r)) && askF outs r rest)
  | [] => outs.any (· == r)
theorem askF_step {outs : List Int} {r : Int} {code : List Ins} {j : Nat} (h : j < code.length) :
    askF outs r (code.drop j) = ((asks code[j]).any (· == r) || (!(decide (code[j].to = r)) && askF outs r (code.drop (j + 1)))) := by
  rw [List.drop_eq_getElem_cons h, askF]
theorem loop_r15Asked_12 (kf : Nat) (c0 c1 : AObj) (B : List Bool) (n rr : Nat) (j : AV) (acc : Bool) (ls : List Int) (nl : Bool) (cap : Option Nat) (hl : ls.length ≤ 1000000) (hB : B.length = n) (hrr : rr < n) (k : Nat) (l : Ass) (z : Option Out)
    (hz : loopR Try.prog tab kf none LB38_12 38 96 [1, 3, 4, 5, 7, 8, 9] 3 k l [c0, c1, rB (B.set rr acc)] = z) (hk : ls.length < k)
    (h1 : asc l 1 = .ptr 0 0) (h3 : asc l 3 = .ptr 1 0) (h4 : asc l 4 = .hsl 2 0 n n 1) (h5 : asc l 5 = ii rr) (h7 : asc l 7 = j) (h8 : asc l 8 = sI ls nl cap) (h9 : asc l 9 = ii (0 : Nat)) :
    ∃ l', z = some (.exit 4 (fr 96 l') [c0, c1, rB (B.set rr (orA acc true ls rr))]) ∧ asc l' 1 = .ptr 0 0 ∧ asc l' 3 = .ptr 1 0 ∧ asc l' 4 = .hsl 2 0 n n 1 ∧ asc l' 5 = ii rr ∧ asc l' 7 = j := by
  subst hz
  refine loop_nat ls.length (fun k l H => loopR Try.prog tab kf none LB38_12 38 96 [1, 3, 4, 5, 7, 8, 9] 3 k l H)
    (fun i l H => asc l 1 = .ptr 0 0 ∧ asc l 3 = .ptr 1 0 ∧ asc l 4 = .hsl 2 0 n n 1 ∧ asc l 5 = ii rr ∧ asc l 7 = j ∧ asc l 8 = sI ls nl cap ∧ asc l 9 = ii i ∧ H = [c0, c1, rB (B.set rr (orA acc true (ls.take i) rr))])
    (fun z => ∃ l', z = some (.exit 4 (fr 96 l') [c0, c1, rB (B.set rr (orA acc true ls rr))]) ∧ asc l' 1 = .ptr 0 0 ∧ asc l' 3 = .ptr 1 0 ∧ asc l' 4 = .hsl 2 0 n n 1 ∧ asc l' 5 = ii rr ∧ asc l' 7 = j) ?_ ls.length 0 k l _ (by omega) hk ⟨h1, h3, h4, h5, h7, h8, h9, by rw [List.take_zero, orA_nil]⟩
  clear h1 h3 h4 h5 h7 h8 h9 hk
  rintro i k l H hi ⟨h1, h3, h4, h5, h7, h8, h9, rfl⟩
  have ht : ∀ q : List Bool, trim 3 (fr 96 (keep l [1, 3, 4, 5, 7, 8, 9])) [c0, c1, rB q] = [c0, c1, rB q] := fun q => trim_same rfl
  by_cases hc : i < ls.length
  · refine .inr ?_
    have hc' : ((i : Int) < ls.length) := by omega
    have hc0 : (0 : Int) ≤ i := by omega
    have hx := encInts_get hc
    have hw := wrap_succ hc (by omega)
    obtain ⟨x, hX⟩ : ∃ x, x = ls[i] := ⟨_, rfl⟩
    rw [← hX] at hx
    have hyes := fun h : x = rr => orA_yes (acc := acc) (f := true) hc (hX.symm.trans h)
    have hno := fun h : x ≠ rr => orA_no (acc := acc) (f := true) hc (fun h' => h (hX.trans h'))
    obtain ⟨A, hA⟩ : ∃ A, A = orA acc true (ls.take i) rr := ⟨_, rfl⟩
    rw [← hA] at hyes hno ⊢
    obtain ⟨A2, hA2⟩ : ∃ A, A = orA acc true (ls.take (i + 1)) rr := ⟨_, rfl⟩
    rw [← hA2] at hyes hno ⊢
    have hk0 : (0 : Int) ≤ rr := by omega
    have hk1 : (rr : Int) < n := by omega
    have hel : (encB (B.set rr A)).length = n := by rw [encB_length, List.length_set, hB]
    have hg : (encB (B.set rr A))[rr]? = some (.bool A) := encB_of (by simp; omega) (by simp [show rr < B.length by omega])
    simp only [loopR_succ, ht]
    by_cases hxr : x = rr
    · have he := hyes hxr
      rw [Bool.or_true] at he
      clear hyes hno hA hA2
      cases A with
      | true =>
        simp only [h1, h3, h4, h5, h7, h8, h9, hc', hc0, hx, hw, hxr, hg, hk0, hk1, hrr, hel, encB_set, List.set_set, loopR_succ, loopOf, findLoop, firstRegion, Option.some_or, Option.none_or, Option.getD_some, Option.some.injEq, Try.f38, EVb, EVc, Int.reduceEq, Int.reduceToNat, Int.reduceLE, Int.reduceLT, Int.reduceAdd, Int.reduceMul, Int.reduceSub, Int.reduceNeg, Nat.reduceAdd, Nat.reduceSub, Nat.reduceMul, Nat.reduceLT, Nat.reduceBEq, Nat.reduceEqDiff, Nat.reduceLeDiff, FACTS, TYPES]
        exact ⟨_, _, hc, rfl, (by rfl), (by rfl), (by rfl), (by rfl), (by first | rfl | exact h7), (by rfl), (by rfl), by rw [he]⟩
      | false =>
        simp only [h1, h3, h4, h5, h7, h8, h9, hc', hc0, hx, hw, hxr, hg, hk0, hk1, hrr, hel, encB_set, List.set_set, loopR_succ, loopOf, findLoop, firstRegion, Option.some_or, Option.none_or, Option.getD_some, Option.some.injEq, Try.f38, EVb, EVc, Int.reduceEq, Int.reduceToNat, Int.reduceLE, Int.reduceLT, Int.reduceAdd, Int.reduceMul, Int.reduceSub, Int.reduceNeg, Nat.reduceAdd, Nat.reduceSub, Nat.reduceMul, Nat.reduceLT, Nat.reduceBEq, Nat.reduceEqDiff, Nat.reduceLeDiff, FACTS, TYPES]
        exact ⟨_, _, hc, rfl, (by rfl), (by rfl), (by rfl), (by rfl), (by first | rfl | exact h7), (by rfl), (by rfl), by rw [he]⟩
    · have he := hno hxr
      clear hyes hno hA hA2
      cases A with
      | true =>
        simp only [h1, h3, h4, h5, h7, h8, h9, hc', hc0, hx, hw, hxr, hg, hk0, hk1, hrr, hel, encB_set, List.set_set, loopR_succ, loopOf, findLoop, firstRegion, Option.some_or, Option.none_or, Option.getD_some, Option.some.injEq, Try.f38, EVb, EVc, Int.reduceEq, Int.reduceToNat, Int.reduceLE, Int.reduceLT, Int.reduceAdd, Int.reduceMul, Int.reduceSub, Int.reduceNeg, Nat.reduceAdd, Nat.reduceSub, Nat.reduceMul, Nat.reduceLT, Nat.reduceBEq, Nat.reduceEqDiff, Nat.reduceLeDiff, FACTS, TYPES]
        exact ⟨_, _, hc, rfl, (by rfl), (by rfl), (by rfl), (by rfl), (by first | rfl | exact h7), (by rfl), (by rfl), by rw [he]⟩
      | false =>
        simp only [h1, h3, h4, h5, h7, h8, h9, hc', hc0, hx, hw, hxr, hg, hk0, hk1, hrr, hel, encB_set, List.set_set, loopR_succ, loopOf, findLoop, firstRegion, Option.some_or, Option.none_or, Option.getD_some, Option.some.injEq, Try.f38, EVb, EVc, Int.reduceEq, Int.reduceToNat, Int.reduceLE, Int.reduceLT, Int.reduceAdd, Int.reduceMul, Int.reduceSub, Int.reduceNeg, Nat.reduceAdd, Nat.reduceSub, Nat.reduceMul, Nat.reduceLT, Nat.reduceBEq, Nat.reduceEqDiff, Nat.reduceLeDiff, FACTS, TYPES]
        exact ⟨_, _, hc, rfl, (by rfl), (by rfl), (by rfl), (by rfl), (by first | rfl | exact h7), (by rfl), (by rfl), by rw [he]⟩
  · have hc' : ¬ ((i : Int) < ls.length) := by omega
    have he : ls.take i = ls := List.take_of_length_le (by omega)
    refine .inl ?_
    simp only [loopR_succ, ht]
    simp only [h1, h3, h4, h5, h7, h8, h9, hc', he, loopR_succ, loopOf, findLoop, firstRegion, Option.some_or, Option.none_or, Option.getD_some, Option.some.injEq, Try.f38, EVb, EVc, Int.reduceEq, Int.reduceToNat, Int.reduceLE, Int.reduceLT, Int.reduceAdd, Int.reduceMul, Int.reduceSub, Int.reduceNeg, Nat.reduceAdd, Nat.reduceSub, Nat.reduceMul, Nat.reduceLT, Nat.reduceBEq, Nat.reduceEqDiff, Nat.reduceLeDiff, FACTS, TYPES]
    exact ⟨_, rfl, (by rfl), (by rfl), (by rfl), (by rfl), (by first | rfl | exact h7)⟩
theorem loop_r15Asked_17 (kf : Nat) (c0 : AObj) (ins regs : Int) (cv : AV) (B : List Bool) (n rr : Nat) (acc over : Bool) (outs : List Int) (nl : Bool) (cap : Option Nat) (hl : outs.length ≤ 1000000) (hB : B.length = n) (hrr : rr < n) (k : Nat) (l : Ass) (z : Option Out)
    (hz : loopR Try.prog tab kf none LB38_17 38 96 [1, 3, 4, 5, 6, 10] 3 k l [c0, cP ins regs cv (sI outs nl cap), rB (B.set rr acc)] = z) (hk : outs.length < k)
    (h1 : asc l 1 = .ptr 0 0) (h3 : asc l 3 = .ptr 1 0) (h4 : asc l 4 = .hsl 2 0 n n 1) (h5 : asc l 5 = ii rr) (h6 : asc l 6 = bb over) (h10 : asc l 10 = ii (0 : Nat)) :
    ∃ l', z = some (.exit 6 (fr 96 l') [c0, cP ins regs cv (sI outs nl cap), rB (B.set rr (orA acc (!over) outs rr))]) ∧ asc l' 1 = .ptr 0 0 ∧ asc l' 3 = .ptr 1 0 ∧ asc l' 4 = .hsl 2 0 n n 1 ∧ asc l' 5 = ii rr := by
  subst hz
  refine loop_nat outs.length (fun k l H => loopR Try.prog tab kf none LB38_17 38 96 [1, 3, 4, 5, 6, 10] 3 k l H)
    (fun i l H => asc l 1 = .ptr 0 0 ∧ asc l 3 = .ptr 1 0 ∧ asc l 4 = .hsl 2 0 n n 1 ∧ asc l 5 = ii rr ∧ asc l 6 = bb over ∧ asc l 10 = ii i ∧ H = [c0, cP ins regs cv (sI outs nl cap), rB (B.set rr (orA acc (!over) (outs.take i) rr))])
    (fun z => ∃ l', z = some (.exit 6 (fr 96 l') [c0, cP ins regs cv (sI outs nl cap), rB (B.set rr (orA acc (!over) outs rr))]) ∧ asc l' 1 = .ptr 0 0 ∧ asc l' 3 = .ptr 1 0 ∧ asc l' 4 = .hsl 2 0 n n 1 ∧ asc l' 5 = ii rr) ?_ outs.length 0 k l _ (by omega) hk ⟨h1, h3, h4, h5, h6, h10, by rw [List.take_zero, orA_nil]⟩
  clear h1 h3 h4 h5 h6 h10 hk
  rintro i k l H hi ⟨h1, h3, h4, h5, h6, h10, rfl⟩
  have ht : ∀ (a : AObj) (q : List Bool), trim 3 (fr 96 (keep l [1, 3, 4, 5, 6, 10])) [c0, a, rB q] = [c0, a, rB q] := fun a q => trim_same rfl
  by_cases hc : i < outs.length
  · have hc' : ((i : Int) < outs.length) := by omega
    have hc0 : (0 : Int) ≤ i := by omega
    have hx := encInts_get hc
    have hw := wrap_succ hc (by omega)
    obtain ⟨x, hX⟩ : ∃ x, x = outs[i] := ⟨_, rfl⟩
    rw [← hX] at hx
    have hyes := fun h : x = rr => orA_yes (acc := acc) (f := !over) hc (hX.symm.trans h)
    have hno := fun h : x ≠ rr => orA_no (acc := acc) (f := !over) hc (fun h' => h (hX.trans h'))
    obtain ⟨A, hA⟩ : ∃ A, A = orA acc (!over) (outs.take i) rr := ⟨_, rfl⟩
    rw [← hA] at hyes hno
    by_cases hov : over = true
    · have hA' : A = orA acc (!over) outs rr := by rw [hA, hov]; simp [orA]
      refine .inl ?_
      have h6' : asc l 6 = bb true := by rw [h6, hov]
      rw [← hA, ← hA']
      simp only [loopR_succ, ht]
      simp only [h1, h3, h4, h5, h6', h10, hc', loopR_succ, loopOf, findLoop, firstRegion, Option.some_or, Option.none_or, Option.getD_some, Option.some.injEq, Try.f38, EVb, EVc, Int.reduceEq, Int.reduceToNat, Int.reduceLE, Int.reduceLT, Int.reduceAdd, Int.reduceMul, Int.reduceSub, Int.reduceNeg, Nat.reduceAdd, Nat.reduceSub, Nat.reduceMul, Nat.reduceLT, Nat.reduceBEq, Nat.reduceEqDiff, Nat.reduceLeDiff, FACTS, TYPES]
      exact ⟨_, rfl, (by rfl), (by rfl), (by rfl), (by rfl)⟩
    · refine .inr ?_
      have hov' : over = false := by simpa using hov
      have h6' : asc l 6 = bb false := by rw [h6, hov']
      obtain ⟨A2, hA2⟩ : ∃ A, A = orA acc (!over) (outs.take (i + 1)) rr := ⟨_, rfl⟩
      rw [← hA2] at hyes hno ⊢
      rw [← hA]
      have hk0 : (0 : Int) ≤ rr := by omega
      have hk1 : (rr : Int) < n := by omega
      have hel : (encB (B.set rr A)).length = n := by rw [encB_length, List.length_set, hB]
      have hg : (encB (B.set rr A))[rr]? = some (.bool A) := encB_of (by simp; omega) (by simp [show rr < B.length by omega])
      simp only [loopR_succ, ht]
      by_cases hxr : x = rr
      · have he := hyes hxr
        rw [hov', Bool.not_false, Bool.or_true] at he
        clear hyes hno hA hA2
        cases A with
        | true =>
          simp only [h1, h3, h4, h5, h6', h10, hc', hc0, hx, hw, hxr, hg, hk0, hk1, hrr, hel, encB_set, List.set_set, loopR_succ, loopOf, findLoop, firstRegion, Option.some_or, Option.none_or, Option.getD_some, Option.some.injEq, Try.f38, EVb, EVc, Int.reduceEq, Int.reduceToNat, Int.reduceLE, Int.reduceLT, Int.reduceAdd, Int.reduceMul, Int.reduceSub, Int.reduceNeg, Nat.reduceAdd, Nat.reduceSub, Nat.reduceMul, Nat.reduceLT, Nat.reduceBEq, Nat.reduceEqDiff, Nat.reduceLeDiff, FACTS, TYPES]
          exact ⟨_, _, hc, rfl, (by rfl), (by rfl), (by rfl), (by rfl), (by rw [hov']; rfl), (by rfl), by rw [he]⟩
        | false =>
          simp only [h1, h3, h4, h5, h6', h10, hc', hc0, hx, hw, hxr, hg, hk0, hk1, hrr, hel, encB_set, List.set_set, loopR_succ, loopOf, findLoop, firstRegion, Option.some_or, Option.none_or, Option.getD_some, Option.some.injEq, Try.f38, EVb, EVc, Int.reduceEq, Int.reduceToNat, Int.reduceLE, Int.reduceLT, Int.reduceAdd, Int.reduceMul, Int.reduceSub, Int.reduceNeg, Nat.reduceAdd, Nat.reduceSub, Nat.reduceMul, Nat.reduceLT, Nat.reduceBEq, Nat.reduceEqDiff, Nat.reduceLeDiff, FACTS, TYPES]
          exact ⟨_, _, hc, rfl, (by rfl), (by rfl), (by rfl), (by rfl), (by rw [hov']; rfl), (by rfl), by rw [he]⟩
      · have he := hno hxr
        clear hyes hno hA hA2
        cases A with
        | true =>
          simp only [h1, h3, h4, h5, h6', h10, hc', hc0, hx, hw, hxr, hg, hk0, hk1, hrr, hel, encB_set, List.set_set, loopR_succ, loopOf, findLoop, firstRegion, Option.some_or, Option.none_or, Option.getD_some, Option.some.injEq, Try.f38, EVb, EVc, Int.reduceEq, Int.reduceToNat, Int.reduceLE, Int.reduceLT, Int.reduceAdd, Int.reduceMul, Int.reduceSub, Int.reduceNeg, Nat.reduceAdd, Nat.reduceSub, Nat.reduceMul, Nat.reduceLT, Nat.reduceBEq, Nat.reduceEqDiff, Nat.reduceLeDiff, FACTS, TYPES]
          exact ⟨_, _, hc, rfl, (by rfl), (by rfl), (by rfl), (by rfl), (by rw [hov']; rfl), (by rfl), by rw [he]⟩
        | false =>
          simp only [h1, h3, h4, h5, h6', h10, hc', hc0, hx, hw, hxr, hg, hk0, hk1, hrr, hel, encB_set, List.set_set, loopR_succ, loopOf, findLoop, firstRegion, Option.some_or, Option.none_or, Option.getD_some, Option.some.injEq, Try.f38, EVb, EVc, Int.reduceEq, Int.reduceToNat, Int.reduceLE, Int.reduceLT, Int.reduceAdd, Int.reduceMul, Int.reduceSub, Int.reduceNeg, Nat.reduceAdd, Nat.reduceSub, Nat.reduceMul, Nat.reduceLT, Nat.reduceBEq, Nat.reduceEqDiff, Nat.reduceLeDiff, FACTS, TYPES]
          exact ⟨_, _, hc, rfl, (by rfl), (by rfl), (by rfl), (by rfl), (by rw [hov']; rfl), (by rfl), by rw [he]⟩
  · have hc' : ¬ ((i : Int) < outs.length) := by omega
    have he : outs.take i = outs := List.take_of_length_le (by omega)
    refine .inl ?_
    simp only [loopR_succ, ht]
    simp only [h1, h3, h4, h5, h6, h10, hc', he, loopR_succ, loopOf, findLoop, firstRegion, Option.some_or, Option.none_or, Option.getD_some, Option.some.injEq, Try.f38, EVb, EVc, Int.reduceEq, Int.reduceToNat, Int.reduceLE, Int.reduceLT, Int.reduceAdd, Int.reduceMul, Int.reduceSub, Int.reduceNeg, Nat.reduceAdd, Nat.reduceSub, Nat.reduceMul, Nat.reduceLT, Nat.reduceBEq, Nat.reduceEqDiff, Nat.reduceLeDiff, FACTS, TYPES]
    exact ⟨_, rfl, (by rfl), (by rfl), (by rfl), (by rfl)⟩
theorem loop_r15Asked_8 (kf : Nat) (hkf : 1 ≤ kf) (c0 : AObj) (ins regs : Int) (code : List Ins) (nl : Bool) (cap : Option Nat) (ov : AV) (B : List Bool) (n rr : Nat) (outs : List Int) (hl : code.length ≤ 1000000) (hB : B.length = n) (hrr : rr < n) (k : Nat) (l : Ass) (z : Option Out)
    (hz : loopR Try.prog tab kf none LB38_8 38 96 [1, 3, 4, 5, 6, 7] 3 k l [c0, cP ins regs (sC code nl cap) ov, rB (B.set rr false)] = z) (hk : code.length + 5 < k) (hkf2 : 5 ≤ kf)
    (h1 : asc l 1 = .ptr 0 0) (h3 : asc l 3 = .ptr 1 0) (h4 : asc l 4 = .hsl 2 0 n n 1) (h5 : asc l 5 = ii rr) (h6 : asc l 6 = bb false) (h7 : asc l 7 = ii ((0 : Nat) : Int)) :
    ∃ l' over acc, z = some (.exit 2 (fr 96 l') [c0, cP ins regs (sC code nl cap) ov, rB (B.set rr acc)]) ∧ asc l' 1 = .ptr 0 0 ∧ asc l' 3 = .ptr 1 0 ∧ asc l' 4 = .hsl 2 0 n n 1 ∧ asc l' 5 = ii rr ∧ asc l' 6 = bb over ∧
      orA acc (!over) outs rr = askF outs rr code := by
  subst hz
  obtain ⟨T, hT⟩ : ∃ T, T = askF outs rr code := ⟨_, rfl⟩
  rw [← hT]
  obtain ⟨kf, rfl⟩ : ∃ j, kf = j + 1 := ⟨kf - 1, by omega⟩
  refine loop_nat code.length (fun k l H => loopR Try.prog tab (kf + 1) none LB38_8 38 96 [1, 3, 4, 5, 6, 7] 3 k l H)
    (fun j l H => ∃ over acc, asc l 1 = .ptr 0 0 ∧ asc l 3 = .ptr 1 0 ∧ asc l 4 = .hsl 2 0 n n 1 ∧ asc l 5 = ii rr ∧ asc l 6 = bb over ∧ asc l 7 = ii (j : Int) ∧ H = [c0, cP ins regs (sC code nl cap) ov, rB (B.set rr acc)] ∧ T = (acc || (!over && askF outs rr (code.drop j))))
    (fun z => ∃ l' over acc, z = some (.exit 2 (fr 96 l') [c0, cP ins regs (sC code nl cap) ov, rB (B.set rr acc)]) ∧ asc l' 1 = .ptr 0 0 ∧ asc l' 3 = .ptr 1 0 ∧ asc l' 4 = .hsl 2 0 n n 1 ∧ asc l' 5 = ii rr ∧ asc l' 6 = bb over ∧
      orA acc (!over) outs rr = T) ?_ code.length 0 k l _ (by omega) (by omega) ⟨false, false, h1, h3, h4, h5, h6, h7, rfl, by simp [hT]⟩
  clear h1 h3 h4 h5 h6 h7 hk
  rintro j k l H hi ⟨over, acc, h1, h3, h4, h5, h6, h7, rfl, hI⟩
  have ht : ∀ (a : AObj) (q : List Bool), trim 3 (fr 96 (keep l [1, 3, 4, 5, 6, 7])) [c0, a, rB q] = [c0, a, rB q] := fun a q => trim_same rfl
  by_cases hov : over = true
  · refine .inl ?_
    subst hov
    have hA : orA acc (!true) outs rr = T := by rw [hI]; simp [orA]
    by_cases hc : j < code.length
    · have hc' : ((j : Int) < code.length) := by omega
      simp only [loopR_succ, ht]
      simp only [h1, h3, h4, h5, h6, h7, hc', loopR_succ, loopOf, findLoop, firstRegion, Option.some_or, Option.none_or, Option.getD_some, Option.some.injEq, Try.f38, EVb, EVc, Int.reduceEq, Int.reduceToNat, Int.reduceLE, Int.reduceLT, Int.reduceAdd, Int.reduceMul, Int.reduceSub, Int.reduceNeg, Nat.reduceAdd, Nat.reduceSub, Nat.reduceMul, Nat.reduceLT, Nat.reduceBEq, Nat.reduceEqDiff, Nat.reduceLeDiff, FACTS, TYPES]
      exact ⟨_, true, acc, rfl, (by rfl), (by rfl), (by rfl), (by rfl), (by rfl), hA⟩
    · have hc' : ¬ ((j : Int) < code.length) := by omega
      simp only [loopR_succ, ht]
      simp only [h1, h3, h4, h5, h6, h7, hc', loopR_succ, loopOf, findLoop, firstRegion, Option.some_or, Option.none_or, Option.getD_some, Option.some.injEq, Try.f38, EVb, EVc, Int.reduceEq, Int.reduceToNat, Int.reduceLE, Int.reduceLT, Int.reduceAdd, Int.reduceMul, Int.reduceSub, Int.reduceNeg, Nat.reduceAdd, Nat.reduceSub, Nat.reduceMul, Nat.reduceLT, Nat.reduceBEq, Nat.reduceEqDiff, Nat.reduceLeDiff, FACTS, TYPES]
      exact ⟨_, true, acc, rfl, (by rfl), (by rfl), (by rfl), (by rfl), (by rfl), hA⟩
  · have hov' : over = false := by simpa using hov
    subst hov'
    clear hov
    by_cases hc : j < code.length
    · refine .inr ?_
      have hc' : ((j : Int) < code.length) := by omega
      have hc0 : (0 : Int) ≤ j := by omega
      have hx := encCode_get hc
      have hw := wrap_succ hc (by omega)
      have hto := encCode_to hc
      rw [askF_step hc] at hI
      obtain ⟨x, hX⟩ : ∃ x, x = code[j] := ⟨_, rfl⟩
      rw [← hX] at hx hI hto
      have hA := rAsks_ev kf x.op x.to x.a x.b x.c
      simp only [run, aI, ii] at hA
      have hal := asks_len x
      simp only [loopR_succ, ht]
      simp only [h1, h3, h4, h5, h6, h7, hc', hc0, hx, hA, hw, loopR_succ, loopOf, findLoop, firstRegion, Option.some_or, Option.none_or, Option.getD_some, Option.some.injEq, Try.f38, EVb, EVc, Int.reduceEq, Int.reduceToNat, Int.reduceLE, Int.reduceLT, Int.reduceAdd, Int.reduceMul, Int.reduceSub, Int.reduceNeg, Nat.reduceAdd, Nat.reduceSub, Nat.reduceMul, Nat.reduceLT, Nat.reduceBEq, Nat.reduceEqDiff, Nat.reduceLeDiff, FACTS, TYPES]
      rw [evalCode_loopB LB38_12 lp38_12]; rotate_left; rfl; rfl; rfl
      generalize hz : loopR _ _ _ _ _ _ _ _ _ _ _ _ = z
      obtain ⟨l2, rfl, e1, e3, e4, e5, e7⟩ := loop_r15Asked_12 (kf + 1) _ _ B n rr (ii (j : Int)) acc (asks x) (nlE (asks x)) (cpE (asks x)) (by omega) hB hrr _ _ z hz (by omega) (by rfl) (by rfl) (by rfl) (by rfl) (by rfl) (by rfl) (by rfl)
      clear hz
      simp only [e1, e3, e4, e5, e7, hc', hc0, hx, hw, hto, EVb, EVc, Int.reduceEq, Int.reduceToNat, Int.reduceLE, Int.reduceLT, Int.reduceAdd, Int.reduceMul, Int.reduceSub, Int.reduceNeg, Nat.reduceAdd, Nat.reduceSub, Nat.reduceMul, Nat.reduceLT, Nat.reduceBEq, Nat.reduceEqDiff, Nat.reduceLeDiff, FACTS, TYPES]
      refine ⟨_, _, by omega, rfl, decide (x.to = rr), orA acc true (asks x) rr, (by exact e1), (by exact e3), (by exact e4), (by exact e5), (by rfl), (by rfl), rfl, ?_⟩
      rw [hI]
      unfold orA
      cases acc <;> simp
    · refine .inl ?_
      have hc' : ¬ ((j : Int) < code.length) := by omega
      have hA : orA acc (!false) outs rr = T := by
        rw [hI, List.drop_eq_nil_of_le (by omega)]; simp [orA, askF]
      simp only [loopR_succ, ht]
      simp only [h1, h3, h4, h5, h6, h7, hc', loopR_succ, loopOf, findLoop, firstRegion, Option.some_or, Option.none_or, Option.getD_some, Option.some.injEq, Try.f38, EVb, EVc, Int.reduceEq, Int.reduceToNat, Int.reduceLE, Int.reduceLT, Int.reduceAdd, Int.reduceMul, Int.reduceSub, Int.reduceNeg, Nat.reduceAdd, Nat.reduceSub, Nat.reduceMul, Nat.reduceLT, Nat.reduceBEq, Nat.reduceEqDiff, Nat.reduceLeDiff, FACTS, TYPES]
      exact ⟨_, false, acc, rfl, (by rfl), (by rfl), (by rfl), (by rfl), (by rfl), hA⟩
end Go.Proofs.Sw
namespace Go.Proofs.Sw
set_option linter.unusedVariables false
set_option linter.unusedSimpArgs false
set_option linter.unusedSectionVars false
open Go.Ab
variable [Globals]
/-- Of each register, whether its beginning is asked. -/
def askR (outs : List Int) (code : List Ins) (n : Nat) : List Bool := (List.range n).map fun (r : Nat) => askF outs (r : Int) code
theorem askR_length (outs : List Int) (code : List Ins) (n : Nat) : (askR outs code n).length = n := by simp [askR]
theorem askR_succ (outs : List Int) (code : List Ins) (n : Nat) : askR outs code (n + 1) = askR outs code n ++ [askF outs n code] := by
  simp [askR, List.range_succ]
theorem loop_r15Asked_4 (kf : Nat) (i0 : Int) (v0 o0 : AV) (ins : Int) (n : Nat) (code : List Ins) (nl nl2 : Bool) (cap cap2 : Option Nat) (outs : List Int) (hl : code.length ≤ 1000000) (hl2 : outs.length ≤ 1000000) (hn : n ≤ 1000000) (hkf : code.length + outs.length + 20 ≤ kf) (k : Nat) (l : Ass) (z : Option Out)
    (hz : loopR Try.prog tab kf none LB38_4 38 96 [1, 3, 4, 5] 3 k l [cP i0 n v0 o0, cP ins n (sC code nl cap) (sI outs nl2 cap2), rB (List.replicate n false)] = z) (hk : n < k)
    (h1 : asc l 1 = .ptr 0 0) (h3 : asc l 3 = .ptr 1 0) (h4 : asc l 4 = .hsl 2 0 n n 1) (h5 : asc l 5 = ii (0 : Nat)) :
    ∃ l', z = some (.exit 0 (fr 96 l') [cP i0 n v0 o0, cP ins n (sC code nl cap) (sI outs nl2 cap2), rB (askR outs code n)]) ∧ asc l' 4 = .hsl 2 0 n n 1 := by
  subst hz
  refine loop_nat n (fun k l H => loopR Try.prog tab kf none LB38_4 38 96 [1, 3, 4, 5] 3 k l H)
    (fun i l H => asc l 1 = .ptr 0 0 ∧ asc l 3 = .ptr 1 0 ∧ asc l 4 = .hsl 2 0 n n 1 ∧ asc l 5 = ii (i : Int) ∧ H = [cP i0 n v0 o0, cP ins n (sC code nl cap) (sI outs nl2 cap2), rB (askR outs code i ++ List.replicate (n - i) false)])
    (fun z => ∃ l', z = some (.exit 0 (fr 96 l') [cP i0 n v0 o0, cP ins n (sC code nl cap) (sI outs nl2 cap2), rB (askR outs code n)]) ∧ asc l' 4 = .hsl 2 0 n n 1) ?_ n 0 k l _ (by omega) (by omega) ⟨h1, h3, h4, h5, by simp [askR]⟩
  clear h1 h3 h4 h5 hk
  rintro i k l H hi ⟨h1, h3, h4, h5, rfl⟩
  have ht : ∀ (a b : AObj) (q : List Bool), trim 3 (fr 96 (keep l [1, 3, 4, 5])) [a, b, rB q] = [a, b, rB q] := fun a b q => trim_same rfl
  by_cases hc : i < n
  · refine .inr ?_
    have hc' : ((i : Int) < n) := by omega
    have hw := wrap_succ hc (by omega)
    obtain ⟨B, hB⟩ : ∃ B, B = askR outs code i ++ List.replicate (n - i) false := ⟨_, rfl⟩
    have hBl : B.length = n := by rw [hB]; simp [askR_length]; omega
    have hBs : ∀ b, B.set i b = askR outs code i ++ b :: List.replicate (n - (i + 1)) false := fun b => by
      rw [hB, List.set_append_right _ _ (by simp [askR_length]), askR_length, Nat.sub_self, show n - i = (n - (i + 1)) + 1 by omega, List.replicate_succ]
      rfl
    have hB0 : B = B.set i false := by rw [hBs, hB, show n - i = (n - (i + 1)) + 1 by omega, List.replicate_succ]
    rw [← hB]
    simp only [loopR_succ, ht]
    rw [hB0]
    simp only [h1, h3, h4, h5, hc', loopR_succ, loopOf, findLoop, firstRegion, Option.some_or, Option.none_or, Option.getD_some, Option.some.injEq, Try.f38, EVb, EVc, Int.reduceEq, Int.reduceToNat, Int.reduceLE, Int.reduceLT, Int.reduceAdd, Int.reduceMul, Int.reduceSub, Int.reduceNeg, Nat.reduceAdd, Nat.reduceSub, Nat.reduceMul, Nat.reduceLT, Nat.reduceBEq, Nat.reduceEqDiff, Nat.reduceLeDiff, FACTS, TYPES]
    rw [evalCode_loopB LB38_8 lp38_8]; rotate_left; rfl; rfl; rfl
    generalize hz : loopR _ _ _ _ _ _ _ _ _ _ _ _ = z
    obtain ⟨l2, over, acc, rfl, g1, g3, g4, g5, g6, hT⟩ := loop_r15Asked_8 kf (by omega) _ ins n code nl cap (sI outs nl2 cap2) B n i outs hl hBl hc _ _ z hz (by omega) (by omega) (by rfl) (by rfl) (by rfl) (by rfl) (by rfl) (by rfl)
    clear hz
    simp only [g1, g3, g4, g5, g6, EVb, EVc, Int.reduceEq, Int.reduceToNat, Int.reduceLE, Int.reduceLT, Int.reduceAdd, Int.reduceMul, Int.reduceSub, Int.reduceNeg, Nat.reduceAdd, Nat.reduceSub, Nat.reduceMul, Nat.reduceLT, Nat.reduceBEq, Nat.reduceEqDiff, Nat.reduceLeDiff, FACTS, TYPES]
    rw [evalCode_loopB LB38_17 lp38_17]; rotate_left; rfl; rfl; rfl
    generalize hz : loopR _ _ _ _ _ _ _ _ _ _ _ _ = z
    obtain ⟨l3, rfl, q1, q3, q4, q5⟩ := loop_r15Asked_17 kf _ ins n (sC code nl cap) B n i acc over outs nl2 cap2 hl2 hBl hc _ _ z hz (by omega) (by exact g1) (by exact g3) (by exact g4) (by exact g5) (by exact g6) (by rfl)
    clear hz
    simp only [q1, q3, q4, q5, hw, EVb, EVc, Int.reduceEq, Int.reduceToNat, Int.reduceLE, Int.reduceLT, Int.reduceAdd, Int.reduceMul, Int.reduceSub, Int.reduceNeg, Nat.reduceAdd, Nat.reduceSub, Nat.reduceMul, Nat.reduceLT, Nat.reduceBEq, Nat.reduceEqDiff, Nat.reduceLeDiff, FACTS, TYPES]
    refine ⟨_, _, by omega, rfl, (by exact q1), (by exact q3), (by exact q4), (by rfl), ?_⟩
    rw [hT, hBs, askR_succ, List.append_assoc]
    rfl
  · refine .inl ?_
    obtain rfl : i = n := by omega
    have hc' : ¬ ((i : Int) < (i : Int)) := by omega
    simp only [Nat.sub_self, List.replicate_zero, List.append_nil]
    simp only [loopR_succ, ht]
    simp only [h1, h3, h4, h5, hc', loopR_succ, loopOf, findLoop, firstRegion, Option.some_or, Option.none_or, Option.getD_some, Option.some.injEq, Try.f38, EVb, EVc, Int.reduceEq, Int.reduceToNat, Int.reduceLE, Int.reduceLT, Int.reduceAdd, Int.reduceMul, Int.reduceSub, Int.reduceNeg, Nat.reduceAdd, Nat.reduceSub, Nat.reduceMul, Nat.reduceLT, Nat.reduceBEq, Nat.reduceEqDiff, Nat.reduceLeDiff, FACTS, TYPES]
    exact ⟨_, rfl, (by rfl)⟩
theorem askL_R (n : Nat) (outs : List Int) (ho : ∀ r ∈ outs, 0 ≤ r ∧ r < (n : Int)) {r : Int} (h0 : 0 ≤ r) (h1 : r < n) : ∀ code : List Ins, (∀ i ∈ code, mayM i n = true) → (askL (asked0 n outs) code).getD r.toNat false = askF outs r code
  | [], _ => asked0_get ho h0 h1
  | i :: rest, h => by
    have ih := askL_R n outs ho h0 h1 rest fun j hj => h j (by simp [hj])
    have hl : (askL (asked0 n outs) rest).length = n := by rw [askL_length]; simp [asked0, mark_length]
    obtain ⟨⟨t0, t1⟩, ha⟩ := may_asks (h i (by simp))
    rw [askL, mark_getD _ _ _ _ (by simp [hl]; omega), any_toNat (n := n) h0 _ ha, askF]
    by_cases hr : i.to = r
    · rw [hr]
      have : ((askL (asked0 n outs) rest).set r.toNat false).getD r.toNat false = false := by
        simp [hl, show r.toNat < n by omega]
      rw [this]
      cases (asks i).any (· == r) <;> simp
    · have : ((askL (asked0 n outs) rest).set i.to.toNat false).getD r.toNat false = askF outs r rest := by
        rw [← ih]
        simp [List.getElem?_set_ne (show i.to.toNat ≠ r.toNat by omega)]
      rw [this, decide_eq_false hr]
      cases (asks i).any (· == r) <;> simp
theorem askedM_R (n : Nat) (ins : Int) (code : List Ins) (outs : List Int) (hr : rightM ⟨ins, n, code, outs⟩ = true) : askR outs code n = askedM ⟨ins, n, code, outs⟩ := by
  simp only [rightM, headM, Bool.and_eq_true, decide_eq_true_eq] at hr
  obtain ⟨⟨hh, ho⟩, hc⟩ := hr
  have hout : ∀ r ∈ outs, 0 ≤ r ∧ r < (n : Int) := fun r h => by have := List.all_eq_true.1 ho r h; simpa using this
  have hcode : ∀ i ∈ code, mayM i n = true := fun i h => List.all_eq_true.1 hc i h
  have hl : (askedM ⟨ins, n, code, outs⟩).length = n := by
    show (askL (asked0 n outs) code).length = n
    rw [askL_length]; simp [asked0, mark_length]
  apply List.ext_getElem (by rw [askR_length, hl])
  intro j h1 h2
  rw [askR_length] at h1
  have := askL_R n outs hout (r := (j : Int)) (by omega) (by omega) code hcode
  rw [Int.toNat_natCast] at this
  have e : (askedM ⟨ins, n, code, outs⟩).getD j false = (askedM ⟨ins, n, code, outs⟩)[j] := getD_lt h2
  rw [← e]
  refine Eq.trans ?_ this.symm
  simp [askR]
theorem r15Asked_ev (k n : Nat) (ins : Int) (code0 : List Ins) (outs : List Int) (nl0 : Bool) (cap0 : Option Nat) (nl2 : Bool) (cap2 : Option Nat) (hk : outs.length + code0.length + 240 ≤ k) (hr0 : rightM ⟨ins, n, code0, outs⟩ = true) :
    run (k+1) 38 [aP ⟨ins, n, code0, outs⟩ nl0 cap0 nl2 cap2] = some (sB (askedM (deadP ⟨ins, n, code0, outs⟩)) false none) := by
  have hr := deadP_right hr0
  obtain ⟨code, hcd⟩ : ∃ code, code = (deadP ⟨ins, n, code0, outs⟩).code := ⟨_, rfl⟩
  have hcl : code.length ≤ code0.length := by rw [hcd]; exact keepL_len _ _
  have hde : deadP ⟨ins, n, code0, outs⟩ = ⟨ins, n, code, outs⟩ := by rw [hcd]; rfl
  obtain ⟨k, rfl⟩ : ∃ j, k = j + 1 := ⟨k - 1, by omega⟩
  have hp := r15Pass_ev k n ins code0 outs nl0 cap0 nl2 cap2 (by omega) hr0
  rw [hde] at hp hr ⊢
  rw [← askedM_R n ins code outs hr]
  simp only [rightM, headM, Bool.and_eq_true, decide_eq_true_eq] at hr
  obtain ⟨⟨hh, ho⟩, hc⟩ := hr
  have q1 : (0 : Int) ≤ n := by omega
  have q2 : n ≤ roomBytes := Nat.le_trans (show n ≤ 128 by omega) (by decide)
  have hrl := askR_length outs code n
  have hel : (encB (askR outs code n)).length = n := by rw [encB_length, hrl]
  have htk : (encB (askR outs code n)).take n = encB (askR outs code n) := List.take_of_length_le (by omega)
  simp only [run, aP, ii, sI, sC] at hp
  rw [run, ev38, ans_trim]
  simp only [Try.f38, aP, ii, bb, hp, q1, q2, encB_rep, EVb, EVc, Int.reduceEq, Int.reduceToNat, Int.reduceLE, Int.reduceLT, Int.reduceAdd, Int.reduceMul, Int.reduceSub, Int.reduceNeg, Nat.reduceAdd, Nat.reduceSub, Nat.reduceMul, Nat.reduceLT, Nat.reduceBEq, Nat.reduceEqDiff, Nat.reduceLeDiff, FACTS, TYPES]
  rw [evalCode_loopB LB38_4 lp38_4]; rotate_left; rfl; rfl; rfl
  generalize hz : loopR _ _ _ _ _ _ _ _ _ _ _ _ = z
  obtain ⟨l', rfl, e4⟩ := loop_r15Asked_4 (k + 1) ins _ _ ins n code (nlE code) (nlE outs) (cpE code) (cpE outs) outs (by omega) (by omega) (by omega) (by omega) _ _ z hz (by omega) (by rfl) (by rfl) (by rfl) (by rfl)
  clear hz
  simp only [e4, hel, hrl, htk, Nat.le_refl, sB, EVb, EVc, Int.reduceEq, Int.reduceToNat, Int.reduceLE, Int.reduceLT, Int.reduceAdd, Int.reduceMul, Int.reduceSub, Int.reduceNeg, Nat.reduceAdd, Nat.reduceSub, Nat.reduceMul, Nat.reduceLT, Nat.reduceBEq, Nat.reduceEqDiff, Nat.reduceLeDiff, FACTS, TYPES]
end Go.Proofs.Sw
