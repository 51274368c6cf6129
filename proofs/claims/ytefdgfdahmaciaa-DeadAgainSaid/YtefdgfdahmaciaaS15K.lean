/- A part of the proof: what functions of the program answer, of whatever arguments, reckoned with letters by the interpreter's equations. Its conditions stand in each theorem. -/
import Derived.Test.YtefdgfdahmaciaaS15J
namespace Go.Proofs.Sw
set_option linter.unusedVariables false
set_option linter.unusedSimpArgs false
set_option linter.unusedSectionVars false
open Go.Ab
variable [Globals]
/-- Whose beginning is asked. -/
def askL (base : List Bool) : List Ins → List Bool
  | [] => base
  | i :: rest => mark ((askL base rest).set i.to.toNat false) true (asks i)
theorem askL_length (base : List Bool) : ∀ code : List Ins, (askL base code).length = base.length
  | [] => rfl
  | i :: rest => by rw [askL, mark_length]; simp [askL_length base rest]
def askedM (p : Pg) : List Bool := askL (asked0 p.regs.toNat p.outs) p.code
/-- Marking what is asked, in a row at place 1. -/
theorem loop_Asked_6 (kf : Nat) (pc cq : AObj) (n : Nat) (outs : List Int) (nl : Bool) (cap : Option Nat) (hlen : outs.length ≤ 4611686018427387904) (hr : ∀ r ∈ outs, 0 ≤ r ∧ r < n) (as0 : List Bool) (ha0 : as0.length = n)
    (k : Nat) (l : Ass) (H : Heap) (z : Option Out) (hz : loopR Try.prog tab kf none LB31_6 31 55 [4, 6, 25, 26, 27] 4 k l H = z) (hk : outs.length < k)
    (h4 : asc l 4 = .ptr 1 0) (h6 : asc l 6 = .ptr 3 0) (h25 : asc l 25 = sI outs nl cap) (h26 : asc l 26 = ii outs.length) (h27 : asc l 27 = ii (0 : Nat)) (hH : H = [pc, cq, rB as0, .cells 64 [.hsl 2 0 n n 1]]) :
    z = some (.exit 0 (fr 55 [(28, bb false), (4, .ptr 1 0), (6, .ptr 3 0), (25, sI outs nl cap), (26, ii outs.length), (27, ii outs.length)]) [pc, cq, rB (mark as0 true outs), .cells 64 [.hsl 2 0 n n 1]]) := by
  subst hH
  subst hz
  refine loop_nat outs.length (fun k l H => loopR Try.prog tab kf none LB31_6 31 55 [4, 6, 25, 26, 27] 4 k l H)
    (fun i l H => asc l 4 = .ptr 1 0 ∧ asc l 6 = .ptr 3 0 ∧ asc l 25 = sI outs nl cap ∧ asc l 26 = ii outs.length ∧ asc l 27 = ii i ∧ H = [pc, cq, rB (mark as0 true (outs.take i)), .cells 64 [.hsl 2 0 n n 1]])
    (fun z => z = some (.exit 0 (fr 55 [(28, bb false), (4, .ptr 1 0), (6, .ptr 3 0), (25, sI outs nl cap), (26, ii outs.length), (27, ii outs.length)]) [pc, cq, rB (mark as0 true outs), .cells 64 [.hsl 2 0 n n 1]])) ?_ outs.length 0 k l _ (by omega) hk ⟨h4, h6, h25, h26, h27, rfl⟩
  clear h4 h6 h25 h26 h27 hk
  rintro i k l H hi ⟨h4, h6, h25, h26, h27, rfl⟩
  have ht : ∀ q : List Bool, trim 4 (fr 55 (keep l [4, 6, 25, 26, 27])) [pc, cq, rB q, .cells 64 [.hsl 2 0 n n 1]] = [pc, cq, rB q, .cells 64 [.hsl 2 0 n n 1]] := fun q => trim_same rfl
  by_cases hc : i < outs.length
  · refine .inr ?_
    have hc' : ((i : Int) < outs.length) := by omega
    have hc0 : (0 : Int) ≤ i := by omega
    have hx := encInts_get hc
    have hw := wrap_succ hc hlen
    obtain ⟨x, hX⟩ : ∃ x, x = outs[i] := ⟨_, rfl⟩
    rw [← hX] at hx
    obtain ⟨x0, x1⟩ := hr x (by rw [hX]; exact List.getElem_mem hc)
    have hm : (mark as0 true (outs.take i)).length = n := by rw [mark_length]; exact ha0
    have hnx : mark as0 true (outs.take (i + 1)) = (mark as0 true (outs.take i)).set x.toNat true := by rw [List.take_succ_eq_append_getElem hc, mark_snoc, ← hX]
    have hxl : x.toNat < n := by omega
    have hel : (encB (mark as0 true (outs.take i))).length = n := by rw [encB_length, hm]
    simp only [loopR_succ, ht]
    simp only [h4, h6, h25, h26, h27, hc', hc0, hx, hw, x0, x1, hel, hxl, encB_set, loopR_succ, loopOf, findLoop, firstRegion, Option.some_or, Option.none_or, Option.getD_some, Option.some.injEq, Try.f31, EVb, EVc, Int.reduceEq, Int.reduceToNat, Int.reduceLE, Int.reduceLT, Int.reduceAdd, Int.reduceMul, Int.reduceSub, Int.reduceNeg, Nat.reduceAdd, Nat.reduceSub, Nat.reduceMul, Nat.reduceLT, Nat.reduceBEq, Nat.reduceEqDiff, Nat.reduceLeDiff, FACTS, TYPES]
    exact ⟨_, _, hc, rfl, (by rfl), (by rfl), (by rfl), (by rfl), (by rfl), by rw [hnx]⟩
  · refine .inl ?_
    have hc' : ¬ ((i : Int) < outs.length) := by omega
    have he : outs.take i = outs := List.take_of_length_le (by omega)
    obtain rfl : i = outs.length := by omega
    simp only [loopR_succ, ht]
    simp only [h4, h6, h25, h26, h27, hc', he, loopR_succ, loopOf, findLoop, firstRegion, Option.some_or, Option.none_or, Option.getD_some, Option.some.injEq, Try.f31, EVb, EVc, Int.reduceEq, Int.reduceToNat, Int.reduceLE, Int.reduceLT, Int.reduceAdd, Int.reduceMul, Int.reduceSub, Int.reduceNeg, Nat.reduceAdd, Nat.reduceSub, Nat.reduceMul, Nat.reduceLT, Nat.reduceBEq, Nat.reduceEqDiff, Nat.reduceLeDiff, FACTS, TYPES]
/-- The same behind an instruction. -/
theorem loop_Asked_14 (kf : Nat) (ar : Option Nat) (pc cq : AObj) (X : Heap) (n : Nat) (rs : List Int) (nl : Bool) (cap : Option Nat) (hlen : rs.length ≤ 4611686018427387904) (hr : ∀ r ∈ rs, 0 ≤ r ∧ r < n) (as0 : List Bool) (ha0 : as0.length = n)
    (k : Nat) (l : Ass) (m : Nat) (z : Option Out) (hz : loopR Try.prog tab kf ar LB31_14 31 55 [6, 44, 45, 46] m k l (pc :: cq :: rB as0 :: .cells 64 [.hsl 2 0 n n 1] :: X) = z) (hm : X.length + 4 = m) (hk : rs.length < k)
    (h6 : asc l 6 = .ptr 3 0) (h44 : asc l 44 = sI rs nl cap) (h45 : asc l 45 = ii rs.length) (h46 : asc l 46 = ii (0 : Nat)) :
    z = some (.exit 4 (fr 55 [(47, bb false), (6, .ptr 3 0), (44, sI rs nl cap), (45, ii rs.length), (46, ii rs.length)]) (pc :: cq :: rB (mark as0 true rs) :: .cells 64 [.hsl 2 0 n n 1] :: X)) := by
  subst hz
  refine loop_nat rs.length (fun k l H => loopR Try.prog tab kf ar LB31_14 31 55 [6, 44, 45, 46] m k l H)
    (fun i l H => asc l 6 = .ptr 3 0 ∧ asc l 44 = sI rs nl cap ∧ asc l 45 = ii rs.length ∧ asc l 46 = ii i ∧ H = pc :: cq :: rB (mark as0 true (rs.take i)) :: .cells 64 [.hsl 2 0 n n 1] :: X)
    (fun z => z = some (.exit 4 (fr 55 [(47, bb false), (6, .ptr 3 0), (44, sI rs nl cap), (45, ii rs.length), (46, ii rs.length)]) (pc :: cq :: rB (mark as0 true rs) :: .cells 64 [.hsl 2 0 n n 1] :: X))) ?_ rs.length 0 k l _ (by omega) hk ⟨h6, h44, h45, h46, rfl⟩
  clear h6 h44 h45 h46 hk
  rintro i k l H hi ⟨h6, h44, h45, h46, rfl⟩
  have ht : ∀ q : List Bool, trim m (fr 55 (keep l [6, 44, 45, 46])) (pc :: cq :: rB q :: .cells 64 [.hsl 2 0 n n 1] :: X) = pc :: cq :: rB q :: .cells 64 [.hsl 2 0 n n 1] :: X := fun q => trim_same (by simp; omega)
  by_cases hc : i < rs.length
  · refine .inr ?_
    have hc' : ((i : Int) < rs.length) := by omega
    have hc0 : (0 : Int) ≤ i := by omega
    have hx := encInts_get hc
    have hw := wrap_succ hc hlen
    obtain ⟨x, hX⟩ : ∃ x, x = rs[i] := ⟨_, rfl⟩
    rw [← hX] at hx
    obtain ⟨x0, x1⟩ := hr x (by rw [hX]; exact List.getElem_mem hc)
    have hm : (mark as0 true (rs.take i)).length = n := by rw [mark_length]; exact ha0
    have hnx : mark as0 true (rs.take (i + 1)) = (mark as0 true (rs.take i)).set x.toNat true := by rw [List.take_succ_eq_append_getElem hc, mark_snoc, ← hX]
    have hxl : x.toNat < n := by omega
    have hel : (encB (mark as0 true (rs.take i))).length = n := by rw [encB_length, hm]
    simp only [loopR_succ, ht]
    simp only [h6, h44, h45, h46, hc', hc0, hx, hw, x0, x1, hel, hxl, encB_set, loopR_succ, loopOf, findLoop, firstRegion, Option.some_or, Option.none_or, Option.getD_some, Option.some.injEq, Try.f31, EVb, EVc, Int.reduceEq, Int.reduceToNat, Int.reduceLE, Int.reduceLT, Int.reduceAdd, Int.reduceMul, Int.reduceSub, Int.reduceNeg, Nat.reduceAdd, Nat.reduceSub, Nat.reduceMul, Nat.reduceLT, Nat.reduceBEq, Nat.reduceEqDiff, Nat.reduceLeDiff, FACTS, TYPES]
    exact ⟨_, _, hc, rfl, (by rfl), (by rfl), (by rfl), (by rfl), by rw [hnx]⟩
  · refine .inl ?_
    have hc' : ¬ ((i : Int) < rs.length) := by omega
    have he : rs.take i = rs := List.take_of_length_le (by omega)
    obtain rfl : i = rs.length := by omega
    simp only [loopR_succ, ht]
    simp only [h6, h44, h45, h46, hc', he, loopR_succ, loopOf, findLoop, firstRegion, Option.some_or, Option.none_or, Option.getD_some, Option.some.injEq, Try.f31, EVb, EVc, Int.reduceEq, Int.reduceToNat, Int.reduceLE, Int.reduceLT, Int.reduceAdd, Int.reduceMul, Int.reduceSub, Int.reduceNeg, Nat.reduceAdd, Nat.reduceSub, Nat.reduceMul, Nat.reduceLT, Nat.reduceBEq, Nat.reduceEqDiff, Nat.reduceLeDiff, FACTS, TYPES]
/-- Memory while the instructions are gone through from behind. -/
noncomputable abbrev hA (y0 y1 y2 y3 x0 x1 x2 x3 : IV) (n : Nat) (cs : IV) (l0 l1 : Ass) (aq : List Bool) : Heap :=
  [.cells 25 [.c y0, .c y1, .c y2, .c y3], .cells 25 [.c x0, .c x1, .c x2, .c x3], rB aq, .cells 64 [.hsl 2 0 n n 1], .cells 25 [.c x0, .c x1, .c x2, .c x3],
   rfObj #[37, 38] RA31_11 RB31_11 31 .ready none (fr 55 l0), .cells 163 [.yld 5], .cells 22 [.c cs], rfObj #[11, 12] RA110_3 RB110_3 110 .ready none (fr 18 l1)]
theorem loop_Asked_B (kf : Nat) (y0 y1 y2 y3 x0 x1 x2 x3 : IV) (n : Nat) (code : List Ins) (nl : Bool) (cap : Option Nat) (l0 l1 : Ass) (c0 : (l0.all fun e => AV.under 9 e.2) = true) (c1 : (l1.all fun e => AV.under 9 e.2) = true)
    (g6 : asc l0 6 = .ptr 3 0) (g2 : asc l1 2 = .ptr 6 0) (as0 : List Bool) (ha0 : as0.length = n) (hcode : ∀ i ∈ code, mayM i n = true) (hlen : code.length ≤ 1000000)
    (k : Nat) (l : Ass) (z : Option Out) (hz : loopR Try.prog tab (kf + 10) none LB128_1 128 19 [0, 1, 3] 9 k l (hA y0 y1 y2 y3 x0 x1 x2 x3 n (.slice (encCode code) code.length nl cap) l0 l1 as0) = z) (hk : code.length < k)
    (a0 : asc l 0 = .yld 8) (a1 : asc l 1 = .ptr 7 0) (a3 : asc l 3 = ii ((code.length : Int) - 1)) :
    ∃ l', z = some (.exit 0 (fr 19 l') (hA y0 y1 y2 y3 x0 x1 x2 x3 n (.slice (encCode code) code.length nl cap) l0 l1 (askL as0 code))) := by
  subst hz
  refine loop_nat code.length (fun k l H => loopR Try.prog tab (kf + 10) none LB128_1 128 19 [0, 1, 3] 9 k l H)
    (fun j l H => asc l 0 = .yld 8 ∧ asc l 1 = .ptr 7 0 ∧ asc l 3 = ii ((code.length : Int) - j - 1) ∧
      H.take 9 = hA y0 y1 y2 y3 x0 x1 x2 x3 n (.slice (encCode code) code.length nl cap) l0 l1 (askL as0 (code.drop (code.length - j))))
    (fun z => ∃ l', z = some (.exit 0 (fr 19 l') (hA y0 y1 y2 y3 x0 x1 x2 x3 n (.slice (encCode code) code.length nl cap) l0 l1 (askL as0 code)))) ?_ code.length 0 k l _ (by omega) hk
    ⟨a0, a1, by rw [a3]; simp, by simp [askL]⟩
  clear a0 a1 a3 hk
  rintro j k l H hj ⟨a0, a1, a3, hH⟩
  have ht : trim 9 (fr 19 (keep l [0, 1, 3])) H = hA y0 y1 y2 y3 x0 x1 x2 x3 n (.slice (encCode code) code.length nl cap) l0 l1 (askL as0 (code.drop (code.length - j))) := by
    rw [trim_fr (by simp only [a0, a1, a3, EVb, EVc, Int.reduceEq, Int.reduceToNat, Int.reduceLE, Int.reduceLT, Int.reduceAdd, Int.reduceMul, Int.reduceSub, Int.reduceNeg, Nat.reduceAdd, Nat.reduceSub, Nat.reduceMul, Nat.reduceLT, Nat.reduceBEq, Nat.reduceEqDiff, Nat.reduceLeDiff]) (by rw [hH]; simp only [c0, c1, EVb, EVc, Int.reduceEq, Int.reduceToNat, Int.reduceLE, Int.reduceLT, Int.reduceAdd, Int.reduceMul, Int.reduceSub, Int.reduceNeg, Nat.reduceAdd, Nat.reduceSub, Nat.reduceMul, Nat.reduceLT, Nat.reduceBEq, Nat.reduceEqDiff, Nat.reduceLeDiff]), hH]
  by_cases hc : j < code.length
  · refine .inr ?_
    obtain ⟨i, hi⟩ : ∃ i, i + 1 = code.length - j := ⟨code.length - j - 1, by omega⟩
    rw [← hi] at ht
    have hil : i < code.length := by omega
    obtain ⟨x, hX⟩ : ∃ x, x = code[i] := ⟨_, rfl⟩
    have hd : code.drop i = x :: code.drop (i + 1) := by rw [hX]; exact List.drop_eq_getElem_cons hil
    have hx := encCode_get hil
    rw [← hX] at hx
    have a3' : asc l 3 = ii (i : Int) := by rw [a3]; congr 2; omega
    have hi0 : (0 : Int) ≤ i := by omega
    have hi1 : (i : Int) < code.length := by omega
    have hi2 : i < code.length := by omega
    have hw : IntKind.wrap .i64 ((i : Int) - 1) = (code.length : Int) - (j + 1 : Nat) - 1 := by rw [wrap64 (by omega) (by omega)]; omega
    have hm := hcode x (by rw [hX]; exact List.getElem_mem hil)
    obtain ⟨aq, haq⟩ : ∃ aq, aq = askL as0 (code.drop (i + 1)) := ⟨_, rfl⟩
    have hdd : code.drop (code.length - j) = code.drop (i + 1) := by rw [hi]
    rw [hi, hdd, ← haq] at ht
    have haql : aq.length = n := by rw [haq, askL_length]; exact ha0
    have hel : (encB aq).length = n := by rw [encB_length, haql]
    have hm' := hm
    simp only [mayM, Bool.and_eq_true, decide_eq_true_eq] at hm'
    obtain ⟨⟨⟨⟨m1, m2, m3, m4, m5⟩, _⟩, m6⟩, m7⟩ := hm'
    have ht2 : x.to.toNat < n := by omega
    have hget := encB_get (l := aq) m3 (by rw [haql]; exact m4)
    have hnx : code.drop (code.length - (j + 1)) = x :: code.drop (i + 1) := by rw [← hd]; congr 1; omega
    have hii : code.length - (j + 1) = i := by omega
    have hran : ∀ r ∈ asks x, 0 ≤ r ∧ r < (n : Int) := by
      intro r hr
      unfold asks at hr
      split at hr
      · rename_i h34
        simp only [List.mem_cons, List.not_mem_nil, or_false] at hr
        rcases hr with rfl | rfl
        · exact m6
        · exact m7 h34
      · split at hr
        · simp only [List.mem_cons, List.not_mem_nil, or_false] at hr
          subst hr
          exact m6
        · cases hr
    have hnew : askL as0 (x :: code.drop (i + 1)) = mark (aq.set x.to.toNat false) true (asks x) := by rw [askL, ← haq]
    have hAs := asks_ev (kf + 7) x.op x.to x.a x.b x.c
    simp only [run, aI, ii, sI] at hAs
    have hal : (asks x).length ≤ 2 := by unfold asks; split <;> (try split) <;> simp
    simp only [loopR_succ, ht]
    simp only [a0, a1, a3', hi0, hi1, hi2, hx, hw, g6, g2, evalT_round, roundA_rf, hel, ht2, m3, m4, hget, hAs, encB_set, rfAs, rfBd, rfOf, findRF, firstRegion, Option.some_or, Option.none_or, Option.getD_some, Option.some.injEq, findLoop, loopOf, loopR_succ, loopOf, findLoop, firstRegion, Option.some_or, Option.none_or, Option.getD_some, Option.some.injEq, Try.f128, Try.f110, Try.f31, EVb, EVc, Int.reduceEq, Int.reduceToNat, Int.reduceLE, Int.reduceLT, Int.reduceAdd, Int.reduceMul, Int.reduceSub, Int.reduceNeg, Nat.reduceAdd, Nat.reduceSub, Nat.reduceMul, Nat.reduceLT, Nat.reduceBEq, Nat.reduceEqDiff, Nat.reduceLeDiff, FACTS, TYPES]
    rw [evalCode_loopB LB31_14 lp31_14]; rotate_left; rfl; rfl; rfl
    generalize hz : loopR _ _ _ _ _ _ _ _ _ _ _ _ = z
    have h15 := loop_Asked_14 (kf + 8) (some 5) _ _ _ n (asks x) (nlE (asks x)) (cpE (asks x)) (by omega) hran (aq.set x.to.toNat false) (by simp [haql]) _ _ _ z hz (by rfl) (by omega) (by simp only [g6, EVb, EVc, Int.reduceEq, Int.reduceToNat, Int.reduceLE, Int.reduceLT, Int.reduceAdd, Int.reduceMul, Int.reduceSub, Int.reduceNeg, Nat.reduceAdd, Nat.reduceSub, Nat.reduceMul, Nat.reduceLT, Nat.reduceBEq, Nat.reduceEqDiff, Nat.reduceLeDiff]) (by simp only [EVb, EVc, Int.reduceEq, Int.reduceToNat, Int.reduceLE, Int.reduceLT, Int.reduceAdd, Int.reduceMul, Int.reduceSub, Int.reduceNeg, Nat.reduceAdd, Nat.reduceSub, Nat.reduceMul, Nat.reduceLT, Nat.reduceBEq, Nat.reduceEqDiff, Nat.reduceLeDiff]) (by simp only [EVb, EVc, Int.reduceEq, Int.reduceToNat, Int.reduceLE, Int.reduceLT, Int.reduceAdd, Int.reduceMul, Int.reduceSub, Int.reduceNeg, Nat.reduceAdd, Nat.reduceSub, Nat.reduceMul, Nat.reduceLT, Nat.reduceBEq, Nat.reduceEqDiff, Nat.reduceLeDiff]) (by simp only [EVb, EVc, Int.reduceEq, Int.reduceToNat, Int.reduceLE, Int.reduceLT, Int.reduceAdd, Int.reduceMul, Int.reduceSub, Int.reduceNeg, Nat.reduceAdd, Nat.reduceSub, Nat.reduceMul, Nat.reduceLT, Nat.reduceBEq, Nat.reduceEqDiff, Nat.reduceLeDiff])
    rw [h15]
    simp only [EVb, EVc, Int.reduceEq, Int.reduceToNat, Int.reduceLE, Int.reduceLT, Int.reduceAdd, Int.reduceMul, Int.reduceSub, Int.reduceNeg, Nat.reduceAdd, Nat.reduceSub, Nat.reduceMul, Nat.reduceLT, Nat.reduceBEq, Nat.reduceEqDiff, Nat.reduceLeDiff]
    refine ⟨_, _, hc, rfl, (by rfl), (by rfl), (by rw [← hw]; rfl), ?_⟩
    rw [hnx, hnew]
    rfl
  · refine .inl ?_
    obtain rfl : j = code.length := by omega
    have hc' : ¬ ((0 : Int) ≤ (code.length : Int) - code.length - 1) := by omega
    simp only [Nat.sub_self, List.drop_zero] at ht
    simp only [loopR_succ, ht]
    simp only [a0, a1, a3, hc', loopR_succ, loopOf, findLoop, firstRegion, Option.some_or, Option.none_or, Option.getD_some, Option.some.injEq, Try.f128, EVb, EVc, Int.reduceEq, Int.reduceToNat, Int.reduceLE, Int.reduceLT, Int.reduceAdd, Int.reduceMul, Int.reduceSub, Int.reduceNeg, Nat.reduceAdd, Nat.reduceSub, Nat.reduceMul, Nat.reduceLT, Nat.reduceBEq, Nat.reduceEqDiff, Nat.reduceLeDiff, FACTS, TYPES]
    exact ⟨_, rfl⟩
end Go.Proofs.Sw
