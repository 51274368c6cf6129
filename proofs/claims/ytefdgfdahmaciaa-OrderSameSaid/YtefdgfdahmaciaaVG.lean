/- A part of the proof: what functions of the program answer; conditions stand in each theorem. -/
import Derived.Test.YtefdgfdahmaciaaVE
import Derived.Test.YtefdgfdahmaciaaVD
import Derived.Test.YtefdgfdahmaciaaVC
set_option linter.unusedVariables false
set_option linter.unusedSimpArgs false
set_option linter.unusedSectionVars false
namespace Go.Proofs.Sw
open Go.Ab
variable [Globals]
abbrev cdO (l : List Ins) : AObj := lo 34 l.length (encCode l)
theorem pkAt_facts {L : Lv} {unt : List Int} {q0 : Pk} {need : List Bool} {code : List Ins} (h0 : PkOk q0) : ∀ i, PkOk (pkAt L unt q0 need code i) ∧ (pkAt L unt q0 need code i).free.length ≤ q0.free.length + i ∧ (pkAt L unt q0 need code i).code.length ≤ q0.code.length + i
  | 0 => ⟨h0, Nat.le_refl _, Nat.le_refl _⟩
  | i + 1 => by
    obtain ⟨h1, h2, h3⟩ := pkAt_facts (L := L) (unt := unt) (need := need) (code := code) h0 i
    rw [pkAt]
    split
    · split
      · refine ⟨pkStep_ok h1, ?_, ?_⟩
        · have := giveF_length (freeOne (pkAt L unt q0 need code i).at_ unt i (freeOne (pkAt L unt q0 need code i).at_ unt i (pkAt L unt q0 need code i).free (L.a.getD i 0)) (L.b.getD i 0))
          have h4 := leastM_le (freeOne (pkAt L unt q0 need code i).at_ unt i (freeOne (pkAt L unt q0 need code i).at_ unt i (pkAt L unt q0 need code i).free (L.a.getD i 0)) (L.b.getD i 0))
          rw [freeOne_length, freeOne_length] at this h4
          simp only [pkStep]
          omega
        · simp only [pkStep, List.length_append, List.length_cons, List.length_nil]
          omega
      · exact ⟨h1, by omega, by omega⟩
    · exact ⟨h1, by omega, by omega⟩
set_option maxHeartbeats 8000000 in
theorem loop_Pack14 (kf : Nat) (x0 x1 x2 x3 z0 z1 z2 z3 y0 y2 y3 y1 : IV) (no : Nat) (ins : Int) (c9 : List IV) (L : Lv) (unt : List Int) (q0 : Pk) (need : List Bool) (code : List Ins) (hnd : need.length = code.length) (nl : Bool) (cap : Option Nat) (h0 : PkOk q0) (hf0 : q0.free.length ≤ 1000) (hc0' : q0.code = []) (hrg : 0 ≤ q0.regs) (hlen : code.length ≤ 20000) (hn : 200 ≤ kf) (hkf : code.length + 2000 ≤ kf)
(la : L.a.length = code.length) (lb : L.b.length = code.length) (ls : L.sets.length = code.length)
(hval : ∀ i, i < code.length → need.getD i false = true → (0 ≤ L.a.getD i 0 ∧ L.a.getD i 0 < unt.length) ∧ (0 ≤ L.b.getD i 0 ∧ L.b.getD i 0 < unt.length))
(hfresh : ∀ i, i < code.length → need.getD i false = true → lookI (L.sets.getD i 0) (pkAt L unt q0 need code i).at_ = none) (k : Nat) (l : Ass) (z : Option Out) (hz : loopR Try.prog tab (kf + 1) none LB44_14 44 208 [2, 4, 6, 8, 77, 78, 79] 14 k l ([cdO (pkAt L unt q0 need code 0).code, .slot, rB (pkAt L unt q0 need code 0).free, .cells 25 [.c x0, .c x1, .c x2, .c x3], .cells 25 [.c z0, .c z1, .c z2, .c z3], .cells 128 (lifeC y0 y1 y2 y3 (.slice (encB need) need.length false none) code.length no unt.length), rI L.a, rI L.b, rI L.sets, .row false 3 c9, rI unt, .map 123 (entsI (pkAt L unt q0 need code 0).at_), .cells 125 [.hmap 11, hI 2 (pkAt L unt q0 need code 0).free.length], .cells 25 [ii ins, ii (pkAt L unt q0 need code 0).regs, lv 0 5 (pkAt L unt q0 need code 0).code.length, .c (.slice [] 0 true (some 0))]]) = z) (hk : code.length < k) (a2 : asc l 2 = .ptr 4 0) (a4 : asc l 4 = .ptr 5 0) (a6 : asc l 6 = .ptr 12 0) (a8 : asc l 8 = .ptr 13 0) (a77 : asc l 77 = sC code nl cap) (a78 : asc l 78 = ii code.length) (a79 : asc l 79 = ii 0) :
    ∃ l', z = some (.exit 2 (fr 208 l') ([cdO (pkAt L unt q0 need code code.length).code, .slot, rB (pkAt L unt q0 need code code.length).free, .cells 25 [.c x0, .c x1, .c x2, .c x3], .cells 25 [.c z0, .c z1, .c z2, .c z3], .cells 128 (lifeC y0 y1 y2 y3 (.slice (encB need) need.length false none) code.length no unt.length), rI L.a, rI L.b, rI L.sets, .row false 3 c9, rI unt, .map 123 (entsI (pkAt L unt q0 need code code.length).at_), .cells 125 [.hmap 11, hI 2 (pkAt L unt q0 need code code.length).free.length], .cells 25 [ii ins, ii (pkAt L unt q0 need code code.length).regs, lv 0 5 (pkAt L unt q0 need code code.length).code.length, .c (.slice [] 0 true (some 0))]])) ∧ asc l' 2 = .ptr 4 0 ∧ asc l' 4 = .ptr 5 0 ∧ asc l' 6 = .ptr 12 0 ∧ asc l' 8 = .ptr 13 0 ∧ asc l' 77 = sC code nl cap ∧ asc l' 78 = ii code.length ∧ asc l' 79 = ii code.length := by
  subst hz
  refine loop_nat code.length (fun k l H => loopR Try.prog tab (kf + 1) none LB44_14 44 208 [2, 4, 6, 8, 77, 78, 79] 14 k l H)
    (fun i l H => asc l 2 = .ptr 4 0 ∧ asc l 4 = .ptr 5 0 ∧ asc l 6 = .ptr 12 0 ∧ asc l 8 = .ptr 13 0 ∧ asc l 77 = sC code nl cap ∧ asc l 78 = ii code.length ∧ asc l 79 = ii i ∧ ∃ G, H = ([cdO (pkAt L unt q0 need code i).code, .slot, rB (pkAt L unt q0 need code i).free, .cells 25 [.c x0, .c x1, .c x2, .c x3], .cells 25 [.c z0, .c z1, .c z2, .c z3], .cells 128 (lifeC y0 y1 y2 y3 (.slice (encB need) need.length false none) code.length no unt.length), rI L.a, rI L.b, rI L.sets, .row false 3 c9, rI unt, .map 123 (entsI (pkAt L unt q0 need code i).at_), .cells 125 [.hmap 11, hI 2 (pkAt L unt q0 need code i).free.length], .cells 25 [ii ins, ii (pkAt L unt q0 need code i).regs, lv 0 5 (pkAt L unt q0 need code i).code.length, .c (.slice [] 0 true (some 0))]]) ++ G)
    (fun z => ∃ l', z = some (.exit 2 (fr 208 l') ([cdO (pkAt L unt q0 need code code.length).code, .slot, rB (pkAt L unt q0 need code code.length).free, .cells 25 [.c x0, .c x1, .c x2, .c x3], .cells 25 [.c z0, .c z1, .c z2, .c z3], .cells 128 (lifeC y0 y1 y2 y3 (.slice (encB need) need.length false none) code.length no unt.length), rI L.a, rI L.b, rI L.sets, .row false 3 c9, rI unt, .map 123 (entsI (pkAt L unt q0 need code code.length).at_), .cells 125 [.hmap 11, hI 2 (pkAt L unt q0 need code code.length).free.length], .cells 25 [ii ins, ii (pkAt L unt q0 need code code.length).regs, lv 0 5 (pkAt L unt q0 need code code.length).code.length, .c (.slice [] 0 true (some 0))]])) ∧ asc l' 2 = .ptr 4 0 ∧ asc l' 4 = .ptr 5 0 ∧ asc l' 6 = .ptr 12 0 ∧ asc l' 8 = .ptr 13 0 ∧ asc l' 77 = sC code nl cap ∧ asc l' 78 = ii code.length ∧ asc l' 79 = ii code.length) ?_ code.length 0 k l _ (by omega) hk ⟨a2, a4, a6, a8, a77, a78, a79, [], by rw [List.append_nil]⟩
  clear hk a2 a4 a6 a8 a77 a78 a79
  rintro i k l H hi ⟨a2, a4, a6, a8, a77, a78, a79, G, rfl⟩
  have ht : trim 14 (fr 208 (keep l [2, 4, 6, 8, 77, 78, 79])) (([cdO (pkAt L unt q0 need code i).code, .slot, rB (pkAt L unt q0 need code i).free, .cells 25 [.c x0, .c x1, .c x2, .c x3], .cells 25 [.c z0, .c z1, .c z2, .c z3], .cells 128 (lifeC y0 y1 y2 y3 (.slice (encB need) need.length false none) code.length no unt.length), rI L.a, rI L.b, rI L.sets, .row false 3 c9, rI unt, .map 123 (entsI (pkAt L unt q0 need code i).at_), .cells 125 [.hmap 11, hI 2 (pkAt L unt q0 need code i).free.length], .cells 25 [ii ins, ii (pkAt L unt q0 need code i).regs, lv 0 5 (pkAt L unt q0 need code i).code.length, .c (.slice [] 0 true (some 0))]]) ++ G) = ([cdO (pkAt L unt q0 need code i).code, .slot, rB (pkAt L unt q0 need code i).free, .cells 25 [.c x0, .c x1, .c x2, .c x3], .cells 25 [.c z0, .c z1, .c z2, .c z3], .cells 128 (lifeC y0 y1 y2 y3 (.slice (encB need) need.length false none) code.length no unt.length), rI L.a, rI L.b, rI L.sets, .row false 3 c9, rI unt, .map 123 (entsI (pkAt L unt q0 need code i).at_), .cells 125 [.hmap 11, hI 2 (pkAt L unt q0 need code i).free.length], .cells 25 [ii ins, ii (pkAt L unt q0 need code i).regs, lv 0 5 (pkAt L unt q0 need code i).code.length, .c (.slice [] 0 true (some 0))]]) := trim_app (by simp) (by simp only [a2, a4, a6, a8, a77, a78, a79, entsI_under, EVb, EVc, Int.reduceEq, Int.reduceToNat, Int.reduceLE, Int.reduceLT, Int.reduceAdd, Int.reduceMul, Int.reduceSub, Int.reduceNeg, Nat.reduceAdd, Nat.reduceSub, Nat.reduceMul, Nat.reduceLT, Nat.reduceBEq, Nat.reduceEqDiff, Nat.reduceLeDiff]) (by simp only [entsI_under, EVb, EVc, Int.reduceEq, Int.reduceToNat, Int.reduceLE, Int.reduceLT, Int.reduceAdd, Int.reduceMul, Int.reduceSub, Int.reduceNeg, Nat.reduceAdd, Nat.reduceSub, Nat.reduceMul, Nat.reduceLT, Nat.reduceBEq, Nat.reduceEqDiff, Nat.reduceLeDiff])
  by_cases hc : i < code.length
  · have hc' : (i : Int) < ((code.length : Nat) : Int) := by omega
    have hc0 : (0 : Int) ≤ i := by omega
    have hw : IntKind.wrap .i64 ((i : Int) + 1) = ((i + 1 : Nat) : Int) := by rw [wrap64 (by omega) (by omega)]; omega
    have hx := encCode_get hc
    obtain ⟨x, hX⟩ : ∃ x, x = code[i] := ⟨_, rfl⟩
    have hst : pkAt L unt q0 need code (i + 1) = if need.getD i false = true then pkStep L unt (pkAt L unt q0 need code i) i x else pkAt L unt q0 need code i := by rw [pkAt_succ hc, hX]
    rw [← hX] at hx
    obtain ⟨hok, hfl, hcl⟩ := pkAt_facts (L := L) (unt := unt) (need := need) (code := code) h0 i
    have hfr := hfresh i hc
    have hvl := hval i hc
    obtain ⟨q, hQ⟩ : ∃ q, q = pkAt L unt q0 need code i := ⟨_, rfl⟩
    rw [hst]
    rw [← hQ] at hok hfl hcl hfr ht ⊢
    have hnb := encB_nat (l := need) (i := i) (by omega)
    have hnl : (encB need).length = code.length := by rw [encB_length, hnd]
    have ga := encInts_getD (l := L.a) (r := (i : Int)) hc0 (by omega)
    have gb := encInts_getD (l := L.b) (r := (i : Int)) hc0 (by omega)
    have gs := encInts_getD (l := L.sets) (r := (i : Int)) hc0 (by omega)
    rw [Int.toNat_natCast] at ga gb gs
    have eal := encInts_length L.a
    have ebl := encInts_length L.b
    have esl := encInts_length L.sets
    have hA := asks_ev (kf + 0) x.op x.to x.a x.b x.c
    simp only [run, aI, ii] at hA
    cases hni : need.getD i false with
    | false =>
      rw [if_neg (by simp)]
      rw [hni] at hnb
      simp only [loopR_succ, ht]
      simp only [a2, a4, a6, a8, a77, a78, a79, hc', hc0, hw, hx, hnb, hnl, hnd, loopR_succ, loopOf, findLoop, firstRegion, Option.some_or, Option.none_or, Option.getD_some, Option.some.injEq, Try.f44, FT, Int.reduceEq, Int.reduceToNat, Int.reduceLE, Int.reduceLT, Int.reduceAdd, Int.reduceMul, Int.reduceSub, Int.reduceNeg, Nat.reduceAdd, Nat.reduceSub, Nat.reduceMul, Nat.reduceLT, Nat.reduceBEq, Nat.reduceEqDiff, Nat.reduceLeDiff]
      refine .inr ⟨_, _, hc, rfl, (by rfl), (by rfl), (by rfl), (by rfl), (by rfl), (by rfl), (by rfl), ?_⟩
      exact ⟨_, by rfl⟩
    | true =>
      rw [if_pos rfl]
      rw [hni] at hnb
      simp only [loopR_succ, ht]
      simp only [a2, a4, a6, a8, a77, a78, a79, hc', hc0, hw, hx, hnb, hnl, hnd, hA, loopR_succ, loopOf, findLoop, firstRegion, Option.some_or, Option.none_or, Option.getD_some, Option.some.injEq, Try.f44, FT, Int.reduceEq, Int.reduceToNat, Int.reduceLE, Int.reduceLT, Int.reduceAdd, Int.reduceMul, Int.reduceSub, Int.reduceNeg, Nat.reduceAdd, Nat.reduceSub, Nat.reduceMul, Nat.reduceLT, Nat.reduceBEq, Nat.reduceEqDiff, Nat.reduceLeDiff]
      rw [evalCode_drawn Try.f44 18 dr44_18]; rotate_left; rfl
      simp only [a2, a4, a6, a8, a77, a78, a79, hc', hc0, hw, look11, ga, eal, la, EVd, List.getElem?_nil, Nat.reducePow, Nat.reduceDiv, Nat.reduceMod, FT, Int.reduceEq, Int.reduceToNat, Int.reduceLE, Int.reduceLT, Int.reduceAdd, Int.reduceMul, Int.reduceSub, Int.reduceNeg, Nat.reduceAdd, Nat.reduceSub, Nat.reduceMul, Nat.reduceLT, Nat.reduceBEq, Nat.reduceEqDiff, Nat.reduceLeDiff]
      by_cases h34 : x.op = 3 ∨ x.op = 4
      · have hl2 : (asks ⟨x.op, x.to, x.a, x.b, x.c⟩).length = 2 := by rw [asks_two h34]; rfl
        have h12 : (1 : Int) < ((2 : Nat) : Int) := by decide
        try simp only [a2, a4, a6, a8, a77, a78, a79, hc', hc0, hw, hl2, h12, FT, Int.reduceEq, Int.reduceToNat, Int.reduceLE, Int.reduceLT, Int.reduceAdd, Int.reduceMul, Int.reduceSub, Int.reduceNeg, Nat.reduceAdd, Nat.reduceSub, Nat.reduceMul, Nat.reduceLT, Nat.reduceBEq, Nat.reduceEqDiff, Nat.reduceLeDiff]
        rw [evalCode_drawn Try.f44 20 dr44_20]; rotate_left; rfl
        simp only [a2, a4, a6, a8, a77, a78, a79, hc', hc0, hw, look11, gb, ebl, lb, EVd, List.getElem?_nil, Nat.reducePow, Nat.reduceDiv, Nat.reduceMod, FT, Int.reduceEq, Int.reduceToNat, Int.reduceLE, Int.reduceLT, Int.reduceAdd, Int.reduceMul, Int.reduceSub, Int.reduceNeg, Nat.reduceAdd, Nat.reduceSub, Nat.reduceMul, Nat.reduceLT, Nat.reduceBEq, Nat.reduceEqDiff, Nat.reduceLeDiff]
        rw [evalCode_drawn Try.f44 21 dr44_21]; rotate_left; rfl
        simp only [a2, a4, a6, a8, a77, a78, a79, hc', hc0, hw, ga, gb, eal, ebl, la, lb, EVd, List.getElem?_nil, Nat.reducePow, Nat.reduceDiv, Nat.reduceMod, FT, Int.reduceEq, Int.reduceToNat, Int.reduceLE, Int.reduceLT, Int.reduceAdd, Int.reduceMul, Int.reduceSub, Int.reduceNeg, Nat.reduceAdd, Nat.reduceSub, Nat.reduceMul, Nat.reduceLT, Nat.reduceBEq, Nat.reduceEqDiff, Nat.reduceLeDiff]
        rw [evalCode_loopB LB44_22 lp44_22]; rotate_left; rfl; rfl; rfl
        generalize hz : loopR _ _ _ _ _ _ _ _ _ _ _ _ = z
        obtain ⟨⟨va0, va1⟩, ⟨vb0, vb1⟩⟩ := hvl hni
        obtain ⟨l', rfl, e2, e4, e6, e8, e9, e10, e77, e78, e79, _, _⟩ := loop_Pack22 (kf + 1) _ _ _ _ _ _ _ _ _ _ (by simp only [FT, Int.reduceEq, Int.reduceToNat, Int.reduceLE, Int.reduceLT, Int.reduceAdd, Int.reduceMul, Int.reduceSub, Int.reduceNeg, Nat.reduceAdd, Nat.reduceSub, Nat.reduceMul, Nat.reduceLT, Nat.reduceBEq, Nat.reduceEqDiff, Nat.reduceLeDiff]) (by simp only [FT, Int.reduceEq, Int.reduceToNat, Int.reduceLE, Int.reduceLT, Int.reduceAdd, Int.reduceMul, Int.reduceSub, Int.reduceNeg, Nat.reduceAdd, Nat.reduceSub, Nat.reduceMul, Nat.reduceLT, Nat.reduceBEq, Nat.reduceEqDiff, Nat.reduceLeDiff]) (by simp only [FT, Int.reduceEq, Int.reduceToNat, Int.reduceLE, Int.reduceLT, Int.reduceAdd, Int.reduceMul, Int.reduceSub, Int.reduceNeg, Nat.reduceAdd, Nat.reduceSub, Nat.reduceMul, Nat.reduceLT, Nat.reduceBEq, Nat.reduceEqDiff, Nat.reduceLeDiff]) (by simp only [FT, Int.reduceEq, Int.reduceToNat, Int.reduceLE, Int.reduceLT, Int.reduceAdd, Int.reduceMul, Int.reduceSub, Int.reduceNeg, Nat.reduceAdd, Nat.reduceSub, Nat.reduceMul, Nat.reduceLT, Nat.reduceBEq, Nat.reduceEqDiff, Nat.reduceLeDiff]) (by simp only [FT, Int.reduceEq, Int.reduceToNat, Int.reduceLE, Int.reduceLT, Int.reduceAdd, Int.reduceMul, Int.reduceSub, Int.reduceNeg, Nat.reduceAdd, Nat.reduceSub, Nat.reduceMul, Nat.reduceLT, Nat.reduceBEq, Nat.reduceEqDiff, Nat.reduceLeDiff]) (by simp only [FT, Int.reduceEq, Int.reduceToNat, Int.reduceLE, Int.reduceLT, Int.reduceAdd, Int.reduceMul, Int.reduceSub, Int.reduceNeg, Nat.reduceAdd, Nat.reduceSub, Nat.reduceMul, Nat.reduceLT, Nat.reduceBEq, Nat.reduceEqDiff, Nat.reduceLeDiff]) (by simp only [FT, Int.reduceEq, Int.reduceToNat, Int.reduceLE, Int.reduceLT, Int.reduceAdd, Int.reduceMul, Int.reduceSub, Int.reduceNeg, Nat.reduceAdd, Nat.reduceSub, Nat.reduceMul, Nat.reduceLT, Nat.reduceBEq, Nat.reduceEqDiff, Nat.reduceLeDiff]) (by simp only [FT, Int.reduceEq, Int.reduceToNat, Int.reduceLE, Int.reduceLT, Int.reduceAdd, Int.reduceMul, Int.reduceSub, Int.reduceNeg, Nat.reduceAdd, Nat.reduceSub, Nat.reduceMul, Nat.reduceLT, Nat.reduceBEq, Nat.reduceEqDiff, Nat.reduceLeDiff]) (by simp only [FT, Int.reduceEq, Int.reduceToNat, Int.reduceLE, Int.reduceLT, Int.reduceAdd, Int.reduceMul, Int.reduceSub, Int.reduceNeg, Nat.reduceAdd, Nat.reduceSub, Nat.reduceMul, Nat.reduceLT, Nat.reduceBEq, Nat.reduceEqDiff, Nat.reduceLeDiff]) (by simp only [FT, Int.reduceEq, Int.reduceToNat, Int.reduceLE, Int.reduceLT, Int.reduceAdd, Int.reduceMul, Int.reduceSub, Int.reduceNeg, Nat.reduceAdd, Nat.reduceSub, Nat.reduceMul, Nat.reduceLT, Nat.reduceBEq, Nat.reduceEqDiff, Nat.reduceLeDiff]) _ _ _ _ _ _ _ unt q hok i (L.a.getD i 0) (L.b.getD i 0) ⟨va0, va1⟩ ⟨vb0, vb1⟩ code.length _ _ _ z hz (by omega) (by rfl) (by rfl) (by rfl) (by rfl) (by rfl) (by rfl) (by rfl) (by rfl) (by rfl) (by rfl) (by rfl)
        clear hz
        obtain ⟨f2, hf2⟩ : ∃ f2, f2 = freeAt q.at_ unt i q.free (L.a.getD i 0) (L.b.getD i 0) 2 := ⟨_, rfl⟩
        have hf2l : f2.length = q.free.length := by rw [hf2, freeAt_length]
        obtain ⟨G2, hG⟩ := give_ev kf q.at_ f2 (L.sets.getD i 0) (hfr hni) (by omega) (by intro h; rw [h] at hf2l; have := hok.pos; simp at hf2l; omega) (by omega)
        rw [← hf2, ← hf2l]
        simp only [ii] at hG
        have hps : pkStep L unt q i x = ⟨q.at_ ++ [(L.sets.getD i 0, (leastM f2 : Int))], giveF f2, q.code ++ [⟨x.op, leastM f2, atI q.at_ (L.a.getD i 0), atI q.at_ (L.b.getD i 0), x.c⟩], if ((leastM f2 : Nat) : Int) + 1 > q.regs then ((leastM f2 : Nat) : Int) + 1 else q.regs⟩ := by
          rw [hf2]
          simp only [pkStep, if_pos h34, freeAt]
        rw [hps]
        have hlm := leastM_le f2
        have hwr : IntKind.wrap .i64 ((leastM f2 : Int) + 1) = (leastM f2 : Int) + 1 := by rw [wrap64 (by omega) (by omega)]
        have hap := fun X cs => lo_length (e := 34) (n := q.code.length) (sz := 5) (by_ := 40) (cells := encCode q.code) (cs := cs) (X := X) (Nat.le_trans (Nat.mul_le_mul_right 40 (show q.code.length + 1 ≤ 30001 by simp only [hc0', List.length_nil] at hcl; omega)) (by decide)) (by decide) (encCode_length _)
        try simp only [a2, a4, a6, a8, a77, a78, a79, hc', hc0, hw, e2, e4, e6, e8, e9, e10, e77, e78, e79, gs, esl, ls, entsI_ids, entsI_ren, hG, hap, hwr, FT, Int.reduceEq, Int.reduceToNat, Int.reduceLE, Int.reduceLT, Int.reduceAdd, Int.reduceMul, Int.reduceSub, Int.reduceNeg, Nat.reduceAdd, Nat.reduceSub, Nat.reduceMul, Nat.reduceLT, Nat.reduceBEq, Nat.reduceEqDiff, Nat.reduceLeDiff]
        refine .inr ⟨_, _, hc, rfl, e2, e4, e6, e8, e77, e78, (by rfl), ?_⟩
        simp only [cdO, List.length_append, List.length_cons, List.length_nil, Nat.zero_add, encCode_append, encCode, enc1, List.append_nil]
        exact ⟨_, by rfl⟩
      · have hl1 : ¬ (1 : Int) < ((asks ⟨x.op, x.to, x.a, x.b, x.c⟩).length : Int) := by
          unfold asks
          rw [if_neg h34]
          split <;> simp
        try simp only [a2, a4, a6, a8, a77, a78, a79, hc', hc0, hw, hl1, FT, Int.reduceEq, Int.reduceToNat, Int.reduceLE, Int.reduceLT, Int.reduceAdd, Int.reduceMul, Int.reduceSub, Int.reduceNeg, Nat.reduceAdd, Nat.reduceSub, Nat.reduceMul, Nat.reduceLT, Nat.reduceBEq, Nat.reduceEqDiff, Nat.reduceLeDiff]
        rw [evalCode_drawn Try.f44 21 dr44_21]; rotate_left; rfl
        simp only [a2, a4, a6, a8, a77, a78, a79, hc', hc0, hw, ga, gb, eal, ebl, la, lb, EVd, List.getElem?_nil, Nat.reducePow, Nat.reduceDiv, Nat.reduceMod, FT, Int.reduceEq, Int.reduceToNat, Int.reduceLE, Int.reduceLT, Int.reduceAdd, Int.reduceMul, Int.reduceSub, Int.reduceNeg, Nat.reduceAdd, Nat.reduceSub, Nat.reduceMul, Nat.reduceLT, Nat.reduceBEq, Nat.reduceEqDiff, Nat.reduceLeDiff]
        rw [evalCode_loopB LB44_22 lp44_22]; rotate_left; rfl; rfl; rfl
        generalize hz : loopR _ _ _ _ _ _ _ _ _ _ _ _ = z
        obtain ⟨⟨va0, va1⟩, ⟨vb0, vb1⟩⟩ := hvl hni
        obtain ⟨l', rfl, e2, e4, e6, e8, e9, e10, e77, e78, e79, _, _⟩ := loop_Pack22 (kf + 1) _ _ _ _ _ _ _ _ _ _ (by simp only [FT, Int.reduceEq, Int.reduceToNat, Int.reduceLE, Int.reduceLT, Int.reduceAdd, Int.reduceMul, Int.reduceSub, Int.reduceNeg, Nat.reduceAdd, Nat.reduceSub, Nat.reduceMul, Nat.reduceLT, Nat.reduceBEq, Nat.reduceEqDiff, Nat.reduceLeDiff]) (by simp only [FT, Int.reduceEq, Int.reduceToNat, Int.reduceLE, Int.reduceLT, Int.reduceAdd, Int.reduceMul, Int.reduceSub, Int.reduceNeg, Nat.reduceAdd, Nat.reduceSub, Nat.reduceMul, Nat.reduceLT, Nat.reduceBEq, Nat.reduceEqDiff, Nat.reduceLeDiff]) (by simp only [FT, Int.reduceEq, Int.reduceToNat, Int.reduceLE, Int.reduceLT, Int.reduceAdd, Int.reduceMul, Int.reduceSub, Int.reduceNeg, Nat.reduceAdd, Nat.reduceSub, Nat.reduceMul, Nat.reduceLT, Nat.reduceBEq, Nat.reduceEqDiff, Nat.reduceLeDiff]) (by simp only [FT, Int.reduceEq, Int.reduceToNat, Int.reduceLE, Int.reduceLT, Int.reduceAdd, Int.reduceMul, Int.reduceSub, Int.reduceNeg, Nat.reduceAdd, Nat.reduceSub, Nat.reduceMul, Nat.reduceLT, Nat.reduceBEq, Nat.reduceEqDiff, Nat.reduceLeDiff]) (by simp only [FT, Int.reduceEq, Int.reduceToNat, Int.reduceLE, Int.reduceLT, Int.reduceAdd, Int.reduceMul, Int.reduceSub, Int.reduceNeg, Nat.reduceAdd, Nat.reduceSub, Nat.reduceMul, Nat.reduceLT, Nat.reduceBEq, Nat.reduceEqDiff, Nat.reduceLeDiff]) (by simp only [FT, Int.reduceEq, Int.reduceToNat, Int.reduceLE, Int.reduceLT, Int.reduceAdd, Int.reduceMul, Int.reduceSub, Int.reduceNeg, Nat.reduceAdd, Nat.reduceSub, Nat.reduceMul, Nat.reduceLT, Nat.reduceBEq, Nat.reduceEqDiff, Nat.reduceLeDiff]) (by simp only [FT, Int.reduceEq, Int.reduceToNat, Int.reduceLE, Int.reduceLT, Int.reduceAdd, Int.reduceMul, Int.reduceSub, Int.reduceNeg, Nat.reduceAdd, Nat.reduceSub, Nat.reduceMul, Nat.reduceLT, Nat.reduceBEq, Nat.reduceEqDiff, Nat.reduceLeDiff]) (by simp only [FT, Int.reduceEq, Int.reduceToNat, Int.reduceLE, Int.reduceLT, Int.reduceAdd, Int.reduceMul, Int.reduceSub, Int.reduceNeg, Nat.reduceAdd, Nat.reduceSub, Nat.reduceMul, Nat.reduceLT, Nat.reduceBEq, Nat.reduceEqDiff, Nat.reduceLeDiff]) (by simp only [FT, Int.reduceEq, Int.reduceToNat, Int.reduceLE, Int.reduceLT, Int.reduceAdd, Int.reduceMul, Int.reduceSub, Int.reduceNeg, Nat.reduceAdd, Nat.reduceSub, Nat.reduceMul, Nat.reduceLT, Nat.reduceBEq, Nat.reduceEqDiff, Nat.reduceLeDiff]) (by simp only [FT, Int.reduceEq, Int.reduceToNat, Int.reduceLE, Int.reduceLT, Int.reduceAdd, Int.reduceMul, Int.reduceSub, Int.reduceNeg, Nat.reduceAdd, Nat.reduceSub, Nat.reduceMul, Nat.reduceLT, Nat.reduceBEq, Nat.reduceEqDiff, Nat.reduceLeDiff]) _ _ _ _ _ _ _ unt q hok i (L.a.getD i 0) (L.b.getD i 0) ⟨va0, va1⟩ ⟨vb0, vb1⟩ code.length _ _ _ z hz (by omega) (by rfl) (by rfl) (by rfl) (by rfl) (by rfl) (by rfl) (by rfl) (by rfl) (by rfl) (by rfl) (by rfl)
        clear hz
        obtain ⟨f2, hf2⟩ : ∃ f2, f2 = freeAt q.at_ unt i q.free (L.a.getD i 0) (L.b.getD i 0) 2 := ⟨_, rfl⟩
        have hf2l : f2.length = q.free.length := by rw [hf2, freeAt_length]
        obtain ⟨G2, hG⟩ := give_ev kf q.at_ f2 (L.sets.getD i 0) (hfr hni) (by omega) (by intro h; rw [h] at hf2l; have := hok.pos; simp at hf2l; omega) (by omega)
        rw [← hf2, ← hf2l]
        simp only [ii] at hG
        have hps : pkStep L unt q i x = ⟨q.at_ ++ [(L.sets.getD i 0, (leastM f2 : Int))], giveF f2, q.code ++ [⟨x.op, leastM f2, atI q.at_ (L.a.getD i 0), x.b, x.c⟩], if ((leastM f2 : Nat) : Int) + 1 > q.regs then ((leastM f2 : Nat) : Int) + 1 else q.regs⟩ := by
          rw [hf2]
          simp only [pkStep, if_neg h34, freeAt]
        rw [hps]
        have hlm := leastM_le f2
        have hwr : IntKind.wrap .i64 ((leastM f2 : Int) + 1) = (leastM f2 : Int) + 1 := by rw [wrap64 (by omega) (by omega)]
        have hap := fun X cs => lo_length (e := 34) (n := q.code.length) (sz := 5) (by_ := 40) (cells := encCode q.code) (cs := cs) (X := X) (Nat.le_trans (Nat.mul_le_mul_right 40 (show q.code.length + 1 ≤ 30001 by simp only [hc0', List.length_nil] at hcl; omega)) (by decide)) (by decide) (encCode_length _)
        try simp only [a2, a4, a6, a8, a77, a78, a79, hc', hc0, hw, e2, e4, e6, e8, e9, e10, e77, e78, e79, gs, esl, ls, entsI_ids, entsI_ren, hG, hap, hwr, FT, Int.reduceEq, Int.reduceToNat, Int.reduceLE, Int.reduceLT, Int.reduceAdd, Int.reduceMul, Int.reduceSub, Int.reduceNeg, Nat.reduceAdd, Nat.reduceSub, Nat.reduceMul, Nat.reduceLT, Nat.reduceBEq, Nat.reduceEqDiff, Nat.reduceLeDiff]
        refine .inr ⟨_, _, hc, rfl, e2, e4, e6, e8, e77, e78, (by rfl), ?_⟩
        simp only [cdO, List.length_append, List.length_cons, List.length_nil, Nat.zero_add, encCode_append, encCode, enc1, List.append_nil]
        exact ⟨_, by rfl⟩
  · refine .inl ?_
    obtain rfl : i = code.length := by omega
    have hc' : ¬ (((code.length : Nat) : Int) < ((code.length : Nat) : Int)) := by omega
    simp only [loopR_succ, ht]
    simp only [a2, a4, a6, a8, a77, a78, a79, hc', loopR_succ, loopOf, findLoop, firstRegion, Option.some_or, Option.none_or, Option.getD_some, Option.some.injEq, Try.f44, FT, Int.reduceEq, Int.reduceToNat, Int.reduceLE, Int.reduceLT, Int.reduceAdd, Int.reduceMul, Int.reduceSub, Int.reduceNeg, Nat.reduceAdd, Nat.reduceSub, Nat.reduceMul, Nat.reduceLT, Nat.reduceBEq, Nat.reduceEqDiff, Nat.reduceLeDiff]
    exact ⟨_, rfl, (by rfl), (by rfl), (by rfl), (by rfl), (by rfl), (by rfl), (by rfl)⟩
end Go.Proofs.Sw
namespace Go.Proofs.Sw
open Go.Ab
variable [Globals]
def atL (at_ : List (Int × Int)) (vs : List Int) : List Int := vs.map fun v => atI at_ v
theorem atL_take {at_ : List (Int × Int)} {vs : List Int} {i : Nat} (h : i < vs.length) : atL at_ (vs.take (i + 1)) = atL at_ (vs.take i) ++ [atI at_ vs[i]] := by
  rw [List.take_succ_eq_append_getElem h, atL, atL, List.map_append]; rfl
theorem atL_length (at_ : List (Int × Int)) (vs : List Int) : (atL at_ vs).length = vs.length := by simp [atL]
theorem loop_Pack32 (kf : Nat) (o0 o2 o3 o4 o5 o6 o7 o8 o10 : AObj) (uo0 : AObj.under 14 o0 = true) (uo2 : AObj.under 14 o2 = true) (uo3 : AObj.under 14 o3 = true) (uo4 : AObj.under 14 o4 = true) (uo5 : AObj.under 14 o5 = true) (uo6 : AObj.under 14 o6 = true) (uo7 : AObj.under 14 o7 = true) (uo8 : AObj.under 14 o8 = true) (uo10 : AObj.under 14 o10 = true) (at_ : List (Int × Int)) (fl cl : Nat) (i0 i1 : IV) (vs : List Int) (hlen : vs.length ≤ 20000) (k : Nat) (l : Ass) (z : Option Out) (hz : loopR Try.prog tab kf none LB44_32 44 208 [2, 6, 8, 189, 190, 191] 14 k l ([o0, lo 3 0 (encInts (atL at_ (vs.take 0))), o2, o3, o4, o5, o6, o7, o8, rI vs, o10, .map 123 (entsI at_), .cells 125 [.hmap 11, hI 2 fl], .cells 25 [.c i0, .c i1, lv 0 5 cl, lv 1 1 0]]) = z) (hk : vs.length < k) (a2 : asc l 2 = .ptr 4 0) (a6 : asc l 6 = .ptr 12 0) (a8 : asc l 8 = .ptr 13 0) (a189 : asc l 189 = hI 9 vs.length) (a190 : asc l 190 = ii vs.length) (a191 : asc l 191 = ii 0) :
    ∃ l', z = some (.exit 6 (fr 208 l') ([o0, lo 3 vs.length (encInts (atL at_ (vs.take vs.length))), o2, o3, o4, o5, o6, o7, o8, rI vs, o10, .map 123 (entsI at_), .cells 125 [.hmap 11, hI 2 fl], .cells 25 [.c i0, .c i1, lv 0 5 cl, lv 1 1 vs.length]])) ∧ asc l' 2 = .ptr 4 0 ∧ asc l' 6 = .ptr 12 0 ∧ asc l' 8 = .ptr 13 0 ∧ asc l' 189 = hI 9 vs.length ∧ asc l' 190 = ii vs.length ∧ asc l' 191 = ii vs.length := by
  subst hz
  refine loop_nat vs.length (fun k l H => loopR Try.prog tab kf none LB44_32 44 208 [2, 6, 8, 189, 190, 191] 14 k l H)
    (fun i l H => asc l 2 = .ptr 4 0 ∧ asc l 6 = .ptr 12 0 ∧ asc l 8 = .ptr 13 0 ∧ asc l 189 = hI 9 vs.length ∧ asc l 190 = ii vs.length ∧ asc l 191 = ii i ∧ ∃ G, H = ([o0, lo 3 i (encInts (atL at_ (vs.take i))), o2, o3, o4, o5, o6, o7, o8, rI vs, o10, .map 123 (entsI at_), .cells 125 [.hmap 11, hI 2 fl], .cells 25 [.c i0, .c i1, lv 0 5 cl, lv 1 1 i]]) ++ G)
    (fun z => ∃ l', z = some (.exit 6 (fr 208 l') ([o0, lo 3 vs.length (encInts (atL at_ (vs.take vs.length))), o2, o3, o4, o5, o6, o7, o8, rI vs, o10, .map 123 (entsI at_), .cells 125 [.hmap 11, hI 2 fl], .cells 25 [.c i0, .c i1, lv 0 5 cl, lv 1 1 vs.length]])) ∧ asc l' 2 = .ptr 4 0 ∧ asc l' 6 = .ptr 12 0 ∧ asc l' 8 = .ptr 13 0 ∧ asc l' 189 = hI 9 vs.length ∧ asc l' 190 = ii vs.length ∧ asc l' 191 = ii vs.length) ?_ vs.length 0 k l _ (by omega) hk ⟨a2, a6, a8, a189, a190, a191, [], by rw [List.append_nil]⟩
  clear hk a2 a6 a8 a189 a190 a191
  rintro i k l H hi ⟨a2, a6, a8, a189, a190, a191, G, rfl⟩
  have ht : trim 14 (fr 208 (keep l [2, 6, 8, 189, 190, 191])) (([o0, lo 3 i (encInts (atL at_ (vs.take i))), o2, o3, o4, o5, o6, o7, o8, rI vs, o10, .map 123 (entsI at_), .cells 125 [.hmap 11, hI 2 fl], .cells 25 [.c i0, .c i1, lv 0 5 cl, lv 1 1 i]]) ++ G) = ([o0, lo 3 i (encInts (atL at_ (vs.take i))), o2, o3, o4, o5, o6, o7, o8, rI vs, o10, .map 123 (entsI at_), .cells 125 [.hmap 11, hI 2 fl], .cells 25 [.c i0, .c i1, lv 0 5 cl, lv 1 1 i]]) := trim_app (by simp) (by simp only [a2, a6, a8, a189, a190, a191, entsI_under, uo0, uo2, uo3, uo4, uo5, uo6, uo7, uo8, uo10, EVb, EVc, Int.reduceEq, Int.reduceToNat, Int.reduceLE, Int.reduceLT, Int.reduceAdd, Int.reduceMul, Int.reduceSub, Int.reduceNeg, Nat.reduceAdd, Nat.reduceSub, Nat.reduceMul, Nat.reduceLT, Nat.reduceBEq, Nat.reduceEqDiff, Nat.reduceLeDiff]) (by simp only [entsI_under, uo0, uo2, uo3, uo4, uo5, uo6, uo7, uo8, uo10, EVb, EVc, Int.reduceEq, Int.reduceToNat, Int.reduceLE, Int.reduceLT, Int.reduceAdd, Int.reduceMul, Int.reduceSub, Int.reduceNeg, Nat.reduceAdd, Nat.reduceSub, Nat.reduceMul, Nat.reduceLT, Nat.reduceBEq, Nat.reduceEqDiff, Nat.reduceLeDiff])
  by_cases hc : i < vs.length
  · have hc' : (i : Int) < ((vs.length : Nat) : Int) := by omega
    have hc0 : (0 : Int) ≤ i := by omega
    have hw : IntKind.wrap .i64 ((i : Int) + 1) = ((i + 1 : Nat) : Int) := by rw [wrap64 (by omega) (by omega)]; omega
    have hx := encInts_get hc
    have hlen2 : (atL at_ (vs.take i)).length = i := by rw [atL_length, List.length_take]; omega
    have hap := fun x0 X cs => apO_lv (e := 3) (s := 1) (n := i) (m := 1) (sz := 1) (by_ := 8) (cells := encInts (atL at_ (vs.take i))) (cs := cs) (H := x0 :: lo 3 i (encInts (atL at_ (vs.take i))) :: X) (by decide) (Nat.le_trans (Nat.mul_le_mul_right 8 (show i + 1 ≤ 20001 by omega)) (by decide)) (by decide) rfl (by rw [encInts_length, hlen2, Nat.mul_one])
    have hnx := atL_take (at_ := at_) hc
    obtain ⟨v, hv⟩ : ∃ v, v = vs[i] := ⟨_, rfl⟩
    rw [← hv] at hx hnx
    have hel := encInts_length vs
    rw [hnx, encInts_append]
    simp only [loopR_succ, ht]
    simp only [a2, a6, a8, a189, a190, a191, hc', hc0, hw, hx, hel, loopR_succ, loopOf, findLoop, firstRegion, Option.some_or, Option.none_or, Option.getD_some, Option.some.injEq, Try.f44, FT, Int.reduceEq, Int.reduceToNat, Int.reduceLE, Int.reduceLT, Int.reduceAdd, Int.reduceMul, Int.reduceSub, Int.reduceNeg, Nat.reduceAdd, Nat.reduceSub, Nat.reduceMul, Nat.reduceLT, Nat.reduceBEq, Nat.reduceEqDiff, Nat.reduceLeDiff]
    rw [evalCode_drawn Try.f44 34 dr44_34]; rotate_left; rfl
    simp only [a2, a6, a8, a189, a190, a191, hc', hc0, hw, hx, hel, look11, hap, EVd, List.getElem?_nil, Nat.reducePow, Nat.reduceDiv, Nat.reduceMod, FT, Int.reduceEq, Int.reduceToNat, Int.reduceLE, Int.reduceLT, Int.reduceAdd, Int.reduceMul, Int.reduceSub, Int.reduceNeg, Nat.reduceAdd, Nat.reduceSub, Nat.reduceMul, Nat.reduceLT, Nat.reduceBEq, Nat.reduceEqDiff, Nat.reduceLeDiff]
    refine .inr ⟨_, _, hc, rfl, (by rfl), (by rfl), (by rfl), (by rfl), (by rfl), (by rfl), ?_⟩
    exact ⟨_, by rfl⟩
  · refine .inl ?_
    obtain rfl : i = vs.length := by omega
    have hc' : ¬ (((vs.length : Nat) : Int) < ((vs.length : Nat) : Int)) := by omega
    simp only [loopR_succ, ht]
    simp only [a2, a6, a8, a189, a190, a191, hc', loopR_succ, loopOf, findLoop, firstRegion, Option.some_or, Option.none_or, Option.getD_some, Option.some.injEq, Try.f44, FT, Int.reduceEq, Int.reduceToNat, Int.reduceLE, Int.reduceLT, Int.reduceAdd, Int.reduceMul, Int.reduceSub, Int.reduceNeg, Nat.reduceAdd, Nat.reduceSub, Nat.reduceMul, Nat.reduceLT, Nat.reduceBEq, Nat.reduceEqDiff, Nat.reduceLeDiff]
    exact ⟨_, rfl, (by rfl), (by rfl), (by rfl), (by rfl), (by rfl), (by rfl)⟩
end Go.Proofs.Sw
namespace Go.Proofs.Sw
open Go.Ab
variable [Globals]
theorem getD_set {l : List Int} {i k : Nat} {v : Int} : (l.set i v).getD k 0 = if i = k ∧ i < l.length then v else l.getD k 0 := by
  rw [List.getD_eq_getElem?_getD, List.getD_eq_getElem?_getD, List.getElem?_set]
  by_cases h : i = k
  · subst h
    by_cases h2 : i < l.length
    · simp [h2]
    · simp [h2]
  · simp [h]
theorem lv_at {q0 : Lv} {need : List Bool} {code : List Ins} {n : Nat} (h0 : LvOk q0 n code.length) {k : Nat} {x : Ins} (hx : code[k]? = some x) (hk : need.getD k false = true) : ∀ j, k < j → j ≤ code.length →
    (lvAt q0 need code j).a.getD k 0 = (lvAt q0 need code k).held.getD x.a.toNat 0 ∧ (lvAt q0 need code j).b.getD k 0 = lvB (lvAt q0 need code k).held x ∧ (lvAt q0 need code j).sets.getD k 0 = (lvAt q0 need code k).unt.length
  | 0, h, _ => by omega
  | j + 1, h, hj => by
    have hjl : j < code.length := by omega
    obtain ⟨hok, _⟩ := lvAt_ok (need := need) (code := code) h0 j
    rw [lvAt_succ hjl]
    by_cases hkj : k = j
    · subst hkj
      have e : code[k] = x := by rw [List.getElem?_eq_getElem hjl] at hx; injection hx
      rw [if_pos hk, e]
      simp only [lvStep, getD_set, hok.a, hok.b, hok.sets, hjl, and_self, if_true]
    · obtain ⟨h1, h2, h3⟩ := lv_at h0 hx hk j (by omega) (by omega)
      split
      · simp only [lvStep, getD_set, show ¬ j = k from fun h => hkj h.symm, false_and, if_false]
        exact ⟨h1, h2, h3⟩
      · exact ⟨h1, h2, h3⟩
theorem lv_unt_mono {q0 : Lv} {need : List Bool} {code : List Ins} (i : Nat) : (lvAt q0 need code i).unt.length ≤ (lvAt q0 need code (i + 1)).unt.length := by
  by_cases h : i < code.length
  · rw [lvAt_succ h]
    split
    · rw [lvStep_unt]; omega
    · exact Nat.le_refl _
  · rw [lvAt, List.getElem?_eq_none (by omega)]
    exact Nat.le_refl _
theorem pk_keys {q0 : Lv} {need : List Bool} {code : List Ins} {n : Nat} {L : Lv} {unt : List Int} {p0 : Pk} (h0 : LvOk q0 n code.length) (hL : L = lvAt q0 need code code.length) (hk0 : ∀ e ∈ p0.at_, e.1 < q0.unt.length) :
    ∀ i, i ≤ code.length → ∀ e ∈ (pkAt L unt p0 need code i).at_, e.1 < (lvAt q0 need code i).unt.length
  | 0, _, e, he => hk0 e he
  | i + 1, hi, e, he => by
    have hil : i < code.length := by omega
    have ih := pk_keys (unt := unt) h0 hL hk0 i (by omega)
    rw [pkAt_succ hil] at he
    rw [lvAt_succ hil]
    by_cases hn : need.getD i false = true
    · rw [if_pos hn] at he ⊢
      rw [lvStep_unt]
      simp only [pkStep, List.mem_append, List.mem_singleton] at he
      rcases he with he | rfl
      · have := ih e he; omega
      · have := (lv_at h0 (List.getElem?_eq_getElem hil) hn code.length hil (Nat.le_refl _)).2.2
        rw [← hL] at this
        simp only [this]
        omega
    · rw [if_neg hn] at he ⊢
      exact ih e he
theorem pk_fresh {q0 : Lv} {need : List Bool} {code : List Ins} {n : Nat} {L : Lv} {unt : List Int} {p0 : Pk} (h0 : LvOk q0 n code.length) (hL : L = lvAt q0 need code code.length) (hk0 : ∀ e ∈ p0.at_, e.1 < q0.unt.length) (i : Nat) (hi : i < code.length) (hn : need.getD i false = true) :
    lookI (L.sets.getD i 0) (pkAt L unt p0 need code i).at_ = none := lookI_none fun e he => by
  have h1 := pk_keys (unt := unt) h0 hL hk0 i (by omega) e he
  have h2 := (lv_at h0 (List.getElem?_eq_getElem hi) hn code.length hi (Nat.le_refl _)).2.2
  rw [← hL] at h2
  omega
end Go.Proofs.Sw
namespace Go.Proofs.Sw
open Go.Ab
variable [Globals]
theorem mark_getD (b : Bool) : ∀ (rs : List Int) (l : List Bool) (j : Nat), j < l.length → (mark l b rs).getD j false = if (rs.any fun r => r.toNat == j) = true then b else l.getD j false
  | [], l, j, _ => by simp [mark]
  | r :: rs, l, j, h => by
    rw [mark, mark_getD b rs _ j (by simpa using h)]
    by_cases hr : r.toNat = j
    · subst hr
      simp [h]
    · simp only [List.any_cons, beq_iff_eq, hr, decide_false, Bool.false_or, show (r.toNat == j) = false by simpa using hr]
      split
      · rfl
      · simp [List.getElem?_set_ne hr]
end Go.Proofs.Sw
namespace Go.Proofs.Sw
open Go.Ab
variable [Globals]
theorem rMay_ev (k : Nat) (o t a b c regs : Int) : run (k+1) 102 [aI o t a b c, ii regs] = some (bb (mayM ⟨o, t, a, b, c⟩ regs)) := by
  rw [run, ev102, ans_trim]
  simp only [Try.f102, aI, ii, bb, FT, Int.reduceEq, Int.reduceToNat, Int.reduceLE, Int.reduceLT, Int.reduceAdd, Int.reduceMul, Int.reduceSub, Int.reduceNeg, Nat.reduceAdd, Nat.reduceSub, Nat.reduceMul, Nat.reduceLT, Nat.reduceBEq, Nat.reduceEqDiff, Nat.reduceLeDiff]
  repeat' (first
    | (rw [condO_dec]; split <;> simp only [*, FT, Int.reduceEq, Int.reduceToNat, Int.reduceLE, Int.reduceLT, Int.reduceAdd, Int.reduceMul, Int.reduceSub, Int.reduceNeg, Nat.reduceAdd, Nat.reduceSub, Nat.reduceMul, Nat.reduceLT, Nat.reduceBEq, Nat.reduceEqDiff, Nat.reduceLeDiff])
    | (rw [condO_ite]; split <;> simp only [*, FT, Int.reduceEq, Int.reduceToNat, Int.reduceLE, Int.reduceLT, Int.reduceAdd, Int.reduceMul, Int.reduceSub, Int.reduceNeg, Nat.reduceAdd, Nat.reduceSub, Nat.reduceMul, Nat.reduceLT, Nat.reduceBEq, Nat.reduceEqDiff, Nat.reduceLeDiff])
    | (split <;> simp only [*, FT, Int.reduceEq, Int.reduceToNat, Int.reduceLE, Int.reduceLT, Int.reduceAdd, Int.reduceMul, Int.reduceSub, Int.reduceNeg, Nat.reduceAdd, Nat.reduceSub, Nat.reduceMul, Nat.reduceLT, Nat.reduceBEq, Nat.reduceEqDiff, Nat.reduceLeDiff]))
  all_goals first
    | (simp [mayM, constant, *]; done)
    | (rw [Option.some.injEq, AV.c.injEq, IV.bool.injEq, Bool.eq_iff_iff]; simp [mayM, constant, *]; omega)
theorem loop_rCheck_4 (kf : Nat) (ins regs : Int) (cv : AV) (outs : List Int) (nl : Bool) (cap : Option Nat) (hlen : outs.length ≤ 1000000) (k : Nat) (l : Ass) (z : Option Out)
    (hz : loopR Try.prog tab kf none LB67_4 67 79 [1, 4] 1 k l [cP ins regs cv (sI outs nl cap)] = z) (hk : outs.length < k)
    (h1 : asc l 1 = .ptr 0 0) (h4 : asc l 4 = ii (0 : Nat)) :
    ∃ l', (z = some (.exit 0 (fr 79 l') [cP ins regs cv (sI outs nl cap)]) ∧ asc l' 1 = .ptr 0 0 ∧ outs.all (fun r => decide (0 ≤ r ∧ r < regs)) = true) ∨
      (z = some (.ret (fr 79 l') [cP ins regs cv (sI outs nl cap)]) ∧ (∃ n, asc l' 2 = ii n) ∧ asc l' 3 = bb true ∧ outs.all (fun r => decide (0 ≤ r ∧ r < regs)) = false) := by
  subst hz
  refine loop_nat outs.length (fun k l H => loopR Try.prog tab kf none LB67_4 67 79 [1, 4] 1 k l H)
    (fun i l H => asc l 1 = .ptr 0 0 ∧ asc l 4 = ii i ∧ (∀ j, (h : j < i) → ∀ h2 : j < outs.length, 0 ≤ outs[j] ∧ outs[j] < regs) ∧ H = [cP ins regs cv (sI outs nl cap)])
    (fun z => ∃ l', (z = some (.exit 0 (fr 79 l') [cP ins regs cv (sI outs nl cap)]) ∧ asc l' 1 = .ptr 0 0 ∧ outs.all (fun r => decide (0 ≤ r ∧ r < regs)) = true) ∨
      (z = some (.ret (fr 79 l') [cP ins regs cv (sI outs nl cap)]) ∧ (∃ n, asc l' 2 = ii n) ∧ asc l' 3 = bb true ∧ outs.all (fun r => decide (0 ≤ r ∧ r < regs)) = false)) ?_ outs.length 0 k l _ (by omega) hk ⟨h1, h4, fun j h => absurd h (by omega), rfl⟩
  clear h1 h4 hk
  rintro i k l H hi ⟨h1, h4, hp, rfl⟩
  by_cases hc : i < outs.length
  · have hc' : ((i : Int) < outs.length) := by omega
    have hc0 : (0 : Int) ≤ i := by omega
    have hx := encInts_get hc
    have hw := wrap_succ hc (by omega)
    have hall : ¬ (0 ≤ outs[i] ∧ outs[i] < regs) → outs.all (fun r => decide (0 ≤ r ∧ r < regs)) = false := fun h => by
      rw [List.all_eq_false]; exact ⟨outs[i], List.getElem_mem hc, by simpa using h⟩
    simp only [h1, h4, hc', hc0, hx, loopR_succ, loopOf, findLoop, firstRegion, Option.some_or, Option.none_or, Option.getD_some, Option.some.injEq, Try.f67, FT, Int.reduceEq, Int.reduceToNat, Int.reduceLE, Int.reduceLT, Int.reduceAdd, Int.reduceMul, Int.reduceSub, Int.reduceNeg, Nat.reduceAdd, Nat.reduceSub, Nat.reduceMul, Nat.reduceLT, Nat.reduceBEq, Nat.reduceEqDiff, Nat.reduceLeDiff]
    rw [evalCode_drawn Try.f67 6 dr67_6]; rotate_left; rfl
    by_cases hr : outs[i] < 0
    · refine .inl ?_
      simp only [hc', hc0, hx, hr, EVd, List.getElem?_nil, Nat.reducePow, Nat.reduceDiv, Nat.reduceMod, FT, Int.reduceEq, Int.reduceToNat, Int.reduceLE, Int.reduceLT, Int.reduceAdd, Int.reduceMul, Int.reduceSub, Int.reduceNeg, Nat.reduceAdd, Nat.reduceSub, Nat.reduceMul, Nat.reduceLT, Nat.reduceBEq, Nat.reduceEqDiff, Nat.reduceLeDiff]
      exact ⟨_, .inr ⟨rfl, ⟨_, (by rfl)⟩, (by rfl), hall (by omega)⟩⟩
    · by_cases hr2 : regs ≤ outs[i]
      · refine .inl ?_
        simp only [hc', hc0, hx, hr, hr2, EVd, List.getElem?_nil, Nat.reducePow, Nat.reduceDiv, Nat.reduceMod, FT, Int.reduceEq, Int.reduceToNat, Int.reduceLE, Int.reduceLT, Int.reduceAdd, Int.reduceMul, Int.reduceSub, Int.reduceNeg, Nat.reduceAdd, Nat.reduceSub, Nat.reduceMul, Nat.reduceLT, Nat.reduceBEq, Nat.reduceEqDiff, Nat.reduceLeDiff]
        exact ⟨_, .inr ⟨rfl, ⟨_, (by rfl)⟩, (by rfl), hall (by omega)⟩⟩
      · refine .inr ?_
        simp only [hc', hc0, hx, hr, hr2, hw, EVd, List.getElem?_nil, Nat.reducePow, Nat.reduceDiv, Nat.reduceMod, FT, Int.reduceEq, Int.reduceToNat, Int.reduceLE, Int.reduceLT, Int.reduceAdd, Int.reduceMul, Int.reduceSub, Int.reduceNeg, Nat.reduceAdd, Nat.reduceSub, Nat.reduceMul, Nat.reduceLT, Nat.reduceBEq, Nat.reduceEqDiff, Nat.reduceLeDiff]
        refine ⟨_, _, hc, rfl, (by rfl), (by rfl), fun j hj h2 => ?_, rfl⟩
        by_cases e : j = i
        · subst e; omega
        · exact hp j (by omega) h2
  · have hc' : ¬ ((i : Int) < outs.length) := by omega
    refine .inl ?_
    simp only [h1, h4, hc', loopR_succ, loopOf, findLoop, firstRegion, Option.some_or, Option.none_or, Option.getD_some, Option.some.injEq, Try.f67, FT, Int.reduceEq, Int.reduceToNat, Int.reduceLE, Int.reduceLT, Int.reduceAdd, Int.reduceMul, Int.reduceSub, Int.reduceNeg, Nat.reduceAdd, Nat.reduceSub, Nat.reduceMul, Nat.reduceLT, Nat.reduceBEq, Nat.reduceEqDiff, Nat.reduceLeDiff]
    refine ⟨_, .inl ⟨rfl, (by rfl), ?_⟩⟩
    exact all_of fun j hj => by simpa using hp j (by omega) hj
theorem loop_rCheck_9 (kf : Nat) (hkf : 1 ≤ kf) (ins regs : Int) (ov : AV) (hov : AV.under 1 ov = true) (code : List Ins) (nl : Bool) (cap : Option Nat) (hlen : code.length ≤ 1000000) (k : Nat) (l : Ass) (z : Option Out)
    (hz : loopR Try.prog tab kf none LB67_9 67 79 [1, 5] 1 k l [cP ins regs (sC code nl cap) ov] = z) (hk : code.length < k)
    (h1 : asc l 1 = .ptr 0 0) (h5 : asc l 5 = ii (0 : Nat)) :
    ∃ l' H', (z = some (.exit 2 (fr 79 l') H') ∧ code.all (fun i => mayM i regs) = true) ∨
      (z = some (.ret (fr 79 l') H') ∧ (∃ n, asc l' 2 = ii n) ∧ asc l' 3 = bb true ∧ code.all (fun i => mayM i regs) = false) := by
  subst hz
  obtain ⟨kf, rfl⟩ : ∃ j, kf = j + 1 := ⟨kf - 1, by omega⟩
  refine loop_nat code.length (fun k l H => loopR Try.prog tab (kf + 1) none LB67_9 67 79 [1, 5] 1 k l H)
    (fun i l H => asc l 1 = .ptr 0 0 ∧ asc l 5 = ii i ∧ (∀ j, (h : j < i) → ∀ h2 : j < code.length, mayM code[j] regs = true) ∧ H = [cP ins regs (sC code nl cap) ov])
    (fun z => ∃ l' H', (z = some (.exit 2 (fr 79 l') H') ∧ code.all (fun i => mayM i regs) = true) ∨
      (z = some (.ret (fr 79 l') H') ∧ (∃ n, asc l' 2 = ii n) ∧ asc l' 3 = bb true ∧ code.all (fun i => mayM i regs) = false)) ?_ code.length 0 k l _ (by omega) hk ⟨h1, h5, fun j h => absurd h (by omega), rfl⟩
  clear h1 h5 hk
  rintro i k l H hi ⟨h1, h5, hp, rfl⟩
  by_cases hc : i < code.length
  · have hc' : ((i : Int) < code.length) := by omega
    have hc0 : (0 : Int) ≤ i := by omega
    have hx := encCode_get hc
    have hw := wrap_succ hc (by omega)
    obtain ⟨x, hX⟩ : ∃ x, x = code[i] := ⟨_, rfl⟩
    rw [← hX] at hx
    have hm := rMay_ev kf x.op x.to x.a x.b x.c regs
    simp only [run, aI, ii, bb] at hm
    simp only [h1, h5, hc', hc0, hx, loopR_succ, loopOf, findLoop, firstRegion, Option.some_or, Option.none_or, Option.getD_some, Option.some.injEq, Try.f67, FT, Int.reduceEq, Int.reduceToNat, Int.reduceLE, Int.reduceLT, Int.reduceAdd, Int.reduceMul, Int.reduceSub, Int.reduceNeg, Nat.reduceAdd, Nat.reduceSub, Nat.reduceMul, Nat.reduceLT, Nat.reduceBEq, Nat.reduceEqDiff, Nat.reduceLeDiff]
    rw [evalCode_drawn Try.f67 11 dr67_11]; rotate_left; rfl
    cases hd : mayM x regs with
    | false =>
      rw [show mayM ⟨x.op, x.to, x.a, x.b, x.c⟩ regs = false from hd] at hm
      refine .inl ?_
      simp only [hc', hc0, hx, hm, EVd, List.getElem?_nil, Nat.reducePow, Nat.reduceDiv, Nat.reduceMod, FT, Int.reduceEq, Int.reduceToNat, Int.reduceLE, Int.reduceLT, Int.reduceAdd, Int.reduceMul, Int.reduceSub, Int.reduceNeg, Nat.reduceAdd, Nat.reduceSub, Nat.reduceMul, Nat.reduceLT, Nat.reduceBEq, Nat.reduceEqDiff, Nat.reduceLeDiff]
      exact ⟨_, _, .inr ⟨rfl, ⟨_, rfl⟩, (by rfl), all_not hc (by rw [← hX]; exact hd)⟩⟩
    | true =>
      rw [show mayM ⟨x.op, x.to, x.a, x.b, x.c⟩ regs = true from hd] at hm
      refine .inr ?_
      simp only [hc', hc0, hx, hm, hw, EVd, List.getElem?_nil, Nat.reducePow, Nat.reduceDiv, Nat.reduceMod, FT, Int.reduceEq, Int.reduceToNat, Int.reduceLE, Int.reduceLT, Int.reduceAdd, Int.reduceMul, Int.reduceSub, Int.reduceNeg, Nat.reduceAdd, Nat.reduceSub, Nat.reduceMul, Nat.reduceLT, Nat.reduceBEq, Nat.reduceEqDiff, Nat.reduceLeDiff]
      refine ⟨_, _, hc, rfl, (by rfl), (by rfl), fun j hj h2 => ?_, rfl⟩
      by_cases e : j = i
      · subst e; rw [← hX]; exact hd
      · exact hp j (by omega) h2
  · have hc' : ¬ ((i : Int) < code.length) := by omega
    refine .inl ?_
    simp only [h1, h5, hc', loopR_succ, loopOf, findLoop, firstRegion, Option.some_or, Option.none_or, Option.getD_some, Option.some.injEq, Try.f67, FT, Int.reduceEq, Int.reduceToNat, Int.reduceLE, Int.reduceLT, Int.reduceAdd, Int.reduceMul, Int.reduceSub, Int.reduceNeg, Nat.reduceAdd, Nat.reduceSub, Nat.reduceMul, Nat.reduceLT, Nat.reduceBEq, Nat.reduceEqDiff, Nat.reduceLeDiff]
    exact ⟨_, _, .inl ⟨rfl, all_of fun j hj => hp j (by omega) hj⟩⟩
theorem rCheck_ev (k : Nat) (p : Pg) (nl : Bool) (cap : Option Nat) (nl2 : Bool) (cap2 : Option Nat) (hk : p.outs.length + p.code.length + 10 ≤ k) :
    ∃ n, run (k+1) 67 [aP p nl cap nl2 cap2] = some (.tup [ii n, bb (!rightM p)]) := by
  obtain ⟨ins, regs, code, outs⟩ := p
  simp only at hk
  rw [run, ev67, ans_trim]
  simp only [Try.f67, aP, ii, bb, FT, Int.reduceEq, Int.reduceToNat, Int.reduceLE, Int.reduceLT, Int.reduceAdd, Int.reduceMul, Int.reduceSub, Int.reduceNeg, Nat.reduceAdd, Nat.reduceSub, Nat.reduceMul, Nat.reduceLT, Nat.reduceBEq, Nat.reduceEqDiff, Nat.reduceLeDiff]
  by_cases hm : headM ⟨ins, regs, code, outs⟩ = true
  · have hm' := hm
    simp only [headM, decide_eq_true_eq] at hm'
    have q1 : ¬ ins < 1 := by omega
    have q2 : ¬ regs < ins := by omega
    have q3 : ¬ 128 < regs := by omega
    have q4 : ¬ (16384 : Int) < code.length := by omega
    have q5 : ¬ (outs.length : Int) < 1 := by omega
    have q6 : ¬ (128 : Int) < outs.length := by omega
    simp only [q1, q2, q3, q4, q5, q6, FT, Int.reduceEq, Int.reduceToNat, Int.reduceLE, Int.reduceLT, Int.reduceAdd, Int.reduceMul, Int.reduceSub, Int.reduceNeg, Nat.reduceAdd, Nat.reduceSub, Nat.reduceMul, Nat.reduceLT, Nat.reduceBEq, Nat.reduceEqDiff, Nat.reduceLeDiff]
    rw [evalCode_loopB LB67_4 lp67_4]; rotate_left; rfl; rfl; rfl
    generalize hz : loopR _ _ _ _ _ _ _ _ _ _ _ _ = z
    obtain ⟨l1, ⟨rfl, g1, ho⟩ | ⟨rfl, ⟨n, g1⟩, g2, ho⟩⟩ := loop_rCheck_4 k ins regs (sC code nl cap) outs nl2 cap2 (by omega) _ _ z hz (by omega) (by rfl) (by rfl)
    · simp only [g1, FT, Int.reduceEq, Int.reduceToNat, Int.reduceLE, Int.reduceLT, Int.reduceAdd, Int.reduceMul, Int.reduceSub, Int.reduceNeg, Nat.reduceAdd, Nat.reduceSub, Nat.reduceMul, Nat.reduceLT, Nat.reduceBEq, Nat.reduceEqDiff, Nat.reduceLeDiff]
      clear hz
      rw [evalCode_loopB LB67_9 lp67_9]; rotate_left; rfl; rfl; rfl
      generalize hz : loopR _ _ _ _ _ _ _ _ _ _ _ _ = z
      obtain ⟨l2, H2, ⟨rfl, hc⟩ | ⟨rfl, ⟨n, g2⟩, g3, hc⟩⟩ := loop_rCheck_9 k (by omega) ins regs (sI outs nl2 cap2) (by rfl) code nl cap (by omega) _ _ z hz (by omega) (by exact g1) (by rfl)
      · refine ⟨0, ?_⟩
        simp only [FT, Int.reduceEq, Int.reduceToNat, Int.reduceLE, Int.reduceLT, Int.reduceAdd, Int.reduceMul, Int.reduceSub, Int.reduceNeg, Nat.reduceAdd, Nat.reduceSub, Nat.reduceMul, Nat.reduceLT, Nat.reduceBEq, Nat.reduceEqDiff, Nat.reduceLeDiff]
        simp [rightM, hm, show outsM ⟨ins, regs, code, outs⟩ = _ from ho, show codeM ⟨ins, regs, code, outs⟩ = _ from hc]
      · refine ⟨n, ?_⟩
        simp only [g2, g3, FT, Int.reduceEq, Int.reduceToNat, Int.reduceLE, Int.reduceLT, Int.reduceAdd, Int.reduceMul, Int.reduceSub, Int.reduceNeg, Nat.reduceAdd, Nat.reduceSub, Nat.reduceMul, Nat.reduceLT, Nat.reduceBEq, Nat.reduceEqDiff, Nat.reduceLeDiff]
        simp [rightM, hm, show outsM ⟨ins, regs, code, outs⟩ = _ from ho, show codeM ⟨ins, regs, code, outs⟩ = _ from hc]
    · refine ⟨n, ?_⟩
      simp only [g1, g2, FT, Int.reduceEq, Int.reduceToNat, Int.reduceLE, Int.reduceLT, Int.reduceAdd, Int.reduceMul, Int.reduceSub, Int.reduceNeg, Nat.reduceAdd, Nat.reduceSub, Nat.reduceMul, Nat.reduceLT, Nat.reduceBEq, Nat.reduceEqDiff, Nat.reduceLeDiff]
      simp [rightM, hm, show outsM ⟨ins, regs, code, outs⟩ = _ from ho]
  · refine ⟨-1, ?_⟩
    have hr : rightM ⟨ins, regs, code, outs⟩ = false := by simp [rightM, hm]
    rw [hr]
    simp only [headM, decide_eq_true_eq] at hm
    repeat' (first
    | (rw [condO_dec]; split <;> simp only [*, FT, Int.reduceEq, Int.reduceToNat, Int.reduceLE, Int.reduceLT, Int.reduceAdd, Int.reduceMul, Int.reduceSub, Int.reduceNeg, Nat.reduceAdd, Nat.reduceSub, Nat.reduceMul, Nat.reduceLT, Nat.reduceBEq, Nat.reduceEqDiff, Nat.reduceLeDiff])
    | (rw [condO_ite]; split <;> simp only [*, FT, Int.reduceEq, Int.reduceToNat, Int.reduceLE, Int.reduceLT, Int.reduceAdd, Int.reduceMul, Int.reduceSub, Int.reduceNeg, Nat.reduceAdd, Nat.reduceSub, Nat.reduceMul, Nat.reduceLT, Nat.reduceBEq, Nat.reduceEqDiff, Nat.reduceLeDiff])
    | (split <;> simp only [*, FT, Int.reduceEq, Int.reduceToNat, Int.reduceLE, Int.reduceLT, Int.reduceAdd, Int.reduceMul, Int.reduceSub, Int.reduceNeg, Nat.reduceAdd, Nat.reduceSub, Nat.reduceMul, Nat.reduceLT, Nat.reduceBEq, Nat.reduceEqDiff, Nat.reduceLeDiff]))
    all_goals first
      | rfl
      | (exfalso; omega)
theorem rRight_ev (k : Nat) (p : Pg) (nl : Bool) (cap : Option Nat) (nl2 : Bool) (cap2 : Option Nat) (hk : p.outs.length + p.code.length + 11 ≤ k) :
    run (k+1) 17 [aP p nl cap nl2 cap2] = some (bb (rightM p)) := by
  obtain ⟨k, rfl⟩ : ∃ j, k = j + 1 := ⟨k - 1, by omega⟩
  obtain ⟨n, hc⟩ := rCheck_ev k p nl cap nl2 cap2 (by omega)
  simp only [run, aP, ii, bb] at hc
  rw [run, ev17, ans_trim]
  simp only [Try.f17, aP, ii, bb, hc, FT, Int.reduceEq, Int.reduceToNat, Int.reduceLE, Int.reduceLT, Int.reduceAdd, Int.reduceMul, Int.reduceSub, Int.reduceNeg, Nat.reduceAdd, Nat.reduceSub, Nat.reduceMul, Nat.reduceLT, Nat.reduceBEq, Nat.reduceEqDiff, Nat.reduceLeDiff]
  cases hr : rightM p <;> simp
end Go.Proofs.Sw
namespace Go.Proofs.Sw
open Go.Ab
variable [Globals]
def needF (outs : List Int) (r : Int) : List Ins → List Bool → Bool
  | i :: rest, f :: fl => (f && (asks i).any (· == r)) || (!(decide (i.to = r)) && needF outs r rest fl)
  | _, _ => outs.any (· == r)
def needR (outs : List Int) : List Ins → List Bool
  | [] => []
  | i :: rest => needF outs i.to rest (needR outs rest) :: needR outs rest
end Go.Proofs.Sw
namespace Go.Proofs.Sw
open Go.Ab
variable [Globals]
theorem may_asks {x : Ins} {n : Nat} (h : mayM x n = true) : (0 ≤ x.to ∧ x.to < (n : Int)) ∧ ∀ r ∈ asks x, 0 ≤ r ∧ r < (n : Int) := by
  have hm := h
  simp only [mayM, Bool.and_eq_true, decide_eq_true_eq] at hm
  refine ⟨by omega, fun r hr => ?_⟩
  unfold asks at hr
  split at hr
  · rcases List.mem_cons.1 hr with rfl | hr
    · omega
    · rcases List.mem_cons.1 hr with rfl | hr
      · omega
      · cases hr
  · split at hr
    · rcases List.mem_cons.1 hr with rfl | hr
      · omega
      · cases hr
    · cases hr
theorem any_toNat {n : Nat} {r : Int} (h0 : 0 ≤ r) : ∀ ls : List Int, (∀ a ∈ ls, 0 ≤ a ∧ a < (n : Int)) → (ls.any fun a => a.toNat == r.toNat) = ls.any (· == r)
  | [], _ => rfl
  | a :: ls, h => by
    obtain ⟨g, _⟩ := h a (by simp)
    rw [List.any_cons, List.any_cons, any_toNat h0 ls fun b hb => h b (by simp [hb])]
    congr 1
    rw [Bool.eq_iff_iff]
    simp only [beq_iff_eq]
    omega
theorem asked0_get {n : Nat} {outs : List Int} (ho : ∀ r ∈ outs, 0 ≤ r ∧ r < (n : Int)) {r : Int} (h0 : 0 ≤ r) (h1 : r < n) : (asked0 n outs).getD r.toNat false = outs.any (· == r) := by
  unfold asked0
  rw [mark_getD _ _ _ _ (by simp; omega), any_toNat (n := n) h0 outs ho]
  cases hh : outs.any (· == r)
  · rw [if_neg (by simp), List.getD_eq_getElem?_getD, List.getElem?_replicate]; split <;> rfl
  · rfl
theorem needL_R (n : Nat) (outs : List Int) (ho : ∀ r ∈ outs, 0 ≤ r ∧ r < (n : Int)) : ∀ code : List Ins, (∀ i ∈ code, mayM i n = true) →
    (needL (asked0 n outs) code).2 = needR outs code ∧ (needL (asked0 n outs) code).1.length = n ∧ ∀ r : Int, 0 ≤ r → r < n → (needL (asked0 n outs) code).1.getD r.toNat false = needF outs r code (needR outs code)
  | [], _ => ⟨rfl, by simp [needL, asked0, mark_length], fun r h0 h1 => by rw [needL]; exact asked0_get ho h0 h1⟩
  | i :: rest, h => by
    obtain ⟨g1, g2, g3⟩ := needL_R n outs ho rest fun j hj => h j (by simp [hj])
    obtain ⟨⟨t0, t1⟩, ha⟩ := may_asks (h i (by simp))
    have ht := g3 i.to t0 t1
    rw [needL, needR]
    rw [ht, g1]
    cases hf : needF outs i.to rest (needR outs rest) with
    | true =>
      rw [if_pos rfl]
      refine ⟨rfl, by simp [mark_length, g2], fun r h0 h1 => ?_⟩
      rw [mark_getD _ _ _ _ (by simp [g2]; omega), any_toNat (n := n) h0 _ ha, needF, Bool.true_and]
      by_cases hr : i.to = r
      · rw [hr]
        have : ((needL (asked0 n outs) rest).1.set r.toNat false).getD r.toNat false = false := by
          simp [g2, show r.toNat < n by omega]
        rw [this]
        cases (asks i).any (· == r) <;> simp
      · have : ((needL (asked0 n outs) rest).1.set i.to.toNat false).getD r.toNat false = needF outs r rest (needR outs rest) := by
          rw [← g3 r h0 h1]
          simp [List.getElem?_set_ne (show i.to.toNat ≠ r.toNat by omega)]
        rw [this, decide_eq_false hr]
        cases (asks i).any (· == r) <;> simp
    | false =>
      rw [if_neg (by simp)]
      refine ⟨rfl, g2, fun r h0 h1 => ?_⟩
      rw [needF, Bool.false_and, Bool.false_or]
      by_cases hr : i.to = r
      · rw [← hr, ht, hf]; simp
      · rw [decide_eq_false hr, g3 r h0 h1]; simp
theorem neededM_R (n : Nat) (ins : Int) (code : List Ins) (outs : List Int) (hr : rightM ⟨ins, n, code, outs⟩ = true) : needR outs code = neededM ⟨ins, n, code, outs⟩ := by
  simp only [rightM, headM, Bool.and_eq_true, decide_eq_true_eq] at hr
  obtain ⟨⟨hh, ho⟩, hc⟩ := hr
  have hout : ∀ r ∈ outs, 0 ≤ r ∧ r < (n : Int) := fun r h => by have := List.all_eq_true.1 ho r h; simpa using this
  have hcode : ∀ i ∈ code, mayM i n = true := fun i h => List.all_eq_true.1 hc i h
  exact ((needL_R n outs hout code hcode).1).symm
end Go.Proofs.Sw
namespace Go.Proofs.Sw
abbrev zI : Ins := ⟨0, 0, 0, 0, 0⟩
def nth (code : List Ins) (k : Nat) : Ins := code.getD k zI
def nd (need : List Bool) (k : Nat) : Bool := need.getD k false
structure Sv where
  ins : Int
  need : List Bool
  code : List Ins
  outs : List Int
def heldR (S : Sv) : Nat → Int → Int
  | 0, r => if r < S.ins then -1 - r else -1000
  | k + 1, r => if nd S.need k = true ∧ (nth S.code k).to = r then (k : Int) else heldR S k r
def askV (S : Sv) (k : Nat) (v : Int) : Bool := nd S.need k && (asks (nth S.code k)).any fun r => decide (heldR S k r = v)
def lastR (S : Sv) : Nat → Int → Int
  | 0, _ => -2000
  | k + 1, v => if askV S k v = true then (k : Int) else lastR S k v
def outV (S : Sv) (v : Int) : Bool := S.outs.any fun r => decide (heldR S S.code.length r = v)
def untilR (S : Sv) (v : Int) : Int := if outV S v = true then (S.code.length : Int) else lastR S S.code.length v
def valsO (S : Sv) (k : Nat) : List Int := ((List.range S.ins.toNat).map fun (r : Nat) => -1 - (r : Int)) ++ (-1000 :: ((List.range k).filter fun j => nd S.need j).map fun (j : Nat) => (j : Int))
def aliveR (S : Sv) (k : Nat) : List Int := (valsO S k).filter fun w => decide ((k : Int) ≤ untilR S w)
def restR (S : Sv) (k : Nat) : List Int := (aliveR S k).filter fun w => decide (untilR S w ≠ k)
theorem lastR_lt (S : Sv) (v : Int) : ∀ k : Nat, lastR S k v < k
  | 0 => by simp [lastR]
  | k + 1 => by
    rw [lastR]
    have := lastR_lt S v k
    split <;> omega
theorem lastR_ask {S : Sv} {v : Int} {j : Nat} (h : askV S j v = true) : ∀ {k : Nat}, j < k → (j : Int) ≤ lastR S k v
  | 0, hj => by omega
  | k + 1, hj => by
    rw [lastR]
    by_cases e : j = k
    · subst e; rw [if_pos h]; exact Int.le_refl _
    · have := lastR_ask h (k := k) (by omega)
      split <;> omega
theorem lastR_eq {S : Sv} {v : Int} {j : Nat} : ∀ {k : Nat}, lastR S k v = j → askV S j v = true ∧ j < k
  | 0, h => by rw [lastR] at h; omega
  | k + 1, h => by
    rw [lastR] at h
    split at h
    · rename_i ha
      have : j = k := by omega
      subst this
      exact ⟨ha, by omega⟩
    · have := lastR_eq h
      exact ⟨this.1, by omega⟩
theorem until_le (S : Sv) (v : Int) : untilR S v ≤ S.code.length := by
  unfold untilR
  have := lastR_lt S v S.code.length
  split <;> omega
theorem until_ask {S : Sv} {v : Int} {j : Nat} (h : askV S j v = true) (hj : j < S.code.length) : (j : Int) ≤ untilR S v := by
  unfold untilR
  have := lastR_ask h hj
  split <;> omega
theorem until_out {S : Sv} {r : Int} (h : r ∈ S.outs) : untilR S (heldR S S.code.length r) = S.code.length := by
  unfold untilR
  rw [if_pos]
  unfold outV
  rw [List.any_eq_true]
  exact ⟨r, h, by simp⟩
theorem ask_of_until {S : Sv} {v : Int} {j : Nat} (hj : j < S.code.length) (h : untilR S v = j) : askV S j v = true := by
  unfold untilR at h
  split at h
  · omega
  · exact (lastR_eq h).1
theorem out_of_until {S : Sv} {v : Int} (h : untilR S v = S.code.length) : outV S v = true := by
  unfold untilR at h
  split at h
  · assumption
  · have := lastR_lt S v S.code.length; omega
theorem mem_valsO {S : Sv} {k : Nat} {w : Int} : w ∈ valsO S k ↔ (∃ r : Nat, r < S.ins.toNat ∧ w = -1 - (r : Int)) ∨ w = -1000 ∨ (∃ j : Nat, j < k ∧ nd S.need j = true ∧ w = j) := by
  simp only [valsO, List.mem_append, List.mem_map, List.mem_range, List.mem_cons, List.mem_filter]
  constructor
  · rintro (⟨r, h, rfl⟩ | h | ⟨j, ⟨h1, h2⟩, rfl⟩)
    · exact .inl ⟨r, h, rfl⟩
    · exact .inr (.inl h)
    · exact .inr (.inr ⟨j, h1, h2, rfl⟩)
  · rintro (⟨r, h, rfl⟩ | h | ⟨j, h1, h2, rfl⟩)
    · exact .inl ⟨r, h, rfl⟩
    · exact .inr (.inl h)
    · exact .inr (.inr ⟨j, ⟨h1, h2⟩, rfl⟩)
theorem vals_lt {S : Sv} {k : Nat} {w : Int} (h : w ∈ valsO S k) : w < k := by
  rcases mem_valsO.1 h with ⟨r, h, rfl⟩ | h | ⟨j, h1, h2, rfl⟩ <;> omega
theorem vals_mono {S : Sv} {k j : Nat} {w : Int} (h : w ∈ valsO S k) (hj : k ≤ j) : w ∈ valsO S j := by
  rw [mem_valsO] at h ⊢
  rcases h with h | h | ⟨i, h1, h2, rfl⟩
  · exact .inl h
  · exact .inr (.inl h)
  · exact .inr (.inr ⟨i, by omega, h2, rfl⟩)
theorem held_mem {S : Sv} {r : Int} (hr : 0 ≤ r) : ∀ k, heldR S k r ∈ valsO S k
  | 0 => by
    rw [heldR, mem_valsO]
    split
    · exact .inl ⟨r.toNat, by omega, by omega⟩
    · exact .inr (.inl rfl)
  | k + 1 => by
    rw [heldR]
    split
    · rename_i h
      exact mem_valsO.2 (.inr (.inr ⟨k, by omega, h.1, rfl⟩))
    · exact vals_mono (held_mem hr k) (by omega)
theorem vals_succ_no {S : Sv} {k : Nat} (hn : nd S.need k = false) : valsO S (k + 1) = valsO S k := by
  simp [valsO, List.range_succ, List.filter_append, hn]
theorem vals_succ {S : Sv} {k : Nat} (hn : nd S.need k = true) : valsO S (k + 1) = valsO S k ++ [(k : Int)] := by
  simp [valsO, List.range_succ, List.filter_append, hn]
theorem alive_succ_no {S : Sv} {k : Nat} (hk : k < S.code.length) (hn : nd S.need k = false) : aliveR S (k + 1) = aliveR S k := by
  unfold aliveR
  rw [vals_succ_no hn]
  apply List.filter_congr
  intro w _
  have : untilR S w ≠ k := fun h => by
    have := ask_of_until hk h
    simp [askV, hn] at this
  rw [decide_eq_decide]
  omega
theorem alive_succ {S : Sv} {k : Nat} (hn : nd S.need k = true) (hu : (k : Int) < untilR S k) : aliveR S (k + 1) = restR S k ++ [(k : Int)] := by
  unfold restR aliveR
  rw [vals_succ hn, List.filter_append, List.filter_filter]
  congr 1
  · apply List.filter_congr
    intro w _
    rw [Bool.eq_iff_iff, Bool.and_eq_true, decide_eq_true_eq, decide_eq_true_eq, decide_eq_true_eq]
    omega
  · rw [List.filter_cons, if_pos (by simp; omega)]; rfl
theorem mem_alive {S : Sv} {k : Nat} {w : Int} : w ∈ aliveR S k ↔ w ∈ valsO S k ∧ (k : Int) ≤ untilR S w := by simp [aliveR]
theorem mem_rest {S : Sv} {k : Nat} {w : Int} : w ∈ restR S k ↔ w ∈ valsO S k ∧ (k : Int) < untilR S w := by
  simp only [restR, List.mem_filter, mem_alive, decide_eq_true_eq]
  constructor
  · rintro ⟨⟨a, b⟩, c⟩; exact ⟨a, by omega⟩
  · rintro ⟨a, b⟩; exact ⟨⟨a, by omega⟩, by omega⟩
def mexF (l : List Int) : Nat → Nat → Nat
  | 0, r => r
  | f + 1, r => if (r : Int) ∈ l then mexF l f (r + 1) else r
def mex (l : List Int) : Nat := mexF l l.length 0
theorem all_len : ∀ (r : Nat) (l : List Int), (∀ i : Nat, i < r → (i : Int) ∈ l) → r ≤ l.length
  | 0, _, _ => Nat.zero_le _
  | r + 1, l, h => by
    have hm := h r (by omega)
    have h1 := all_len r (l.erase (r : Int)) fun i hi => (List.mem_erase_of_ne (by omega)).2 (h i (by omega))
    rw [List.length_erase_of_mem hm] at h1
    have := List.length_pos_of_mem hm
    omega
theorem mexF_spec (l : List Int) : ∀ (f r : Nat), (∀ i : Nat, i < r → (i : Int) ∈ l) → l.length ≤ r + f → ((mexF l f r : Nat) : Int) ∉ l ∧ ∀ i : Nat, i < mexF l f r → (i : Int) ∈ l
  | 0, r, h, hl => by
    refine ⟨fun hm => ?_, h⟩
    have := all_len (r + 1) l fun i hi => by
      by_cases e : i = r
      · subst e; exact hm
      · exact h i (by omega)
    omega
  | f + 1, r, h, hl => by
    rw [mexF]
    split
    · rename_i hm
      exact mexF_spec l f (r + 1) (fun i hi => by
        by_cases e : i = r
        · subst e; exact hm
        · exact h i (by omega)) (by omega)
    · rename_i hm
      exact ⟨hm, h⟩
theorem mex_not (l : List Int) : ((mex l : Nat) : Int) ∉ l := (mexF_spec l l.length 0 (fun i hi => by omega) (by omega)).1
theorem mex_all (l : List Int) {i : Nat} (h : i < mex l) : (i : Int) ∈ l := (mexF_spec l l.length 0 (fun i hi => by omega) (by omega)).2 i h
theorem mex_le (l : List Int) : mex l ≤ l.length := all_len _ l fun _ h => mex_all l h
theorem mex_unique {l : List Int} {m : Nat} (h1 : (m : Int) ∉ l) (h2 : ∀ i : Nat, i < m → (i : Int) ∈ l) : mex l = m := by
  by_cases h : mex l < m
  · exact absurd (h2 _ h) (mex_not l)
  · by_cases h' : m < mex l
    · exact absurd (mex_all l h') h1
    · omega
def gP (S : Sv) : Nat → Int → Int
  | 0, w => if w = -1000 then S.ins else -1 - w
  | k + 1, w => if nd S.need k = true ∧ w = k then ((mex ((restR S k).map (gP S k)) : Nat) : Int) else gP S k w
theorem gP0_none (S : Sv) : gP S 0 (-1000) = S.ins := if_pos rfl
theorem gP0_in {S : Sv} (h : S.ins ≤ 900) {r : Nat} (hr : r < S.ins.toNat) : gP S 0 (-1 - (r : Int)) = r := by
  rw [gP, if_neg (by omega)]; omega
theorem gP_new {S : Sv} {k : Nat} (hn : nd S.need k = true) : gP S (k + 1) k = ((mex ((restR S k).map (gP S k)) : Nat) : Int) := by rw [gP, if_pos ⟨hn, rfl⟩]
theorem gP_old {S : Sv} {k : Nat} {w : Int} (h : w ≠ k) : gP S (k + 1) w = gP S k w := by rw [gP, if_neg fun x => h x.2]
def gI (S : Sv) (k : Nat) : Ins :=
  ⟨(nth S.code k).op, gP S (k + 1) k, gP S k (heldR S k (nth S.code k).a), if (nth S.code k).op = 3 ∨ (nth S.code k).op = 4 then gP S k (heldR S k (nth S.code k).b) else (nth S.code k).b, (nth S.code k).c⟩
def gC (S : Sv) : Nat → List Ins
  | 0 => []
  | k + 1 => if nd S.need k = true then gC S k ++ [gI S k] else gC S k
def gR (S : Sv) : Nat → Int
  | 0 => if 0 ≤ untilR S (-1000) then S.ins + 1 else S.ins
  | k + 1 => if nd S.need k = true then (if gP S (k + 1) k + 1 > gR S k then gP S (k + 1) k + 1 else gR S k) else gR S k
def gOuts (S : Sv) : List Int := S.outs.map fun r => gP S S.code.length (heldR S S.code.length r)
def greedy (S : Sv) : Pg := ⟨S.ins, gR S S.code.length, gC S S.code.length, gOuts S⟩
structure SvOk (S : Sv) : Prop where
  ins : 0 ≤ S.ins
  use : ∀ k : Nat, k < S.code.length → nd S.need k = true → (k : Int) < untilR S k
  small : S.ins ≤ 900
theorem gP_nonneg {S : Sv} (h : SvOk S) : ∀ (k : Nat) {w : Int}, w ∈ valsO S k → 0 ≤ gP S k w
  | 0, w, hw => by
    have := h.ins
    rw [gP]
    rcases mem_valsO.1 hw with ⟨r, hr, rfl⟩ | rfl | ⟨j, hj, _⟩
    · split <;> omega
    · rw [if_pos rfl]; omega
    · omega
  | k + 1, w, hw => by
    rw [gP]
    split
    · omega
    · rename_i hne
      refine gP_nonneg h k ?_
      rw [mem_valsO] at hw ⊢
      rcases hw with hw | hw | ⟨j, h1, h2, rfl⟩
      · exact .inl hw
      · exact .inr (.inl hw)
      · by_cases e : j = k
        · subst e; exact absurd ⟨h2, rfl⟩ hne
        · exact .inr (.inr ⟨j, by omega, h2, rfl⟩)
theorem rest_alive {S : Sv} {k : Nat} {w : Int} (h : w ∈ restR S k) : w ∈ aliveR S k := (List.mem_filter.1 h).1
theorem alive_vals {S : Sv} {k : Nat} {w : Int} (h : w ∈ aliveR S k) : w ∈ valsO S k := (mem_alive.1 h).1
theorem gP_inj {S : Sv} (h : SvOk S) : ∀ (k : Nat), k ≤ S.code.length → ∀ {w v : Int}, w ∈ aliveR S k → v ∈ aliveR S k → gP S k w = gP S k v → w = v
  | 0, _, w, v, hw, hv, e => by
    have hs := h.small
    have h1 := mem_valsO.1 (alive_vals hw)
    have h2 := mem_valsO.1 (alive_vals hv)
    rcases h1 with ⟨r, hr, rfl⟩ | rfl | ⟨j, hj, _⟩
    · rw [gP0_in hs hr] at e
      rcases h2 with ⟨q, hq, rfl⟩ | rfl | ⟨j, hj, _⟩
      · rw [gP0_in hs hq] at e; omega
      · rw [gP0_none] at e; omega
      · omega
    · rw [gP0_none] at e
      rcases h2 with ⟨q, hq, rfl⟩ | rfl | ⟨j, hj, _⟩
      · rw [gP0_in hs hq] at e; omega
      · rfl
      · omega
    · omega
  | k + 1, hk, w, v, hw, hv, e => by
    by_cases hn : nd S.need k = true
    · rw [alive_succ hn (h.use k (by omega) hn), List.mem_append, List.mem_singleton] at hw hv
      have hnot := mex_not ((restR S k).map (gP S k))
      have key : ∀ {x : Int}, x ∈ restR S k → gP S (k + 1) x = gP S k x := fun {x} hx => gP_old (by have := vals_lt (alive_vals (rest_alive hx)); omega)
      rcases hw with hw | rfl
      · rcases hv with hv | rfl
        · rw [key hw, key hv] at e
          exact gP_inj h k (by omega) (rest_alive hw) (rest_alive hv) e
        · rw [key hw, gP_new hn] at e
          exact absurd (List.mem_map.2 ⟨w, hw, e⟩) hnot
      · rcases hv with hv | rfl
        · rw [key hv, gP_new hn] at e
          exact absurd (List.mem_map.2 ⟨v, hv, e.symm⟩) hnot
        · rfl
    · have hn' : nd S.need k = false := by simpa using hn
      rw [alive_succ_no (by omega) hn'] at hw hv
      have key : ∀ {x : Int}, x ∈ aliveR S k → gP S (k + 1) x = gP S k x := fun {x} hx => gP_old (by have := vals_lt (alive_vals hx); omega)
      rw [key hw, key hv] at e
      exact gP_inj h k (by omega) hw hv e
end Go.Proofs.Sw
namespace Go.Proofs.Sw
def cnt (S : Sv) (k : Nat) : Nat := ((List.range k).filter fun j => nd S.need j).length
theorem cnt_succ {S : Sv} {k : Nat} (hn : nd S.need k = true) : cnt S (k + 1) = cnt S k + 1 := by simp [cnt, List.range_succ, List.filter_append, hn]
theorem cnt_succ_no {S : Sv} {k : Nat} (hn : nd S.need k = false) : cnt S (k + 1) = cnt S k := by simp [cnt, List.range_succ, List.filter_append, hn]
theorem cnt_step (S : Sv) (k : Nat) : cnt S k ≤ cnt S (k + 1) := by
  cases hn : nd S.need k
  · rw [cnt_succ_no hn]; exact Nat.le_refl _
  · rw [cnt_succ hn]; omega
theorem cnt_mono {S : Sv} {j : Nat} : ∀ k, j ≤ k → cnt S j ≤ cnt S k
  | 0, h => by rw [show j = 0 by omega]; exact Nat.le_refl _
  | k + 1, h => by
    by_cases e : j = k + 1
    · rw [e]; exact Nat.le_refl _
    · exact Nat.le_trans (cnt_mono k (by omega)) (cnt_step S k)
theorem cnt_lt {S : Sv} {j k : Nat} (hn : nd S.need j = true) (h : j < k) : cnt S j < cnt S k := by
  have := cnt_mono (S := S) (j := j + 1) k h
  rw [cnt_succ hn] at this
  omega
theorem cnt_le (S : Sv) (k : Nat) : cnt S k ≤ k := by
  unfold cnt
  have := List.length_filter_le (fun j => nd S.need j) (List.range k)
  simpa using this
theorem gC_succ {S : Sv} {k : Nat} (hn : nd S.need k = true) : gC S (k + 1) = gC S k ++ [gI S k] := by rw [gC, if_pos hn]
theorem gC_succ_no {S : Sv} {k : Nat} (hn : nd S.need k = false) : gC S (k + 1) = gC S k := by rw [gC, hn, if_neg (by simp)]
theorem gC_length (S : Sv) : ∀ k, (gC S k).length = cnt S k
  | 0 => rfl
  | k + 1 => by
    cases hn : nd S.need k
    · rw [gC_succ_no hn, cnt_succ_no hn, gC_length S k]
    · rw [gC_succ hn, cnt_succ hn, List.length_append, gC_length S k]; rfl
theorem gC_mem {S : Sv} {x : Ins} : ∀ k, x ∈ gC S k → ∃ j, j < k ∧ nd S.need j = true ∧ x = gI S j
  | 0, h => by simp [gC] at h
  | k + 1, h => by
    cases hn : nd S.need k
    · rw [gC_succ_no hn] at h
      obtain ⟨j, h1, h2⟩ := gC_mem k h
      exact ⟨j, by omega, h2⟩
    · rw [gC_succ hn, List.mem_append, List.mem_singleton] at h
      rcases h with h | rfl
      · obtain ⟨j, h1, h2⟩ := gC_mem k h
        exact ⟨j, by omega, h2⟩
      · exact ⟨k, by omega, hn, rfl⟩
theorem gR_step (S : Sv) (k : Nat) : gR S k ≤ gR S (k + 1) := by
  rw [gR]
  split
  · split <;> omega
  · exact Int.le_refl _
theorem gR_mono {S : Sv} {j : Nat} : ∀ k, j ≤ k → gR S j ≤ gR S k
  | 0, h => by rw [show j = 0 by omega]; exact Int.le_refl _
  | k + 1, h => by
    by_cases e : j = k + 1
    · rw [e]; exact Int.le_refl _
    · exact Int.le_trans (gR_mono k (by omega)) (gR_step S k)
theorem gR_new {S : Sv} {k : Nat} (hn : nd S.need k = true) : gP S (k + 1) k < gR S (k + 1) := by
  rw [gR, if_pos hn]
  split <;> omega
theorem gP_lt {S : Sv} (h : SvOk S) : ∀ (k : Nat), k ≤ S.code.length → ∀ {w : Int}, w ∈ aliveR S k → gP S k w < gR S k
  | 0, _, w, hw => by
    have hs := h.small
    obtain ⟨hv, hu⟩ := mem_alive.1 hw
    rw [gR]
    rcases mem_valsO.1 hv with ⟨r, hr, rfl⟩ | rfl | ⟨j, hj, _⟩
    · rw [gP0_in hs hr]
      split <;> omega
    · rw [gP0_none, if_pos (by exact hu)]; omega
    · omega
  | k + 1, hk, w, hw => by
    cases hn : nd S.need k
    · rw [alive_succ_no (by omega) hn] at hw
      have := gP_lt h k (by omega) hw
      have h2 := gR_step S k
      rw [gP_old (by have := vals_lt (alive_vals hw); omega)]
      omega
    · rw [alive_succ hn (h.use k (by omega) hn), List.mem_append, List.mem_singleton] at hw
      rcases hw with hw | rfl
      · have := gP_lt h k (by omega) (rest_alive hw)
        have h2 := gR_step S k
        rw [gP_old (by have := vals_lt (alive_vals (rest_alive hw)); omega)]
        omega
      · exact gR_new hn
theorem nodup_len : ∀ (l m : List Int), l.Nodup → (∀ x ∈ l, x ∈ m) → l.length ≤ m.length
  | [], _, _, _ => Nat.zero_le _
  | x :: l, m, hn, h => by
    obtain ⟨h1, h2⟩ := List.nodup_cons.1 hn
    have hm := h x (by simp)
    have ih := nodup_len l (m.erase x) h2 fun y hy => (List.mem_erase_of_ne (fun e => h1 (by rw [← e]; exact hy))).2 (h y (by simp [hy]))
    rw [List.length_erase_of_mem hm] at ih
    have := List.length_pos_of_mem hm
    rw [List.length_cons]
    omega
theorem vals_nodup {S : Sv} (h : SvOk S) (k : Nat) : (valsO S k).Nodup := by
  have hs := h.small
  have h1 : ((List.range S.ins.toNat).map fun (r : Nat) => -1 - (r : Int)).Nodup := List.Pairwise.map _ (fun a b hab => by omega) List.nodup_range
  have h2 : (((List.range k).filter fun j => nd S.need j).map fun (j : Nat) => (j : Int)).Nodup := List.Pairwise.map _ (fun a b hab => by omega) (List.Pairwise.filter _ List.nodup_range)
  unfold valsO
  rw [List.nodup_append]
  refine ⟨h1, List.nodup_cons.2 ⟨fun hm => ?_, h2⟩, fun a ha b hb => ?_⟩
  · simp only [List.mem_map] at hm
    obtain ⟨j, _, hj⟩ := hm
    omega
  · simp only [List.mem_map, List.mem_range, List.mem_cons] at ha hb
    obtain ⟨r, hr, rfl⟩ := ha
    rcases hb with rfl | ⟨j, _, rfl⟩ <;> omega
structure SvIn (S : Sv) (n : Nat) : Prop where
  asks : ∀ k : Nat, k < S.code.length → nd S.need k = true → ∀ r ∈ asks (nth S.code k), 0 ≤ r ∧ r < (n : Int)
  outs : ∀ r ∈ S.outs, 0 ≤ r ∧ r < (n : Int)
  ins : S.ins ≤ n
theorem held_back {S : Sv} {k : Nat} {r w : Int} (hw : w < k) : ∀ j, k ≤ j → heldR S j r = w → heldR S k r = w
  | 0, h, e => by rw [show k = 0 by omega]; exact e
  | j + 1, h, e => by
    by_cases hk : k = j + 1
    · rw [hk]; exact e
    · rw [heldR] at e
      split at e
      · omega
      · exact held_back hw j (by omega) e
theorem alive_held {S : Sv} {n : Nat} (hi : SvIn S n) {k : Nat} {w : Int} (hw : w ∈ aliveR S k) : ∃ r : Nat, r < n ∧ heldR S k r = w := by
  obtain ⟨hv, hu⟩ := mem_alive.1 hw
  have hlt := vals_lt hv
  have hle := until_le S w
  by_cases e : untilR S w = S.code.length
  · have ho := out_of_until e
    unfold outV at ho
    rw [List.any_eq_true] at ho
    obtain ⟨r, hr, he⟩ := ho
    have := hi.outs r hr
    refine ⟨r.toNat, by omega, ?_⟩
    rw [Int.toNat_of_nonneg this.1]
    exact held_back hlt S.code.length (by omega) (by simpa using he)
  · obtain ⟨u, hU⟩ : ∃ u : Nat, untilR S w = u := ⟨(untilR S w).toNat, by omega⟩
    have ha := ask_of_until (by omega) hU
    unfold askV at ha
    rw [Bool.and_eq_true, List.any_eq_true] at ha
    obtain ⟨hn, r, hr, he⟩ := ha
    have := hi.asks u (by omega) hn r hr
    refine ⟨r.toNat, by omega, ?_⟩
    rw [Int.toNat_of_nonneg this.1]
    exact held_back hlt u (by omega) (by simpa using he)
theorem alive_le {S : Sv} (h : SvOk S) {n : Nat} (hi : SvIn S n) (k : Nat) : (aliveR S k).length ≤ n := by
  have := nodup_len (aliveR S k) ((List.range n).map fun (r : Nat) => heldR S k r) (List.Pairwise.filter _ (vals_nodup h k)) fun w hw => by
    obtain ⟨r, h1, h2⟩ := alive_held hi hw
    exact List.mem_map.2 ⟨r, List.mem_range.2 h1, h2⟩
  simpa using this
theorem gP_new_le {S : Sv} (h : SvOk S) {k : Nat} (hk : k < S.code.length) (hn : nd S.need k = true) : gP S (k + 1) k + 1 ≤ (aliveR S (k + 1)).length := by
  rw [gP_new hn, alive_succ hn (h.use k hk hn), List.length_append]
  have := mex_le ((restR S k).map (gP S k))
  rw [List.length_map] at this
  simp only [List.length_cons, List.length_nil]
  omega
theorem gR_zero {S : Sv} (h : SvOk S) {n : Nat} (hi : SvIn S n) : S.ins ≤ gR S 0 ∧ gR S 0 ≤ n ∧ gR S 0 ≤ S.ins + 1 := by
  have := hi.ins
  have hs := h.small
  rw [gR]
  split
  · rename_i hu
    obtain ⟨r, h1, h2⟩ := alive_held hi (k := 0) (w := -1000) (mem_alive.2 ⟨mem_valsO.2 (.inr (.inl rfl)), hu⟩)
    rw [heldR] at h2
    split at h2 <;> omega
  · omega
theorem gR_le {S : Sv} (h : SvOk S) {n : Nat} (hi : SvIn S n) : ∀ k, k ≤ S.code.length → gR S k ≤ n
  | 0, _ => (gR_zero h hi).2.1
  | k + 1, hk => by
    have ih := gR_le h hi k (by omega)
    rw [gR]
    split
    · rename_i hn
      have h1 := gP_new_le h (by omega) hn
      have h2 := alive_le h hi (k + 1)
      split <;> omega
    · exact ih
theorem need_get (outs : List Int) : ∀ (code : List Ins) (k : Nat), k < code.length → nd (needR outs code) k = needF outs (nth code k).to (code.drop (k + 1)) (needR outs (code.drop (k + 1)))
  | [], k, h => by simp at h
  | i :: rest, 0, h => rfl
  | i :: rest, k + 1, h => by
    have := need_get outs rest k (by simpa using h)
    exact this
theorem any_mem {l : List Int} {r : Int} : (l.any (· == r)) = true ↔ r ∈ l := by
  rw [List.any_eq_true]
  constructor
  · rintro ⟨x, h1, h2⟩
    have : x = r := by simpa using h2
    exact this ▸ h1
  · intro h
    exact ⟨r, h, by simp⟩
theorem drop_nth {code : List Ins} {k : Nat} (h : k < code.length) : code.drop k = nth code k :: code.drop (k + 1) := by
  rw [List.drop_eq_getElem_cons h]
  congr 1
  rw [nth, List.getD_eq_getElem?_getD, List.getElem?_eq_getElem h]; rfl
theorem use_aux {S : Sv} (hS : S.need = needR S.outs S.code) : ∀ (d j : Nat), j + d = S.code.length → ∀ (r : Int), needF S.outs r (S.code.drop j) (needR S.outs (S.code.drop j)) = true → (j : Int) ≤ untilR S (heldR S j r)
  | 0, j, h, r, hf => by
    have : j = S.code.length := by omega
    subst this
    rw [List.drop_length, needR, needF] at hf
    rw [until_out (any_mem.1 hf)]
    exact Int.le_refl _
    all_goals simp
  | d + 1, j, h, r, hf => by
    have hj : j < S.code.length := by omega
    rw [drop_nth hj, needR, needF, Bool.or_eq_true, Bool.and_eq_true, Bool.and_eq_true] at hf
    rcases hf with ⟨h1, h2⟩ | ⟨h1, h2⟩
    · refine until_ask ?_ hj
      unfold askV
      rw [Bool.and_eq_true, hS, need_get _ _ _ hj]
      refine ⟨h1, ?_⟩
      rw [List.any_eq_true]
      exact ⟨r, any_mem.1 h2, by simp⟩
    · have ih := use_aux hS d (j + 1) (by omega) r h2
      have hne : ¬ (nth S.code j).to = r := by simpa using h1
      rw [heldR, if_neg fun x => hne x.2] at ih
      omega
theorem svOk_of {S : Sv} (hS : S.need = needR S.outs S.code) (h0 : 0 ≤ S.ins) (h1 : S.ins ≤ 900) : SvOk S := by
  refine ⟨h0, fun k hk hn => ?_, h1⟩
  have h2 := hn
  rw [hS, need_get _ _ _ hk] at h2
  have := use_aux hS (S.code.length - (k + 1)) (k + 1) (by omega) _ h2
  rw [heldR, if_pos ⟨hn, rfl⟩] at this
  omega
end Go.Proofs.Sw
namespace Go.Proofs.Sw
structure SvOp (S : Sv) : Prop where
  ops : ∀ k : Nat, k < S.code.length → nd S.need k = true → 1 ≤ (nth S.code k).op ∧ (nth S.code k).op ≤ 8
theorem asked_alive {S : Sv} {n : Nat} (hi : SvIn S n) {j : Nat} (hj : j < S.code.length) (hn : nd S.need j = true) {r : Int} (hr : r ∈ asks (nth S.code j)) : heldR S j r ∈ aliveR S j := by
  refine mem_alive.2 ⟨held_mem (hi.asks j hj hn r hr).1 j, until_ask ?_ hj⟩
  unfold askV
  rw [hn, Bool.true_and, List.any_eq_true]
  exact ⟨r, hr, by simp⟩
theorem out_alive {S : Sv} {n : Nat} (hi : SvIn S n) {r : Int} (hr : r ∈ S.outs) : heldR S S.code.length r ∈ aliveR S S.code.length := by
  refine mem_alive.2 ⟨held_mem (hi.outs r hr).1 _, ?_⟩
  rw [until_out hr]
  exact Int.le_refl _
theorem ask_a {x : Ins} (h : 1 ≤ x.op ∧ x.op ≤ 8) : x.a ∈ asks x := by
  by_cases h2 : x.op = 3 ∨ x.op = 4
  · unfold asks; rw [if_pos h2]; simp
  · unfold asks; rw [if_neg h2, if_pos h]; simp
theorem ask_b {x : Ins} (h : x.op = 3 ∨ x.op = 4) : x.b ∈ asks x := by
  unfold asks
  rw [if_pos h]; simp
end Go.Proofs.Sw
namespace Go.Proofs.Sw
open Go.Ab
variable [Globals]
def pk0 (p : Pg) : Pk :=
  let g := p.ins.toNat
  let unt := untM p
  if 0 ≤ unt.getD g 0 then ⟨layP g ++ [(p.ins, (g : Int))], layF unt g ++ [decide (unt.getD g 0 < 0)], [], (g : Int) + 1⟩ else ⟨layP g, layF unt g, [], g⟩
def pkEnd (p : Pg) : Pk := pkAt (lvEnd p) (untM p) (pk0 p) (neededM p) p.code p.code.length
def packM (p : Pg) : Pg := ⟨p.ins, (pkEnd p).regs, (pkEnd p).code, atL (pkEnd p).at_ (lOuts p)⟩
end Go.Proofs.Sw
namespace Go.Proofs.Sw
open Go.Ab
variable [Globals]
def svP (p : Pg) : Sv := ⟨p.ins, neededM p, p.code, p.outs⟩
def ph (S : Sv) (w : Int) : Int := if w = -1000 then S.ins else if w < 0 then -1 - w else S.ins + 1 + cnt S w.toNat
theorem ph_none (S : Sv) : ph S (-1000) = S.ins := if_pos rfl
theorem ph_in {S : Sv} (h : SvOk S) {r : Nat} (hr : r < S.ins.toNat) : ph S (-1 - (r : Int)) = r := by
  have := h.small
  rw [ph, if_neg (by omega), if_pos (by omega)]; omega
theorem ph_nat (S : Sv) (j : Nat) : ph S (j : Int) = S.ins + 1 + cnt S j := by
  rw [ph, if_neg (by omega), if_neg (by omega), Int.toNat_natCast]
theorem ph_range {S : Sv} (h : SvOk S) {k : Nat} {w : Int} (hw : w ∈ valsO S k) : 0 ≤ ph S w ∧ ph S w < S.ins + 1 + cnt S k := by
  have h0 := h.ins
  rcases mem_valsO.1 hw with ⟨r, hr, rfl⟩ | rfl | ⟨j, h1, h2, rfl⟩
  · rw [ph_in h hr]; omega
  · rw [ph_none]; omega
  · have := cnt_lt (S := S) h2 h1
    rw [ph_nat]; omega
theorem ph_inj {S : Sv} (h : SvOk S) {k : Nat} {w v : Int} (hw : w ∈ valsO S k) (hv : v ∈ valsO S k) (e : ph S w = ph S v) : w = v := by
  have h0 := h.ins
  rcases mem_valsO.1 hw with ⟨r, hr, rfl⟩ | rfl | ⟨j, h1, h2, rfl⟩
  · rw [ph_in h hr] at e
    rcases mem_valsO.1 hv with ⟨q, hq, rfl⟩ | rfl | ⟨i, h3, h4, rfl⟩
    · rw [ph_in h hq] at e; omega
    · rw [ph_none] at e; omega
    · rw [ph_nat] at e; omega
  · rw [ph_none] at e
    rcases mem_valsO.1 hv with ⟨q, hq, rfl⟩ | rfl | ⟨i, h3, h4, rfl⟩
    · rw [ph_in h hq] at e; omega
    · rfl
    · rw [ph_nat] at e; omega
  · rw [ph_nat] at e
    rcases mem_valsO.1 hv with ⟨q, hq, rfl⟩ | rfl | ⟨i, h3, h4, rfl⟩
    · rw [ph_in h hq] at e; omega
    · rw [ph_none] at e; omega
    · rw [ph_nat] at e
      by_cases hij : i < j
      · have := cnt_lt (S := S) h4 hij; omega
      · by_cases hji : j < i
        · have := cnt_lt (S := S) h2 hji; omega
        · rw [show i = j by omega]
theorem nth_get {code : List Ins} {k : Nat} (h : k < code.length) : nth code k = code[k] := by
  rw [nth, List.getD_eq_getElem?_getD, List.getElem?_eq_getElem h]; rfl
def en (x : Int) : Int := if x < 0 then -1 else x
theorem last_young {S : Sv} {n : Nat} (hi : SvIn S n) {v : Nat} : ∀ j, j ≤ v → j ≤ S.code.length → lastR S j v = -2000
  | 0, _, _ => rfl
  | j + 1, h, hj => by
    have ih := last_young hi (v := v) j (by omega) (by omega)
    rw [lastR, ih, if_neg]
    intro ha
    unfold askV at ha
    rw [Bool.and_eq_true, List.any_eq_true] at ha
    obtain ⟨hn, r, hr, he⟩ := ha
    have he' : heldR S j r = v := by simpa using he
    have := vals_lt (held_mem (S := S) (hi.asks j (by omega) hn r hr).1 j)
    omega
theorem askV_iff {S : Sv} {k : Nat} (hn : nd S.need k = true) (ho : 1 ≤ (nth S.code k).op ∧ (nth S.code k).op ≤ 8) (w : Int) :
    askV S k w = true ↔ heldR S k (nth S.code k).a = w ∨ (if (nth S.code k).op = 3 ∨ (nth S.code k).op = 4 then heldR S k (nth S.code k).b else heldR S k (nth S.code k).a) = w := by
  unfold askV
  rw [hn, Bool.true_and]
  by_cases h : (nth S.code k).op = 3 ∨ (nth S.code k).op = 4
  · rw [asks_two h, if_pos h]; simp
  · rw [asks_one h ho, if_neg h]; simp
structure PgOk (p : Pg) : Prop where
  ok : SvOk (svP p)
  inn : SvIn (svP p) p.regs.toNat
  op : SvOp (svP p)
  ins : 0 < p.ins
  to : ∀ k : Nat, k < p.code.length → 0 ≤ (nth p.code k).to ∧ (nth p.code k).to < p.regs
  regs : p.ins ≤ p.regs
  regs2 : p.regs ≤ 128
theorem pgOk {p : Pg} (hr : rightM p = true) : PgOk p := by
  have hr' := hr
  simp only [rightM, headM, Bool.and_eq_true, decide_eq_true_eq] at hr'
  obtain ⟨⟨hh, ho⟩, hc⟩ := hr'
  obtain ⟨ins, regs, code, outs⟩ := p
  simp only at hh ho hc
  obtain ⟨n, rfl⟩ : ∃ n : Nat, regs = n := ⟨regs.toNat, by omega⟩
  have hm : ∀ k, k < code.length → mayM (nth code k) n = true := fun k hk => by
    rw [nth_get hk]
    exact List.all_eq_true.1 hc _ (List.getElem_mem hk)
  refine ⟨svOk_of (neededM_R n ins code outs hr).symm (by show 0 ≤ ins; omega) (by show ins ≤ 900; omega), ⟨fun k hk _ r h => ?_, fun r h => ?_, ?_⟩, ⟨fun k hk _ => ?_⟩, by show 0 < ins; omega, fun k hk => ?_, by simp only; omega, by simp only; omega⟩
  · have := (may_asks (hm k hk)).2 r h
    simpa using this
  · have := List.all_eq_true.1 ho r h
    have h2 : 0 ≤ r ∧ r < (n : Int) := by simpa using this
    simpa using h2
  · show ins ≤ ((n : Int).toNat : Int)
    omega
  · exact (mayM_facts (hm k hk)).1
  · exact (may_asks (hm k hk)).1
structure LvRel (S : Sv) (n k : Nat) (q : Lv) : Prop where
  len : (q.unt.length : Int) = S.ins + 1 + cnt S k
  hlen : q.held.length = n
  held : ∀ r : Nat, r < n → q.held.getD r 0 = ph S (heldR S k r)
  unt : ∀ w ∈ valsO S k, q.unt.getD (ph S w).toNat 0 = en (lastR S k w)
theorem lv_rel {p : Pg} (hp : PgOk p) : ∀ k, k ≤ p.code.length → LvRel (svP p) p.regs.toNat k (lvAt (lvStart p.ins p.regs.toNat p.code.length) (neededM p) p.code k)
  | 0, _ => by
    have h0 := hp.ok.ins
    have hs := hp.ok.small
    have e0 : (svP p).ins = p.ins := rfl
    rw [e0] at h0 hs
    refine ⟨?_, startM_length _ _, fun r hr => ?_, fun w hw => ?_⟩
    · show ((List.replicate (p.ins.toNat + 1) (-1 : Int)).length : Int) = p.ins + 1 + ((cnt (svP p) 0 : Nat) : Int)
      rw [List.length_replicate, show cnt (svP p) 0 = 0 from rfl]; omega
    · show (startM p.ins p.regs.toNat).getD r 0 = _
      have e1 : (startM p.ins p.regs.toNat).getD r 0 = if p.ins < (r : Int) then p.ins else (r : Int) := by
        simp [startM, List.getD_eq_getElem?_getD, hr]
      rw [e1, heldR, e0]
      by_cases h : (r : Int) < p.ins
      · rw [if_neg (by omega), if_pos h, ph_in hp.ok (by rw [e0]; omega)]
      · rw [if_neg h, ph_none, e0]
        split <;> omega
    · show (List.replicate (p.ins.toNat + 1) (-1 : Int)).getD _ 0 = _
      have := ph_range hp.ok hw
      rw [e0, show cnt (svP p) 0 = 0 from rfl] at this
      rw [lastR, List.getD_eq_getElem?_getD, List.getElem?_replicate, if_pos (by omega)]; rfl
  | k + 1, hk => by
    obtain ⟨h1, h2, h3, h4⟩ := lv_rel hp k (by omega)
    have hc : (svP p).code = p.code := rfl
    have hnd : (svP p).need = neededM p := rfl
    rw [lvAt_succ (by omega)]
    cases hn : nd (svP p).need k
    · have hn' : ¬ (neededM p).getD k false = true := by rw [← hnd]; show ¬ nd _ k = true; rw [hn]; simp
      rw [if_neg hn']
      refine ⟨by rw [cnt_succ_no hn]; exact h1, h2, fun r hr => ?_, fun w hw => ?_⟩
      · rw [heldR, hn, if_neg (by simp)]; exact h3 r hr
      · rw [vals_succ_no hn] at hw
        have : askV (svP p) k w = false := by simp [askV, hn]
        rw [lastR, this, if_neg (by simp)]
        exact h4 w hw
    · have hn' : (neededM p).getD k false = true := hn
      rw [if_pos hn', ← nth_get (show k < p.code.length by omega)]
      obtain ⟨x, hx⟩ : ∃ x, x = nth p.code k := ⟨_, rfl⟩
      have ht := hp.to k (by omega)
      have hop := hp.op.ops k (by rw [hc]; omega) hn
      have hasks := hp.inn.asks k (by rw [hc]; omega) hn
      rw [hc, ← hx] at hop hasks
      rw [← hx] at ht ⊢
      obtain ⟨q, hq⟩ : ∃ q, q = lvAt (lvStart p.ins p.regs.toNat p.code.length) (neededM p) p.code k := ⟨_, rfl⟩
      rw [← hq] at h1 h2 h3 h4 ⊢
      have hra := hasks _ (ask_a hop)
      have hva : q.held.getD x.a.toNat 0 = ph (svP p) (heldR (svP p) k x.a) := by
        rw [h3 _ (by omega), Int.toNat_of_nonneg hra.1]
      have hma : heldR (svP p) k x.a ∈ valsO (svP p) k := held_mem hra.1 k
      obtain ⟨vb, hvb, hmb, hbe⟩ : ∃ vb, lvB q.held x = ph (svP p) vb ∧ vb ∈ valsO (svP p) k ∧ vb = (if x.op = 3 ∨ x.op = 4 then heldR (svP p) k x.b else heldR (svP p) k x.a) := by
        unfold lvB
        by_cases h34 : x.op = 3 ∨ x.op = 4
        · have hrb := hasks _ (ask_b h34)
          rw [if_pos h34, if_pos h34]
          exact ⟨_, by rw [h3 _ (by omega), Int.toNat_of_nonneg hrb.1], held_mem hrb.1 k, rfl⟩
        · rw [if_neg h34, if_neg h34]
          exact ⟨_, hva, hma, rfl⟩
      have e0 : (svP p).ins = p.ins := rfl
      have h0 := hp.ok.ins
      refine ⟨by rw [lvStep_unt, cnt_succ hn]; omega, by simp [lvStep, h2], fun r hr => ?_, fun w hw => ?_⟩
      · show (q.held.set x.to.toNat q.unt.length).getD r 0 = _
        rw [getD_set, heldR, hc, ← hx]
        by_cases e : x.to = r
        · rw [if_pos ⟨by omega, by omega⟩, if_pos ⟨hn, e⟩, ph_nat, h1]
        · rw [if_neg (by omega), if_neg (fun h => e h.2)]
          exact h3 r hr
      · show (((q.unt.set (q.held.getD x.a.toNat 0).toNat k).set (lvB q.held x).toNat k) ++ [-1]).getD (ph (svP p) w).toNat 0 = _
        rw [vals_succ hn, List.mem_append, List.mem_singleton] at hw
        rcases hw with hw | rfl
        · have hrg := ph_range hp.ok hw
          have hiff := askV_iff (S := svP p) (k := k) hn (by rw [hc, ← hx]; exact hop) w
          rw [hc, ← hx, ← hbe] at hiff
          have hlt : (ph (svP p) w).toNat < q.unt.length := by omega
          rw [List.getD_eq_getElem?_getD, List.getElem?_append_left (by simpa using hlt), ← List.getD_eq_getElem?_getD, getD_set, getD_set, lastR, hva, hvb]
          have ra := ph_range hp.ok hma
          have rb := ph_range hp.ok hmb
          by_cases eb : vb = w
          · subst eb
            rw [if_pos ⟨rfl, by simpa using hlt⟩, if_pos (hiff.2 (.inr rfl)), en, if_neg (by omega)]
          · have nb : ¬ ((ph (svP p) vb).toNat = (ph (svP p) w).toNat ∧ (ph (svP p) vb).toNat < (q.unt.set (ph (svP p) (heldR (svP p) k x.a)).toNat ↑k).length) := fun h => eb (ph_inj hp.ok hmb hw (by omega))
            rw [if_neg nb]
            by_cases ea : heldR (svP p) k x.a = w
            · rw [ea, if_pos ⟨rfl, hlt⟩, if_pos (hiff.2 (.inl ea)), en, if_neg (by omega)]
            · rw [if_neg (fun h => ea (ph_inj hp.ok hma hw (by omega))), if_neg (fun h => by
                rcases hiff.1 h with h | h
                · exact ea h
                · exact eb h)]
              exact h4 w hw
        · rw [ph_nat]
          have hidx : ((svP p).ins + 1 + (cnt (svP p) k : Int)).toNat = q.unt.length := by omega
          have hyoung := last_young hp.inn (v := k) k (Nat.le_refl _) (by rw [hc]; omega)
          have hask : askV (svP p) k k = false := by
            cases ha : askV (svP p) k k
            · rfl
            · rcases (askV_iff (S := svP p) (k := k) hn (by rw [hc, ← hx]; exact hop) k).1 ha with h | h
              · rw [hc, ← hx] at h
                have := vals_lt hma; omega
              · rw [hc, ← hx, ← hbe] at h
                have := vals_lt hmb; omega
          rw [hidx, lastR, hask, if_neg (by simp), hyoung, List.getD_eq_getElem?_getD, List.getElem?_append_right (by simp)]
          simp [en]
theorem untO_get (held : List Int) (N : Int) : ∀ (rs unt : List Int) (i : Nat), i < unt.length → (untO held N unt rs).getD i 0 = if (rs.any fun r => decide ((held.getD r.toNat 0).toNat = i)) = true then N else unt.getD i 0
  | [], unt, i, _ => by simp [untO]
  | r :: rs, unt, i, h => by
    rw [untO, untO_get held N rs _ i (by simpa using h), getD_set, List.any_cons]
    by_cases e : (held.getD r.toNat 0).toNat = i
    · have e2 : (held.getD r.toNat 0).toNat = i ∧ (held.getD r.toNat 0).toNat < unt.length := ⟨e, by omega⟩
      rw [decide_eq_true e, Bool.true_or, if_pos e2, if_pos (show true = true from rfl)]
      split <;> rfl
    · rw [decide_eq_false e, Bool.false_or, if_neg (show ¬ ((held.getD r.toNat 0).toNat = i ∧ (held.getD r.toNat 0).toNat < unt.length) from fun h => e h.1)]
theorem unt_rel {p : Pg} (hp : PgOk p) {w : Int} (hw : w ∈ valsO (svP p) p.code.length) : (untM p).getD (ph (svP p) w).toNat 0 = en (untilR (svP p) w) := by
  obtain ⟨h1, h2, h3, h4⟩ := lv_rel hp p.code.length (Nat.le_refl _)
  have hr := ph_range hp.ok hw
  have hc : (svP p).code = p.code := rfl
  unfold untM lvEnd
  rw [untO_get _ _ _ _ _ (by omega), h4 w hw]
  have : (p.outs.any fun r => decide (((lvAt (lvStart p.ins p.regs.toNat p.code.length) (neededM p) p.code p.code.length).held.getD r.toNat 0).toNat = (ph (svP p) w).toNat)) = outV (svP p) w := by
    unfold outV
    rw [Bool.eq_iff_iff, List.any_eq_true, List.any_eq_true, hc]
    constructor
    · rintro ⟨r, hr', he⟩
      have hro := hp.inn.outs r hr'
      refine ⟨r, hr', ?_⟩
      rw [decide_eq_true_eq] at he ⊢
      rw [h3 _ (by omega), Int.toNat_of_nonneg hro.1] at he
      have hm := held_mem (S := svP p) hro.1 p.code.length
      have := ph_range hp.ok hm
      exact ph_inj hp.ok hm hw (by omega)
    · rintro ⟨r, hr', he⟩
      have hro := hp.inn.outs r hr'
      refine ⟨r, hr', ?_⟩
      rw [decide_eq_true_eq] at he ⊢
      rw [h3 _ (by omega), Int.toNat_of_nonneg hro.1, he]
  rw [this]
  unfold untilR
  rw [hc]
  split
  · rw [en, if_neg (by omega)]
  · rfl
theorem en_neg {x : Int} : en x < 0 ↔ x < 0 := by unfold en; split <;> omega
theorem en_eq {x : Int} {k : Nat} : en x = k ↔ x = k := by unfold en; split <;> omega
end Go.Proofs.Sw
