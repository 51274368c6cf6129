/- A part of the proof: what functions of the program answer, of whatever arguments, reckoned with letters by the interpreter's equations. Its conditions stand in each theorem. -/
import Derived.Test.YtbmmjfdofbdfeaaDoorF13M4

namespace Go.Proofs.F13
set_option linter.unusedVariables false
set_option linter.unusedSimpArgs false
set_option linter.unusedSectionVars false
open Go.Ab
theorem Stands.set_cells {H : Heap} {n q : Nat} {v : AV} {st : List Ins} {t : TypeId} {cs : List AV} {o : AObj} (h : Stands H n v st) (hq : H[q]? = some (.cells t cs)) : Stands (H.set q o) n v st := by
  rcases h with h | ⟨id, j, junk, h1, h2, h3, h4⟩
  · exact .inl h
  · exact .inr ⟨id, j, junk, h1, h2, h3, by rw [List.getElem?_set_ne (by intro e; subst e; rw [hq] at h4; cases h4)]; exact h4⟩
abbrev cP (ins regs : Int) (v ov : AV) : AObj := .cells 25 [ii ins, ii regs, v, ov]
theorem Stands.cell {H : Heap} {n : Nat} {v : AV} {st : List Ins} (h : Stands H n v st) : v.isCell = true := by
  rcases h with ⟨rfl, _⟩ | ⟨id, j, junk, rfl, _⟩ <;> rfl
theorem Stands.len {H : Heap} {n : Nat} {v : AV} {st : List Ins} (h : Stands H n v st) : lenA Tryd.prog 22 v = some (ii st.length) := by
  rcases h with ⟨rfl, rfl⟩ | ⟨id, j, junk, rfl, _⟩
  · exact ln22 _ _ _ _
  · exact lnh22 _ _ _ _ _
theorem Stands.kcells {H : Heap} {n : Nat} {v : AV} {st : List Ins} (h : Stands H n v st) : v.kcells = [v] := by
  rcases h with ⟨rfl, _⟩ | ⟨id, j, junk, rfl, _⟩ <;> rfl
theorem loop14_7 (kf : Nat) (hkf : 15 ≤ kf) (b : Code) (hb : loopOf Tryd.f14 7 = b) (regs ins rg : Int) (v1 v2 v4 : AV) (ox : IV) (L j : Nat) (t0 t1 : TypeId) (c0 c1 : List AV) (hj : j < L) (hj1 : 2 < j) :
    ∀ (st : List Ins) (x : Ins) (k : Nat) (l : Ass) (H : Heap) (v : AV) (z : Option Out), loopL Tryd.prog tab kf 14 b 58 [1, 2, 3, 4, 5] L k l H = z →
    st.length < k → st.length < 1000000 → L ≤ H.length → (∀ i ∈ st, mayM i regs = true) → mayM x regs = true →
    asc l 1 = v1 → asc l 2 = v2 → asc l 3 = .ptr 2 0 → asc l 4 = v4 → asc l 5 = .ptr j 0 → Stands H L v st → H[j]? = some (cI x) → H[0]? = some (.cells t0 c0) → H[1]? = some (.cells t1 c1) → H[2]? = some (cP ins rg v (.c ox)) →
    ∃ l' H' v', z = some (.exit 2 (fr 58 l') H') ∧ H'[0]? = some (.cells t0 c0) ∧ H'[1]? = some (.cells t1 c1) ∧ H'[2]? = some (cP ins rg v' (.c ox)) ∧ Stands H' H'.length v' (push st x) ∧ (∀ i ∈ push st x, mayM i regs = true) ∧ asc l' 1 = v1 ∧ asc l' 2 = v2 ∧ asc l' 3 = .ptr 2 0 ∧ asc l' 4 = v4 := by
  have hev : ∀ F H, evalCode Tryd.prog (cxF Tryd.prog (mkHints tab) kf 14) b F H = evalCode Tryd.prog (cxF Tryd.prog (mkHints tab) kf 14) (loopOf Tryd.f14 7) F H := fun _ _ => by rw [hb]
  obtain ⟨kf, rfl⟩ : ∃ j, kf = j + 15 := ⟨kf - 15, by omega⟩
  -- what is appended
  have happ : ∀ (st : List Ins) (x : Ins) (H : Heap) (v : AV), L ≤ H.length → st.length < 1000000 → Stands H L v st → H[0]? = some (.cells t0 c0) → H[1]? = some (.cells t1 c1) → H[2]? = some (cP ins rg v (.c ox)) →
      ∃ v3 H3, apO 34 5 40 v (H ++ [.row false 34 [.int .i64 x.op, .int .i64 x.to, .int .i64 x.a, .int .i64 x.b, .int .i64 x.c]]) (srcOf (H ++ [.row false 34 [.int .i64 x.op, .int .i64 x.to, .int .i64 x.a, .int .i64 x.b, .int .i64 x.c]]) 5 (.hsl H.length 0 1 5 5)) = some (v3, H3) ∧
        v3.kcells = [v3] ∧ v3.isCell = true ∧ H3[2]? = some (cP ins rg v (.c ox)) ∧
        (H3.set 2 (cP ins rg v3 (.c ox)))[0]? = some (.cells t0 c0) ∧ (H3.set 2 (cP ins rg v3 (.c ox)))[1]? = some (.cells t1 c1) ∧ (H3.set 2 (cP ins rg v3 (.c ox)))[2]? = some (cP ins rg v3 (.c ox)) ∧ Stands (H3.set 2 (cP ins rg v3 (.c ox))) (H3.set 2 (cP ins rg v3 (.c ox))).length v3 (x :: st) := by
    intro st x H v hL hlen hS g0 g1 g2
    obtain ⟨v3, H3, ha, hS3, hl3, hold3⟩ := append_stands (x := x) (H := H ++ [.row false 34 (enc1 x)]) (hS.keep (fun i hi => List.getElem?_append_left (by omega))) (by simp; omega) hlen
    have hsrc : srcOf (H ++ [.row false 34 (enc1 x)]) 5 (.hsl H.length 0 1 5 5) = some (enc1 x, 1) := srcOf_row (len := 1) concat_at rfl
    have h2 := hold3 2 _ _ (concat_old g2)
    refine ⟨v3, H3, ?_, hS3.kcells, hS3.cell, h2, ?_, ?_, ?_, ?_⟩
    · rw [← ha, ← hsrc]; rfl
    · rw [List.getElem?_set_ne (by omega)]; exact hold3 0 _ _ (concat_old g0)
    · rw [List.getElem?_set_ne (by omega)]; exact hold3 1 _ _ (concat_old g1)
    · exact List.getElem?_set_self (List.getElem?_eq_some_iff.1 h2).1
    · rw [List.length_set]; exact hS3.set_cells h2
  intro st
  induction st with
  | nil =>
    intro x k l H v z hz hk hk2 hLH hst hx h1 h2 h3 h4 h5 hS gj g0 g1 g2
    obtain ⟨k, rfl⟩ : ∃ j, k = j + 1 := ⟨k - 1, by simp at hk; omega⟩
    obtain ⟨H1, ht, hl1, hold⟩ := trim_old (F := fr 58 (keep l [1, 2, 3, 4, 5])) hLH
    have hS1 := hS.keep hold
    rw [← hold j hj] at gj
    rw [← hold 0 (by omega)] at g0
    rw [← hold 1 (by omega)] at g1
    rw [← hold 2 (by omega)] at g2
    clear hold hLH hS
    have hlen := hS1.len
    have hN := nothing_ev (kf + 14) x.op x.to x.a x.b x.c
    simp only [run, aI, ii, bb] at hN
    simp only [loopL_succ, hev, ht] at hz
    cases hn : nothing x with
    | true =>
      rw [show nothing ⟨x.op, x.to, x.a, x.b, x.c⟩ = true from hn] at hN
      simp only [h1, h2, h3, h4, h5, gj, hN, loopL_succ, loopOf, findLoop, firstRegion, Option.some_or, Option.none_or, Option.getD_some, Option.some.injEq, Tryd.f14, EVb, EVc, Int.reduceEq, Int.reduceToNat, Int.reduceLE, Int.reduceLT, Int.reduceAdd, Int.reduceMul, Int.reduceSub, Int.reduceNeg, Nat.reduceAdd, Nat.reduceSub, Nat.reduceMul, Nat.reduceLT, Nat.reduceBEq, Nat.reduceEqDiff, Nat.reduceLeDiff, FACTS, TYPES] at hz
      refine ⟨_, H1, v, hz.symm, g0, g1, g2, ?_, ?_, (by rfl), (by rfl), (by rfl), (by rfl)⟩
      · rw [push_nothing hn]; exact hS1.mono hl1
      · rw [push_nothing hn]; simp
    | false =>
      rw [show nothing ⟨x.op, x.to, x.a, x.b, x.c⟩ = false from hn] at hN
      obtain ⟨v3, H3, ha, hk3, hc3, q2, r0, r1, r2, r3⟩ := happ [] x H1 v hl1 (by simp) hS1 g0 g1 g2
      have g2' : ∀ o, (H1 ++ [o])[2]? = some (cP ins rg v (.c ox)) := fun o => concat_old g2
      have gj' : ∀ o, (H1 ++ [o])[j]? = some (cI x) := fun o => concat_old gj
      simp only [h1, h2, h3, h4, h5, gj, g2, hN, hlen, g2', gj', ha, hk3, hc3, q2, Int.lt_irrefl, loopL_succ, loopOf, findLoop, firstRegion, Option.some_or, Option.none_or, Option.getD_some, Option.some.injEq, Tryd.f14, EVb, EVc, Int.reduceEq, Int.reduceToNat, Int.reduceLE, Int.reduceLT, Int.reduceAdd, Int.reduceMul, Int.reduceSub, Int.reduceNeg, Nat.reduceAdd, Nat.reduceSub, Nat.reduceMul, Nat.reduceLT, Nat.reduceBEq, Nat.reduceEqDiff, Nat.reduceLeDiff, FACTS, TYPES] at hz
      refine ⟨_, _, v3, hz.symm, r0, r1, r2, ?_, ?_, (by rfl), (by rfl), (by rfl), (by rfl)⟩
      · rw [push_nil hn]; exact r3
      · rw [push_nil hn]; simpa using hx
  | cons y st ih =>
    intro x k l H v z hz hk hk2 hLH hst hx h1 h2 h3 h4 h5 hS gj g0 g1 g2
    obtain ⟨k, rfl⟩ : ∃ j, k = j + 1 := ⟨k - 1, by simp at hk; omega⟩
    obtain ⟨H1, ht, hl1, hold⟩ := trim_old (F := fr 58 (keep l [1, 2, 3, 4, 5])) hLH
    have hS1 := hS.keep hold
    rw [← hold j hj] at gj
    rw [← hold 0 (by omega)] at g0
    rw [← hold 1 (by omega)] at g1
    rw [← hold 2 (by omega)] at g2
    clear hold hLH hS
    have hS2 := hS1
    have hN := nothing_ev (kf + 14) x.op x.to x.a x.b x.c
    simp only [run, aI, ii, bb] at hN
    simp only [loopL_succ, hev, ht] at hz
    cases hn : nothing x with
    | true =>
      rw [show nothing ⟨x.op, x.to, x.a, x.b, x.c⟩ = true from hn] at hN
      simp only [h1, h2, h3, h4, h5, gj, hN, loopL_succ, loopOf, findLoop, firstRegion, Option.some_or, Option.none_or, Option.getD_some, Option.some.injEq, Tryd.f14, EVb, EVc, Int.reduceEq, Int.reduceToNat, Int.reduceLE, Int.reduceLT, Int.reduceAdd, Int.reduceMul, Int.reduceSub, Int.reduceNeg, Nat.reduceAdd, Nat.reduceSub, Nat.reduceMul, Nat.reduceLT, Nat.reduceBEq, Nat.reduceEqDiff, Nat.reduceLeDiff, FACTS, TYPES] at hz
      refine ⟨_, H1, v, hz.symm, g0, g1, g2, ?_, ?_, (by rfl), (by rfl), (by rfl), (by rfl)⟩
      · rw [push_nothing hn]; exact hS1.mono hl1
      · rw [push_nothing hn]; exact hst
    | false =>
      rw [show nothing ⟨x.op, x.to, x.a, x.b, x.c⟩ = false from hn] at hN
      rcases hS1 with ⟨_, hbad⟩ | ⟨id, jj, junk, hv, hjj, hid, gid⟩
      · cases hbad
      have hy := hst y (by simp)
      obtain ⟨N, hNl⟩ : ∃ N, N = (y :: st).length := ⟨_, rfl⟩
      obtain ⟨CC, hCC⟩ : ∃ CC, CC = encCode (y :: st).reverse ++ junk := ⟨_, rfl⟩
      rw [← hNl, ← hCC] at hv
      rw [← hCC] at gid
      have hN1 : N = st.length + 1 := hNl
      have hpos : (0 : Int) < (N : Int) := by omega
      have hw : IntKind.wrap .i64 ((N : Int) - 1) = (st.length : Int) := by rw [wrap64 (by omega) (by simp at hk2; omega)]; omega
      have hc1 : (0 : Int) ≤ st.length := by omega
      have hc2 : (st.length : Int) < (N : Int) := by omega
      have htk := encCode_top st y junk
      rw [← hCC, takeCells_eq] at htk
      rw [show ((st.length : Int) + 1 - 1).toNat = (st.length : Int).toNat by omega] at htk
      have g2' : ∀ o, (H1 ++ [o])[2]? = some (cP ins rg v (.c ox)) := fun o => concat_old g2
      have gj' : ∀ o, (H1 ++ [o])[j]? = some (cI x) := fun o => concat_old gj
      have gid' : ∀ o, (H1 ++ [o])[id]? = some (.row false 34 CC) := fun o => concat_old gid
      have hM := refMelt_ev kf y.op y.to y.a y.b y.c x.op x.to x.a x.b x.c (two_of_may hy hx)
      cases hm : meltM y x with
      | none =>
        rw [show meltM ⟨y.op, y.to, y.a, y.b, y.c⟩ ⟨x.op, x.to, x.a, x.b, x.c⟩ = none from hm] at hM
        simp only [duo, run, encI, aI, ii, bb, zI] at hM
        obtain ⟨v3, H3, ha, hk3, hc3, q2, r0, r1, r2, r3⟩ := happ (y :: st) x (H1 ++ [cI zI]) v (by simp; omega) hk2 (hS2.keep (fun i hi => List.getElem?_append_left (by omega))) (concat_old g0) (concat_old g1) (concat_old g2)
        have g2'' : ∀ o o', (H1 ++ [o] ++ [o'])[2]? = some (cP ins rg v (.c ox)) := fun o o' => concat_old (concat_old g2)
        have gj'' : ∀ o o', (H1 ++ [o] ++ [o'])[j]? = some (cI x) := fun o o' => concat_old (concat_old gj)
        subst hv
        simp only [cI, zI, ii] at ha
        simp only [h1, h2, h3, h4, h5, gj, g2, hN, g2', gj', hpos, loopL_succ, loopOf, findLoop, firstRegion, Option.some_or, Option.none_or, Option.getD_some, Option.some.injEq, Tryd.f14, EVb, EVc, Int.reduceEq, Int.reduceToNat, Int.reduceLE, Int.reduceLT, Int.reduceAdd, Int.reduceMul, Int.reduceSub, Int.reduceNeg, Nat.reduceAdd, Nat.reduceSub, Nat.reduceMul, Nat.reduceLT, Nat.reduceBEq, Nat.reduceEqDiff, Nat.reduceLeDiff, FACTS, TYPES] at hz
        rw [evalCode_drawn Tryd.f14 10 dr14_10] at hz; rotate_left; rfl
        simp only [gj, gj', gj'', g2, g2', g2'', gid, gid', hw, hc1, hc2, htk, hM, enc1, concat_at, concat_set, ha, hk3, hc3, q2, EVd, Nat.reducePow, Nat.reduceDiv, Nat.reduceMod, EVb, EVc, Int.reduceEq, Int.reduceToNat, Int.reduceLE, Int.reduceLT, Int.reduceAdd, Int.reduceMul, Int.reduceSub, Int.reduceNeg, Nat.reduceAdd, Nat.reduceSub, Nat.reduceMul, Nat.reduceLT, Nat.reduceBEq, Nat.reduceEqDiff, Nat.reduceLeDiff, FACTS, TYPES] at hz
        refine ⟨_, _, v3, hz.symm, r0, r1, r2, ?_, ?_, (by rfl), (by rfl), (by rfl), (by rfl)⟩
        · rw [push_none hn hm]; exact r3
        · rw [push_none hn hm]; intro i hi; rcases List.mem_cons.1 hi with rfl | hi; exact hx; exact hst i hi
      | some w =>
        rw [show meltM ⟨y.op, y.to, y.a, y.b, y.c⟩ ⟨x.op, x.to, x.a, x.b, x.c⟩ = some w from hm] at hM
        simp only [duo, run, encI, aI, ii, bb] at hM
        have hsl : ∀ o, sliceA Tryd.prog (H1 ++ [o]) 22 (.hsl id 0 N CC.length 5) none (some (.c (.int .i64 (st.length : Int)))) none = some (.hsl id 0 st.length CC.length 5) := by
          intro o
          rw [sl22]
          have h1 : (rowOf (H1 ++ [o]) id CC.length).isSome = true := by
            rw [rowOf_eq (gid' o) rfl]; rfl
          have h2 : 0 + st.length * 5 ≤ CC.length := by
            rw [hCC, List.length_append, encCode_length]; simp; omega
          simp only [sliceO, boundA, hc1, if_true, Option.bind_some, Int.toNat_natCast]
          rw [if_pos ⟨Nat.zero_le _, h2, by omega, trivial, h1⟩]
          simp
        have hset2 : ∀ o o', ((H1 ++ [o]).set 2 o')[2]? = some o' := fun o o' => List.getElem?_set_self (by simp; omega)
        have hsetj : ∀ o o', ((H1 ++ [o]).set 2 o')[j]? = some (cI x) := fun o o' => by rw [List.getElem?_set_ne (by omega)]; exact concat_old gj
        have hsetl : ∀ o o', ((H1 ++ [o]).set 2 o')[H1.length]? = some o := fun o o' => by rw [List.getElem?_set_ne (by omega)]; exact concat_at
        subst hv
        simp only [h1, h2, h3, h4, h5, gj, g2, hN, g2', gj', hpos, loopL_succ, loopOf, findLoop, firstRegion, Option.some_or, Option.none_or, Option.getD_some, Option.some.injEq, Tryd.f14, EVb, EVc, Int.reduceEq, Int.reduceToNat, Int.reduceLE, Int.reduceLT, Int.reduceAdd, Int.reduceMul, Int.reduceSub, Int.reduceNeg, Nat.reduceAdd, Nat.reduceSub, Nat.reduceMul, Nat.reduceLT, Nat.reduceBEq, Nat.reduceEqDiff, Nat.reduceLeDiff, FACTS, TYPES] at hz
        rw [evalCode_drawn Tryd.f14 10 dr14_10] at hz; rotate_left; rfl
        simp only [gj, gj', g2, g2', gid, gid', hw, hc1, hc2, htk, hM, hsl, hset2, hsetj, hsetl, enc1, concat_at, concat_set, EVd, Nat.reducePow, Nat.reduceDiv, Nat.reduceMod, EVb, EVc, Int.reduceEq, Int.reduceToNat, Int.reduceLE, Int.reduceLT, Int.reduceAdd, Int.reduceMul, Int.reduceSub, Int.reduceNeg, Nat.reduceAdd, Nat.reduceSub, Nat.reduceMul, Nat.reduceLT, Nat.reduceBEq, Nat.reduceEqDiff, Nat.reduceLeDiff, FACTS, TYPES] at hz
        have hnid : id ≠ j := by intro e; subst e; rw [gj] at gid; cases gid
        have hnid2 : id ≠ 2 := by intro e; subst e; rw [g2] at gid; cases gid
        have hold2 : ∀ i, i < L → i ≠ j → i ≠ 2 → (((H1 ++ [cI w]).set 2 (cP ins rg (.hsl id 0 st.length CC.length 5) (.c ox))).set j (cI w))[i]? = H1[i]? := fun i hi hne hne2 => by
          rw [List.getElem?_set_ne (Ne.symm hne), List.getElem?_set_ne (Ne.symm hne2)]; exact List.getElem?_append_left (by omega)
        rw [push_some hn hm]
        exact ih w k _ _ _ z hz (by simp at hk; omega) (by simp at hk2; omega) (by simp; omega) (fun i hi => hst i (by simp [hi])) (melt_may hy hx hm) (by rfl) (by rfl) (by rfl) (by rfl) (by rfl)
          (hCC ▸ Stands.pop (n := L) (y := y) (st := st) (junk := junk) hjj hid (by rw [← hCC, hold2 id hid hnid hnid2]; exact gid)) (List.getElem?_set_self (by simp; omega)) ((hold2 0 (by omega) (by omega) (by omega)).trans g0) ((hold2 1 (by omega) (by omega) (by omega)).trans g1)
          (by rw [List.getElem?_set_ne (by omega)]; exact hset2 _ _)
end Go.Proofs.F13
namespace Go.Proofs.F13
set_option linter.unusedVariables false
set_option linter.unusedSimpArgs false
set_option linter.unusedSectionVars false
open Go.Ab
theorem ref_trim {H : Heap} {l : Ass} {v : AV} {ox : IV} {st : List Ins} {t0 t1 : TypeId} {c0 c1 : List AV} {ins rg : Int} (hS : Stands H H.length v st) (g0 : H[0]? = some (.cells t0 c0)) (g1 : H[1]? = some (.cells t1 c1)) (g2 : H[2]? = some (cP ins rg v (.c ox))) :
    ∃ H1, trim 3 (fr 58 l) H = H1 ∧ Stands H1 H1.length v st ∧ H1[0]? = some (.cells t0 c0) ∧ H1[1]? = some (.cells t1 c1) ∧ H1[2]? = some (cP ins rg v (.c ox)) ∧ 3 ≤ H1.length := by
  have hl : 3 ≤ H.length := by have := (List.getElem?_eq_some_iff.1 g2).1; omega
  unfold trim
  split
  · rename_i hc
    have k2 : (H.take 3)[2]? = some (cP ins rg v (.c ox)) := by rw [List.getElem?_take_of_lt (by omega)]; exact g2
    refine ⟨_, rfl, ?_, by rw [List.getElem?_take_of_lt (by omega)]; exact g0, by rw [List.getElem?_take_of_lt (by omega)]; exact g1, k2, by simp; omega⟩
    rcases hS with h | ⟨id, j, junk, rfl, hj, hid, hr⟩
    · exact .inl h
    · exfalso
      have h1 := List.all_eq_true.1 hc.2 _ (List.mem_of_getElem? k2)
      simp only [AObj.under, List.all_cons, Bool.and_eq_true, under_hsl, decide_eq_true_eq] at h1
      have h2 : id < 3 := by omega
      rcases (show id = 0 ∨ id = 1 ∨ id = 2 by omega) with rfl | rfl | rfl
      · rw [g0] at hr; cases hr
      · rw [g1] at hr; cases hr
      · rw [g2] at hr; cases hr
  · exact ⟨_, rfl, hS, g0, g1, g2, hl⟩
theorem loop14_4 (kf : Nat) (b : Code) (hb : loopOf Tryd.f14 4 = b) (ins regs rg : Int) (nl : Bool) (cap : Option Nat) (outs ox : IV) (code : List Ins) (hcode : ∀ i ∈ code, mayM i regs = true) (hlen : code.length ≤ 16384) (hkf : code.length + 20 ≤ kf) (c1 : List AV) :
    ∀ (rest pre st : List Ins) (k : Nat) (l : Ass) (H : Heap) (v : AV) (z : Option Out), loopL Tryd.prog tab kf 14 b 58 [1, 2, 3, 4] 3 k l H = z →
    code = pre ++ rest → rest.length < k → st.length ≤ pre.length → (∀ i ∈ st, mayM i regs = true) → asc l 1 = .ptr 0 0 → asc l 2 = .ptr 1 0 → asc l 3 = .ptr 2 0 → asc l 4 = ii pre.length →
    Stands H H.length v st → H[0]? = some (.cells 25 [ii ins, ii regs, sC code nl cap, .c outs]) → H[1]? = some (.cells 25 c1) → H[2]? = some (cP ins rg v (.c ox)) →
    ∃ l' H' v', z = some (.exit 0 (fr 58 l') H') ∧ asc l' 2 = .ptr 1 0 ∧ asc l' 3 = .ptr 2 0 ∧ Stands H' H'.length v' (rest.foldl (fun st i => push st (plainM i)) st) ∧ H'[1]? = some (.cells 25 c1) ∧ H'[2]? = some (cP ins rg v' (.c ox)) := by
  have hev : ∀ F H, evalCode Tryd.prog (cxF Tryd.prog (mkHints tab) kf 14) b F H = evalCode Tryd.prog (cxF Tryd.prog (mkHints tab) kf 14) (loopOf Tryd.f14 4) F H := fun _ _ => by rw [hb]
  obtain ⟨kf, rfl⟩ : ∃ j, kf = j + 15 := ⟨kf - 15, by omega⟩
  intro rest
  induction rest with
  | nil =>
    intro pre st k l H v z hz he hk hst hms h1 h2 h3 h4 hS g0 g1 g2
    obtain ⟨k, rfl⟩ : ∃ j, k = j + 1 := ⟨k - 1, by simp at hk; omega⟩
    have hc : ¬ ((pre.length : Int) < code.length) := by rw [he]; simp
    obtain ⟨H1, ht, hS1, g0, g1, g2, hl1⟩ := ref_trim (l := keep l [1, 2, 3, 4]) hS g0 g1 g2
    simp only [loopL_succ, hev, ht] at hz
    simp only [h1, h2, h3, h4, g0, hc, loopL_succ, loopOf, findLoop, firstRegion, Option.some_or, Option.none_or, Option.getD_some, Option.some.injEq, Tryd.f14, EVb, EVc, Int.reduceEq, Int.reduceToNat, Int.reduceLE, Int.reduceLT, Int.reduceAdd, Int.reduceMul, Int.reduceSub, Int.reduceNeg, Nat.reduceAdd, Nat.reduceSub, Nat.reduceMul, Nat.reduceLT, Nat.reduceBEq, Nat.reduceEqDiff, Nat.reduceLeDiff, FACTS, TYPES] at hz
    exact ⟨_, H1, v, hz.symm, (by rfl), (by rfl), hS1, g1, g2⟩
  | cons i rest ih =>
    intro pre st k l H v z hz he hk hst hms h1 h2 h3 h4 hS g0 g1 g2
    obtain ⟨k, rfl⟩ : ∃ j, k = j + 1 := ⟨k - 1, by simp at hk; omega⟩
    have hc : ((pre.length : Int) < code.length) := by rw [he]; simp; omega
    have hc0 : (0 : Int) ≤ pre.length := by omega
    have hx := encCode_at pre rest i
    rw [← he, takeCells_eq] at hx
    have hpl : pre.length ≤ 16384 := by rw [he] at hlen; simp at hlen; omega
    have hw : IntKind.wrap .i64 ((pre.length : Int) + 1) = ((pre ++ [i]).length : Int) := by rw [wrap64 (by omega) (by omega)]; simp
    obtain ⟨H1, ht, hS1, g0, g1, g2, hl1⟩ := ref_trim (l := keep l [1, 2, 3, 4]) hS g0 g1 g2
    have hi := hcode i (by rw [he]; simp)
    obtain ⟨o, t, a, b', c⟩ := i
    have hp := refPlain_ev (kf + 2) o t a b' c (may_c hi).1
    simp only [run, encI, aI, ii] at hp
    simp only [loopL_succ, hev, ht] at hz
    simp only [h1, h2, h3, h4, g0, hc, hc0, hx, enc1, hp, concat_at, concat_set, loopL_succ, loopOf, findLoop, firstRegion, Option.some_or, Option.none_or, Option.getD_some, Option.some.injEq, Tryd.f14, EVb, EVc, Int.reduceEq, Int.reduceToNat, Int.reduceLE, Int.reduceLT, Int.reduceAdd, Int.reduceMul, Int.reduceSub, Int.reduceNeg, Nat.reduceAdd, Nat.reduceSub, Nat.reduceMul, Nat.reduceLT, Nat.reduceBEq, Nat.reduceEqDiff, Nat.reduceLeDiff, FACTS, TYPES] at hz
    rw [evalCode_loopOf Tryd.f14 7 lp14_7] at hz; rotate_left; rfl; rfl
    generalize hz2 : loopL _ _ _ _ _ _ _ _ _ _ _ = z2 at hz
    have hi2 := plain_may hi
    obtain ⟨l', H', v', rfl, e0, e1, e2, eS, em, a1, a2, a3, a4⟩ := loop14_7 (kf + 15) (by omega) (loopOf Tryd.f14 7) rfl regs ins rg _ _ _ ox (H1 ++ [cI (plainM ⟨o, t, a, b', c⟩)]).length H1.length _ _ _ _ (by simp) (by omega) st (plainM ⟨o, t, a, b', c⟩) _ _ _ v _ hz2 (by omega) (by omega) (Nat.le_refl _) hms hi2
      (by rfl) (by rfl) (by rfl) (by rfl) (by rfl) ((hS1.keep (fun i hi => by rw [List.getElem?_append_left hi])).mono (by simp)) (by rw [concat_at]) (concat_old g0) (concat_old g1) (concat_old g2)
    have hpl := push_len st (plainM ⟨o, t, a, b', c⟩)
    simp only [a1, a2, a3, a4, hw, EVb, EVc, Int.reduceEq, Int.reduceToNat, Int.reduceLE, Int.reduceLT, Int.reduceAdd, Int.reduceMul, Int.reduceSub, Int.reduceNeg, Nat.reduceAdd, Nat.reduceSub, Nat.reduceMul, Nat.reduceLT, Nat.reduceBEq, Nat.reduceEqDiff, Nat.reduceLeDiff, FACTS, TYPES] at hz
    obtain ⟨l2, H2, v2, q1, q2, q3, q4, q5, q6⟩ := ih (pre ++ [⟨o, t, a, b', c⟩]) (push st (plainM ⟨o, t, a, b', c⟩)) k _ _ v' z hz (by rw [he]; simp) (by simp at hk; omega) (by simp; omega) em (by exact a1) (by exact a2) (by exact a3) (by rfl) eS e0 e1 e2
    exact ⟨l2, H2, v2, q1, q2, q3, by rw [List.foldl_cons]; exact q4, q5, q6⟩
theorem refPass_ev (k : Nat) (p : Pg) (nl : Bool) (cap : Option Nat) (nl2 : Bool) (cap2 : Option Nat) (hk : p.outs.length + p.code.length + 30 ≤ k) (hr : rightM p = true) :
    ∃ a1 c1 a2 c2, run (k+1) 14 [aP p nl cap nl2 cap2] = some (aP (passM p) a1 c1 a2 c2) := by
  obtain ⟨k, rfl⟩ : ∃ j, k = j + 1 := ⟨k - 1, by omega⟩
  obtain ⟨ins, regs, code, outs⟩ := p
  simp only [rightM, Bool.and_eq_true] at hr
  obtain ⟨⟨hr1, hr2⟩, hr3⟩ := hr
  simp only [headM, decide_eq_true_eq] at hr1
  have hcode : ∀ i ∈ code, mayM i regs = true := fun i hi => List.all_eq_true.1 hr3 i hi
  simp only at hk
  obtain ⟨x1, d1, x2, d2, hcp⟩ := copy_ev k ⟨ins, regs, code, outs⟩ nl cap nl2 cap2 (Nat.le_trans (Nat.mul_le_mul_right 40 (show code.length ≤ 16384 by omega)) (by decide)) (Nat.le_trans (Nat.mul_le_mul_right 8 (show outs.length ≤ 16384 by omega)) (by decide))
  simp only [run, aP, ii] at hcp
  rw [run, ev14]
  simp only [Tryd.f14, aP, ii, bb, hcp, EVb, EVc, Int.reduceEq, Int.reduceToNat, Int.reduceLE, Int.reduceLT, Int.reduceAdd, Int.reduceMul, Int.reduceSub, Int.reduceNeg, Nat.reduceAdd, Nat.reduceSub, Nat.reduceMul, Nat.reduceLT, Nat.reduceBEq, Nat.reduceEqDiff, Nat.reduceLeDiff, FACTS, TYPES]
  rw [evalCode_loopOf Tryd.f14 4 lp14_4]; rotate_left; rfl; rfl
  generalize hz : loopL _ _ _ _ _ _ _ _ _ _ _ = z
  obtain ⟨l', H', v', rfl, e2, e3, hS, g1, g2⟩ := loop14_4 (k+1) (loopOf Tryd.f14 4) rfl ins regs regs nl cap (.slice (encInts outs) outs.length nl2 cap2) (.slice (encInts outs) outs.length x2 d2) code hcode (by omega) (by omega) _ code [] [] _ _ _ (.c (.slice [] 0 true (some 0))) z hz rfl (by omega) (Nat.le_refl _) (by simp) (by rfl) (by rfl) (by rfl) (by rfl) (.inl ⟨rfl, rfl⟩) (by rfl) (by rfl) (by rfl)
  have hp : passC code = (code.foldl (fun st i => push st (plainM i)) []).reverse := rfl
  have h1l : 1 < H'.length := (List.getElem?_eq_some_iff.1 g1).1
  have hset : ∀ o, (H'.set 1 o)[1]? = some o := fun o => List.getElem?_set_self h1l
  rcases hS with ⟨rfl, hnil⟩ | ⟨id, j, junk, rfl, hj, hid, hrow⟩
  · simp only [e2, e3, g1, g2, hset, EVb, EVc, Int.reduceEq, Int.reduceToNat, Int.reduceLE, Int.reduceLT, Int.reduceAdd, Int.reduceMul, Int.reduceSub, Int.reduceNeg, Nat.reduceAdd, Nat.reduceSub, Nat.reduceMul, Nat.reduceLT, Nat.reduceBEq, Nat.reduceEqDiff, Nat.reduceLeDiff, FACTS, TYPES]
    refine ⟨true, some 0, x2, d2, ?_⟩
    simp only [passM, hp, hnil]
    rfl
  · have hne : id ≠ 1 := by intro e; subst e; rw [g1] at hrow; cases hrow
    have hrow2 : ∀ o : AObj, (H'.set 1 o)[id]? = some (.row false 34 (encCode (passC code) ++ junk)) := fun o => by rw [List.getElem?_set_ne (Ne.symm hne)]; exact hrow
    have hl5 := encCode_length (passC code)
    have hpl : (passC code).length = (code.foldl (fun st i => push st (plainM i)) []).length := by rw [hp, List.length_reverse]
    have hle : 0 + (passC code).length * 5 ≤ (encCode (passC code) ++ junk).length := by rw [List.length_append, hl5]; omega
    have htk : ((encCode (passC code) ++ junk).drop 0).take ((passC code).length * 5) = encCode (passC code) := by
      rw [List.drop_zero, ← hl5, List.take_left]
    have hz3 : ∀ o : AObj, rowOf (H'.set 1 o) id (encCode (passC code) ++ junk).length = some (34, encCode (passC code) ++ junk) := fun o => rowOf_eq (hrow2 o) rfl
    rw [← hp, ← hpl] at g2
    simp only [e2, e3, g1, g2, hset, EVb, EVc, Int.reduceEq, Int.reduceToNat, Int.reduceLE, Int.reduceLT, Int.reduceAdd, Int.reduceMul, Int.reduceSub, Int.reduceNeg, Nat.reduceAdd, Nat.reduceSub, Nat.reduceMul, Nat.reduceLT, Nat.reduceBEq, Nat.reduceEqDiff, Nat.reduceLeDiff, FACTS, TYPES]
    refine ⟨false, none, x2, d2, ?_⟩
    simp only [ans, frzR, frzV_agg, frzs_cell, frzs_hsl, frzs_nil, frz_hsl, frz2_some, frzV_c, hz3, hle, htk, if_true, Option.bind_some, Option.map_some, List.map_cons, List.map_nil]
    simp only [passM]
end Go.Proofs.F13
namespace Go.Proofs.F13
set_option linter.unusedVariables false
set_option linter.unusedSimpArgs false
set_option linter.unusedSectionVars false
open Go.Ab
theorem storeA_eptr1 {P : Program} {H : Heap} {t e : TypeId} {id off ext : Nat} {x : IV} {cs : List IV} (hs : sizeT P t = some 1) (hr : H[id]? = some (.row false e cs)) (hl : cs.length = ext) (ho : off < ext) :
    storeA P H t (.eptr id off ext) (.c x) = some (H.set id (.row false e (cs.set off x))) := by
  have h1 : rowOf H id ext = some (e, cs) := rowOf_eq hr hl
  have h2 : rowLive H id = true := by unfold rowLive; rw [hr]
  unfold storeA
  rw [kcells_c, if_pos (show sizeT P t = some [AV.c x].length from hs)]
  simp only [frzs_cell, frzs_nil, Option.bind_some, Option.map_some, h1, h2, if_true, putCells_one]
  rw [if_pos (by omega)]
  rfl
theorem loop3_14 (kf : Nat) (b : Code) (hb : loopOf Tryd.f3 14 = b) (j N ext id oid : Nat) (hid : id < j) (hoid : oid < j) (hne : id ≠ oid) (hid1 : 1 < id) (hoid1 : 1 < oid) (hN : N * 5 ≤ ext) (hNl : N < 1000000) (x y ov : AV) (o0 o1 o2 : AObj) :
    ∀ (n pos k : Nat) (l : Ass) (H : Heap) (cells : List IV) (z : Option Out), loopL Tryd.prog tab kf 3 b 58 [1, 3, 4, 43, 44] (j+1) k l H = z → pos + n = N → n < k →
    asc l 1 = .ptr 0 0 → asc l 3 = .ptr 1 0 → asc l 4 = .ptr j 0 → asc l 43 = ii N → asc l 44 = ii pos → H.length = j + 1 → H[j]? = some (.cells 25 [x, y, .hsl id 0 N ext 5, ov]) → H[0]? = some o0 → H[1]? = some o1 → H[oid]? = some o2 →
    H[id]? = some (.row false 34 cells) → cells.length = ext →
    ∃ l' H', z = some (.exit 0 (fr 58 l') H') ∧ asc l' 1 = .ptr 0 0 ∧ asc l' 3 = .ptr 1 0 ∧ asc l' 4 = .ptr j 0 ∧ H'[j]? = some (.cells 25 [x, y, .hsl id 0 N ext 5, ov]) ∧ H'[0]? = some o0 ∧ H'[1]? = some o1 ∧ H'[oid]? = some o2 := by
  have hev : ∀ F H, evalCode Tryd.prog (cxF Tryd.prog (mkHints tab) kf 3) b F H = evalCode Tryd.prog (cxF Tryd.prog (mkHints tab) kf 3) (loopOf Tryd.f3 14) F H := fun _ _ => by rw [hb]
  intro n
  induction n with
  | zero =>
    intro pos k l H cells z hz he hk h1 h3 h4 h43 h44 hl gj g0 g1 g2 gid hcl
    obtain ⟨k, rfl⟩ : ∃ j, k = j + 1 := ⟨k - 1, by omega⟩
    have hc : ¬ ((pos : Int) < N) := by omega
    simp only [loopL_succ, hev, trim_same hl] at hz
    simp only [h1, h3, h4, h43, h44, hc, loopL_succ, loopOf, findLoop, firstRegion, Option.some_or, Option.none_or, Option.getD_some, Option.some.injEq, Tryd.f3, EVb, EVc, Int.reduceEq, Int.reduceToNat, Int.reduceLE, Int.reduceLT, Int.reduceAdd, Int.reduceMul, Int.reduceSub, Int.reduceNeg, Nat.reduceAdd, Nat.reduceSub, Nat.reduceMul, Nat.reduceLT, Nat.reduceBEq, Nat.reduceEqDiff, Nat.reduceLeDiff, FACTS, TYPES] at hz
    exact ⟨_, H, hz.symm, (by rfl), (by rfl), (by rfl), gj, g0, g1, g2⟩
  | succ n ih =>
    intro pos k l H cells z hz he hk h1 h3 h4 h43 h44 hl gj g0 g1 g2 gid hcl
    obtain ⟨k, rfl⟩ : ∃ j, k = j + 1 := ⟨k - 1, by omega⟩
    have hc : ((pos : Int) < N) := by omega
    have hc0 : (0 : Int) ≤ pos := by omega
    have hw : IntKind.wrap .i64 ((pos : Int) + 1) = ((pos + 1 : Nat) : Int) := by rw [wrap64 (by omega) (by omega)]; simp
    have hst : storeA Tryd.prog H 3 (.eptr id ((pos : Int).toNat * 5 + 1) ext) (.c (.int .i64 (-1))) = some (H.set id (.row false 34 (cells.set ((pos : Int).toNat * 5 + 1) (.int .i64 (-1))))) := storeA_eptr1 (by kernel_rfl) gid hcl (by rw [Int.toNat_natCast]; omega)
    simp only [loopL_succ, hev, trim_same hl] at hz
    simp only [h1, h3, h4, h43, h44, hc, hc0, gj, gid, hcl, hw, hst, loopL_succ, loopOf, findLoop, firstRegion, Option.some_or, Option.none_or, Option.getD_some, Option.some.injEq, Tryd.f3, EVb, EVc, Int.reduceEq, Int.reduceToNat, Int.reduceLE, Int.reduceLT, Int.reduceAdd, Int.reduceMul, Int.reduceSub, Int.reduceNeg, Nat.reduceAdd, Nat.reduceSub, Nat.reduceMul, Nat.reduceLT, Nat.reduceBEq, Nat.reduceEqDiff, Nat.reduceLeDiff, FACTS, TYPES] at hz
    have hset : ∀ (o : AObj) (i : Nat), i ≠ id → (H.set id o)[i]? = H[i]? := fun o i h => List.getElem?_set_ne (Ne.symm h)
    exact ih (pos + 1) k _ _ _ z hz (by omega) (by omega) (by rfl) (by rfl) (by rfl) (by rfl) (by rfl) (by rw [List.length_set]; exact hl) (by rw [hset _ _ (by omega)]; exact gj) (by rw [hset _ _ (by omega)]; exact g0) (by rw [hset _ _ (by omega)]; exact g1)
      (by rw [hset _ _ (Ne.symm hne)]; exact g2) (List.getElem?_set_self (by omega)) (by rw [List.length_set]; exact hcl)
theorem held_keep {H H0 : Heap} {p : Pg} {cv : AV} {oid : Nat} {e : IV} {x y : IV} (h : Held H p cv oid) :
    (cv = .c (.slice [] 0 true (some 0)) ∧ passC p.code = [] ∧ keepO (some (.tup [.agg [.c x, .c y, cv, .hsl oid 0 p.outs.length p.outs.length 1], .c e], H)) H0 = some (.tup [.agg [.c x, .c y, cv, .hsl H0.length 0 p.outs.length p.outs.length 1], .c e], H0 ++ [.row false 3 (encInts p.outs)])) ∨
    ∃ junk, keepO (some (.tup [.agg [.c x, .c y, cv, .hsl oid 0 p.outs.length p.outs.length 1], .c e], H)) H0 = some (.tup [.agg [.c x, .c y, .hsl H0.length 0 (passC p.code).length (encCode (passC p.code) ++ junk).length 5, .hsl (H0.length + 1) 0 p.outs.length p.outs.length 1], .c e], H0 ++ [.row false 34 (encCode (passC p.code) ++ junk), .row false 3 (encInts p.outs)]) := by
  obtain ⟨ho, hcd⟩ := h
  rcases hcd with ⟨rfl, hnil⟩ | ⟨id, junk, hne, rfl, hrow⟩
  · refine .inl ⟨rfl, hnil, ?_⟩
    simp [keepO, AV.imp, imps1, AV.imp1, imps0, AV.imp0, rowsOf, ho]
    rfl
  · refine .inr ⟨junk, ?_⟩
    simp [keepO, AV.imp, imps1, AV.imp1, imps0, AV.imp0, rowsOf, ho, hrow, Ne.symm hne]
    rfl
end Go.Proofs.F13
namespace Go.Proofs.F13
set_option linter.unusedVariables false
set_option linter.unusedSimpArgs false
set_option linter.unusedSectionVars false
open Go.Ab
theorem freeO_cxN {tab : Tab} {kf f r i : Nat} {g : FuncId} {args : List AV} (ha : args.all AV.pure = false) :
    freeO (cxF Tryd.prog (mkHints tab) kf f) r i (.c (.fn g)) args = none := if_neg (fun h => by rw [ha] at h; cases h.1)
theorem clear23 {H : Heap} {id n : Nat} {E : List IV} (hr : H[id]? = some (.row false 3 E)) (hl : E.length = n) (hn : 0 < n) : ∃ o, clearA Tryd.prog H 23 (.hsl id 0 n n 1) = some (H.set id o) := by
  have h1 : rowOf H id n = some (3, E) := rowOf_eq hr hl
  have h2 : rowLive H id = true := by unfold rowLive; rw [hr]
  have e1 : elemOfSlice Tryd.prog 23 = some 3 := by kernel_rfl
  have e2 : sizeT Tryd.prog 3 = some 1 := by kernel_rfl
  have e3 : zeroCells Tryd.prog 3 = some [.int .i64 0] := by kernel_rfl
  refine ⟨.row false 3 (E.take 0 ++ (List.replicate n [IV.int .i64 0]).flatten ++ E.drop (0 + n * 1)), ?_⟩
  simp only [clearA, e1, e2, e3, h1, Option.bind_some]
  rw [if_pos ⟨by omega, trivial, rfl, h2, hn⟩]
theorem FoldPasses_bad (k : Nat) (p : Pg) (nl : Bool) (cap : Option Nat) (nl2 : Bool) (cap2 : Option Nat) (hk : p.outs.length + p.code.length + 100 ≤ k) (hn : nl2 = true → p.outs = []) (hs : p.code.length * 40 ≤ roomBytes) (hs2 : p.outs.length * 8 ≤ roomBytes) (hl : ¬ (300 < p.code.length ∧ p.code.length ≤ 16384)) (hr : rightM p = false) :
    run (k+1) 3 [aP p nl cap nl2 cap2] = some (bb true) := by
  obtain ⟨k, rfl⟩ : ∃ j, k = j + 60 := ⟨k - 60, by omega⟩
  have hlong := long_ev (k + 59) p nl cap nl2 cap2
  obtain ⟨x1, d1, x2, d2, hcp⟩ := copy_ev (k + 59) p nl cap nl2 cap2 hs hs2
  obtain ⟨HB, hP⟩ := pass_bad0 (k + 59) p nl cap nl2 cap2 (by omega) hr
  have hro : (roomBytes : Nat) = 140737488355328 := rfl
  have hsm := same12_ev (k + 59) p x1 x2 nl nl2 d1 d2 cap cap2 (by omega) (by omega) (by omega)
  have hrt := right13_ev (k + 59) p nl cap nl2 cap2 (by omega)
  have hsz := same12_ev (k + 59) zP true true true true (some 0) (some 0) (some 0) (some 0) (by decide) (by decide) (by show 0 + 0 + 10 ≤ _; omega)
  rw [show aP zP true (some 0) true (some 0) = .agg [.c (.int .i64 0), .c (.int .i64 0), .c (.slice [] 0 true (some 0)), .c (.slice [] 0 true (some 0))] from rfl] at hP hsz
  simp only [run, aP, ii, bb, hr] at hlong hcp hP hsm hrt hsz
  have hkp : ∀ H, keepO (some (AV.tup [.agg [.c (.int .i64 0), .c (.int .i64 0), .c (.slice [] 0 true (some 0)), .c (.slice [] 0 true (some 0))], .c (.int .i64 80)], HB)) H = some (AV.tup [.agg [.c (.int .i64 0), .c (.int .i64 0), .c (.slice [] 0 true (some 0)), .c (.slice [] 0 true (some 0))], .c (.int .i64 80)], H) := fun H => by
    simp [keepO, AV.imp, imps1, AV.imp1, imps0, AV.imp0, rowsOf]
  rw [run, ev3]
  simp only [Tryd.f3, aP, ii, bb, works_ev, doCall_cx0, hlong, hl, hcp, hP, hsm, hrt, hsz, hkp, doCall_cxK, EVb, EVc, Int.reduceEq, Int.reduceToNat, Int.reduceLE, Int.reduceLT, Int.reduceAdd, Int.reduceMul, Int.reduceSub, Int.reduceNeg, Nat.reduceAdd, Nat.reduceSub, Nat.reduceMul, Nat.reduceLT, Nat.reduceBEq, Nat.reduceEqDiff, Nat.reduceLeDiff, FACTS, TYPES]
theorem loop3_14_nil (kf : Nat) (j : Nat) (x y ov : AV) (k : Nat) (l : Ass) (H : Heap) (z : Option Out) (hz : loopL Tryd.prog tab kf 3 (loopOf Tryd.f3 14) 58 [1, 3, 4, 43, 44] (j+1) (k+1) l H = z)
    (h1 : asc l 1 = .ptr 0 0) (h3 : asc l 3 = .ptr 1 0) (h4 : asc l 4 = .ptr j 0) (h43 : asc l 43 = ii 0) (h44 : asc l 44 = ii 0) (hl : H.length = j + 1) :
    ∃ l', z = some (.exit 0 (fr 58 l') H) ∧ asc l' 1 = .ptr 0 0 ∧ asc l' 3 = .ptr 1 0 ∧ asc l' 4 = .ptr j 0 := by
  simp only [loopL_succ, trim_same hl] at hz
  simp only [h1, h3, h4, h43, h44, loopL_succ, loopOf, findLoop, firstRegion, Option.some_or, Option.none_or, Option.getD_some, Option.some.injEq, Tryd.f3, EVb, EVc, Int.reduceEq, Int.reduceToNat, Int.reduceLE, Int.reduceLT, Int.reduceAdd, Int.reduceMul, Int.reduceSub, Int.reduceNeg, Nat.reduceAdd, Nat.reduceSub, Nat.reduceMul, Nat.reduceLT, Nat.reduceBEq, Nat.reduceEqDiff, Nat.reduceLeDiff, FACTS, TYPES] at hz
  exact ⟨_, hz.symm, (by rfl), (by rfl), (by rfl)⟩
theorem FoldPasses_good (k : Nat) (p : Pg) (nl : Bool) (cap : Option Nat) (nl2 : Bool) (cap2 : Option Nat) (hk : p.outs.length + p.code.length + 100 ≤ k) (hn : nl2 = true → p.outs = []) (hs : p.code.length * 40 ≤ roomBytes) (hs2 : p.outs.length * 8 ≤ roomBytes) (hl : ¬ (300 < p.code.length ∧ p.code.length ≤ 16384)) (hr : rightM p = true) :
    run (k+1) 3 [aP p nl cap nl2 cap2] = some (bb true) := by
  obtain ⟨k, rfl⟩ : ∃ j, k = j + 60 := ⟨k - 60, by omega⟩
  have hlong := long_ev (k + 59) p nl cap nl2 cap2
  obtain ⟨x1, d1, x2, d2, hcp⟩ := copy_ev (k + 59) p nl cap nl2 cap2 hs hs2
  obtain ⟨HB, cv, oid, hH, hP⟩ := pass_raw (k + 59) p nl cap nl2 cap2 (by omega) hr hn
  have hro : (roomBytes : Nat) = 140737488355328 := rfl
  have hsm := same12_ev (k + 59) p x1 x2 nl nl2 d1 d2 cap cap2 (by omega) (by omega) (by omega)
  have hrt := right13_ev (k + 59) p nl cap nl2 cap2 (by omega)
  obtain ⟨y1, e1, y2, e2, hrp⟩ := refPass_ev (k + 59) p nl cap nl2 cap2 (by omega) hr
  have hpl := passC_len p.code
  have hol := encInts_length p.outs
  have hcl := encCode_length (passC p.code)
  have hr' := hr
  simp only [rightM, Bool.and_eq_true] at hr'
  obtain ⟨⟨hr1, _⟩, hr3⟩ := hr'
  simp only [headM, decide_eq_true_eq] at hr1
  rcases held_keep (H0 := [.cells 25 [ii p.ins, ii p.regs, sC p.code nl cap, sI p.outs nl2 cap2], .cells 25 [ii p.ins, ii p.regs, sC p.code x1 d1, sI p.outs x2 d2]]) (e := .int .i64 0) (x := .int .i64 p.ins) (y := .int .i64 p.regs) hH with ⟨rfl, hnil, hkp⟩ | ⟨junk, hkp⟩
  · have hsz := same12_ev (k + 59) (passM p) true false y1 y2 (some 0) none e1 e2 (by show (passC p.code).length ≤ _; omega) (by show p.outs.length ≤ _; omega) (by show (passC p.code).length + p.outs.length + 10 ≤ _; omega)
    simp only [run, aP, ii, bb, sC, sI, hr, passM, hnil, encCode, List.length_nil] at hlong hcp hP hsm hrt hrp hkp hsz
    rw [run, ev3]
    simp only [Tryd.f3, aP, ii, bb, works_ev, doCall_cx0, hlong, hl, hcp, hP, hsm, hrt, hkp, doCall_cxK, EVb, EVc, Int.reduceEq, Int.reduceToNat, Int.reduceLE, Int.reduceLT, Int.reduceAdd, Int.reduceMul, Int.reduceSub, Int.reduceNeg, Nat.reduceAdd, Nat.reduceSub, Nat.reduceMul, Nat.reduceLT, Nat.reduceBEq, Nat.reduceEqDiff, Nat.reduceLeDiff, FACTS, TYPES]
    rw [evalCode_drawn Tryd.f3 11 dr3_11]; rotate_left; rfl
    have hro : ∀ a b d : AObj, rowOf [a, b, .row false 3 (encInts p.outs), d] 2 p.outs.length = some (3, encInts p.outs) := fun a b d => rowOf_eq rfl hol
    have hto : (encInts p.outs).take (p.outs.length * 1) = encInts p.outs := by rw [Nat.mul_one, ← hol, List.take_length]
    have hlo : p.outs.length * 1 ≤ p.outs.length := by omega
    simp only [hrp, hsz, hro, hto, hlo, freeO_cxN, encCode, List.length_nil, frzTup_cons, frzV_agg, frzs_cell, frzs_hsl, frzs_nil, frz_hsl, frz2_some, frzTup_nil, frzV_c, EVd, Nat.reducePow, Nat.reduceDiv, Nat.reduceMod, EVb, EVc, Int.reduceEq, Int.reduceToNat, Int.reduceLE, Int.reduceLT, Int.reduceAdd, Int.reduceMul, Int.reduceSub, Int.reduceNeg, Nat.reduceAdd, Nat.reduceSub, Nat.reduceMul, Nat.reduceLT, Nat.reduceBEq, Nat.reduceEqDiff, Nat.reduceLeDiff, FACTS, TYPES]
    rw [evalCode_loopOf Tryd.f3 14 lp3_14]; rotate_left; rfl; rfl
    generalize hz : loopL _ _ _ _ _ _ _ _ _ _ _ = z
    obtain ⟨l', rfl, a1, a3, a4⟩ := loop3_14_nil (k + 60) 3 (ii p.ins) (ii p.regs) (.c (.bool true)) (k + 59) _ _ z hz (by rfl) (by rfl) (by rfl) (by rfl) (by rfl) (by rfl)
    obtain ⟨o, hcr⟩ := clear23 (H := [.cells 25 [ii p.ins, ii p.regs, sC p.code nl cap, sI p.outs nl2 cap2], .cells 25 [ii p.ins, ii p.regs, sC p.code x1 d1, sI p.outs x2 d2], .row false 3 (encInts p.outs), .cells 25 [ii p.ins, ii p.regs, .c (.slice [] 0 true (some 0)), .hsl 2 0 p.outs.length p.outs.length 1]]) (id := 2) rfl hol (by omega)
    simp only [ii, sC, sI] at hcr
    simp only [a1, a3, a4, hcr, hsm, exec_clear, EVb, EVc, Int.reduceEq, Int.reduceToNat, Int.reduceLE, Int.reduceLT, Int.reduceAdd, Int.reduceMul, Int.reduceSub, Int.reduceNeg, Nat.reduceAdd, Nat.reduceSub, Nat.reduceMul, Nat.reduceLT, Nat.reduceBEq, Nat.reduceEqDiff, Nat.reduceLeDiff, FACTS, TYPES]
  · have hsz := same12_ev (k + 59) (passM p) false false y1 y2 none none e1 e2 (by show (passC p.code).length ≤ _; omega) (by show p.outs.length ≤ _; omega) (by show (passC p.code).length + p.outs.length + 10 ≤ _; omega)
    obtain ⟨N, hN⟩ : ∃ N, N = (passC p.code).length := ⟨_, rfl⟩
    obtain ⟨CC, hCC⟩ : ∃ CC, CC = encCode (passC p.code) ++ junk := ⟨_, rfl⟩
    have htk : CC.take (N * 5) = encCode (passC p.code) := by rw [hCC, hN, ← hcl, List.take_left]
    have hle : N * 5 ≤ CC.length := by rw [hCC, List.length_append, hcl, hN]; omega
    rw [← hN, ← hCC] at hkp
    simp only [run, aP, ii, bb, sC, sI, hr, passM, ← hN] at hlong hcp hP hsm hrt hrp hkp hsz
    rw [run, ev3]
    simp only [Tryd.f3, aP, ii, bb, works_ev, doCall_cx0, hlong, hl, hcp, hP, hsm, hrt, hkp, doCall_cxK, EVb, EVc, Int.reduceEq, Int.reduceToNat, Int.reduceLE, Int.reduceLT, Int.reduceAdd, Int.reduceMul, Int.reduceSub, Int.reduceNeg, Nat.reduceAdd, Nat.reduceSub, Nat.reduceMul, Nat.reduceLT, Nat.reduceBEq, Nat.reduceEqDiff, Nat.reduceLeDiff, FACTS, TYPES]
    rw [evalCode_drawn Tryd.f3 11 dr3_11]; rotate_left; rfl
    have hto : (encInts p.outs).take (p.outs.length * 1) = encInts p.outs := by rw [Nat.mul_one, ← hol, List.take_length]
    have hlo : p.outs.length * 1 ≤ p.outs.length := by omega
    simp only [hrp, hsz, hol, htk, hle, hto, hlo, freeO_cxN, frzTup_cons, frzV_agg, frzs_cell, frzs_hsl, frzs_nil, frz_hsl, frz2_some, frzTup_nil, frzV_c, EVd, Nat.reducePow, Nat.reduceDiv, Nat.reduceMod, EVb, EVc, Int.reduceEq, Int.reduceToNat, Int.reduceLE, Int.reduceLT, Int.reduceAdd, Int.reduceMul, Int.reduceSub, Int.reduceNeg, Nat.reduceAdd, Nat.reduceSub, Nat.reduceMul, Nat.reduceLT, Nat.reduceBEq, Nat.reduceEqDiff, Nat.reduceLeDiff, FACTS, TYPES]
    rw [evalCode_loopOf Tryd.f3 14 lp3_14]; rotate_left; rfl; rfl
    generalize hz : loopL _ _ _ _ _ _ _ _ _ _ _ = z
    obtain ⟨l', H', rfl, a1, a3, a4, g4, g0, g1, g3⟩ := loop3_14 (k + 60) _ rfl 4 N CC.length 2 3 (by omega) (by omega) (by omega) (by omega) (by omega) hle (by omega) (ii p.ins) (ii p.regs) (.hsl 3 0 p.outs.length p.outs.length 1) _ _ (.row false 3 (encInts p.outs)) N 0 _ _ _ CC z hz (by omega) (by omega) (by rfl) (by rfl) (by rfl) (by rfl) (by rfl) (by rfl) (by rfl) (by rfl) (by rfl) (by rfl) (by rfl) rfl
    obtain ⟨o, hcr⟩ := clear23 (H := H') (id := 3) g3 hol (by omega)
    have hset : ∀ i, i ≠ 3 → (H'.set 3 o)[i]? = H'[i]? := fun i h => List.getElem?_set_ne (Ne.symm h)
    have h0 := (hset 0 (by omega)).trans g0
    have h1 := (hset 1 (by omega)).trans g1
    simp only [ii] at g4
    simp only [a1, a3, a4, g4, h0, h1, hcr, hsm, exec_clear, EVb, EVc, Int.reduceEq, Int.reduceToNat, Int.reduceLE, Int.reduceLT, Int.reduceAdd, Int.reduceMul, Int.reduceSub, Int.reduceNeg, Nat.reduceAdd, Nat.reduceSub, Nat.reduceMul, Nat.reduceLT, Nat.reduceBEq, Nat.reduceEqDiff, Nat.reduceLeDiff, FACTS, TYPES]
theorem FoldPasses_ev (k : Nat) (p : Pg) (nl : Bool) (cap : Option Nat) (nl2 : Bool) (cap2 : Option Nat) (hk : p.outs.length + p.code.length + 100 ≤ k) (hn : nl2 = true → p.outs = []) (hs : p.code.length * 40 ≤ roomBytes) (hs2 : p.outs.length * 8 ≤ roomBytes) :
    run (k+1) 3 [aP p nl cap nl2 cap2] = some (bb true) := by
  by_cases hl : 300 < p.code.length ∧ p.code.length ≤ 16384
  · obtain ⟨k, rfl⟩ : ∃ j, k = j + 60 := ⟨k - 60, by omega⟩
    have hlong := long_ev (k + 59) p nl cap nl2 cap2
    simp only [run, aP, ii, bb] at hlong
    rw [run, ev3]
    simp only [Tryd.f3, aP, ii, bb, works_ev, doCall_cx0, hlong, hl, EVb, EVc, Int.reduceEq, Int.reduceToNat, Int.reduceLE, Int.reduceLT, Int.reduceAdd, Int.reduceMul, Int.reduceSub, Int.reduceNeg, Nat.reduceAdd, Nat.reduceSub, Nat.reduceMul, Nat.reduceLT, Nat.reduceBEq, Nat.reduceEqDiff, Nat.reduceLeDiff, FACTS, TYPES]
  · cases hr : rightM p with
    | false => exact FoldPasses_bad k p nl cap nl2 cap2 hk hn hs hs2 hl hr
    | true => exact FoldPasses_good k p nl cap nl2 cap2 hk hn hs hs2 hl hr
end Go.Proofs.F13
