/- A part of the proof: what functions of the program answer; conditions stand in each theorem. -/
import Derived.Test.YtiiannaficbjeaaDoorVD
import Derived.Test.YtiiannaficbjeaaDoorVA
import Derived.Test.YtiiannaficbjeaaDoorAbArgs
import Derived.SizedLaws
set_option linter.unusedVariables false
set_option linter.unusedSimpArgs false
set_option linter.unusedSectionVars false
namespace Go.Proofs.Sw.W
open Go.Ab
section
variable [Globals]
abbrev sN (Z : List RI) (nl : Bool) (cap : Option Nat) : AV := .c (.slice (encN Z) Z.length nl cap)
theorem loop_l15list (kf : Nat) (D : List Int) (nl : Bool) (cap : Option Nat) (hl : D.length ≤ 20000) (hin : ∀ x ∈ D, -9223372036854775808 ≤ x ∧ x ≤ 9223372036854775807) (hkf : 20 < kf) (k : Nat) (l : Ass) (z : Option Out) (hz : loopR Tryd.prog tab (kf + 4) none LB25_3 25 19 [3, 6, 7, 8] 1 k l ([lo 104 0 (encN [])]) = z) (hk : D.length < k) (a3 : asc l 3 = lv 0 2 0) (a6 : asc l 6 = sI D nl cap) (a7 : asc l 7 = ii D.length) (a8 : asc l 8 = ii 0) :
    ∃ l' Z, z = some (.exit 0 (fr 19 l') [lo 104 D.length (encN Z)]) ∧ asc l' 3 = lv 0 2 D.length ∧ Z.map RI.v = D ∧ (∀ r ∈ Z, (nD r.v).length ≤ 4) := by
  subst hz
  refine loop_nat D.length (fun k l H => loopR Tryd.prog tab (kf + 4) none LB25_3 25 19 [3, 6, 7, 8] 1 k l H)
    (fun i l H => ∃ (Z : List RI), asc l 3 = lv 0 2 i ∧ asc l 6 = sI D nl cap ∧ asc l 7 = ii D.length ∧ asc l 8 = ii i ∧ (Z.map RI.v = D.take i ∧ (∀ r ∈ Z, (nD r.v).length ≤ 4)) ∧ ∃ G, H = ([lo 104 i (encN Z)]) ++ G)
    (fun z => ∃ l' Z, z = some (.exit 0 (fr 19 l') [lo 104 D.length (encN Z)]) ∧ asc l' 3 = lv 0 2 D.length ∧ Z.map RI.v = D ∧ (∀ r ∈ Z, (nD r.v).length ≤ 4)) ?_ D.length 0 k l _ (by omega) hk ⟨[], a3, a6, a7, a8, ⟨rfl, fun r h => by cases h⟩, [], by rw [List.append_nil]⟩
  clear hk a3 a6 a7 a8
  rintro i k l H hi ⟨Z, a3, a6, a7, a8, hp, G, rfl⟩
  have ht : trim 1 (fr 19 (keep l [3, 6, 7, 8])) (([lo 104 i (encN Z)]) ++ G) = ([lo 104 i (encN Z)]) := trim_app (by simp) (by simp only [a3, a6, a7, a8, lo_under, lv_under, EVb, EVc, Int.reduceEq, Int.reduceToNat, Int.reduceLE, Int.reduceLT, Int.reduceAdd, Int.reduceMul, Int.reduceSub, Int.reduceNeg, Nat.reduceAdd, Nat.reduceSub, Nat.reduceMul, Nat.reduceLT, Nat.reduceBEq, Nat.reduceEqDiff, Nat.reduceLeDiff]) (by simp only [lo_under, lv_under, EVb, EVc, Int.reduceEq, Int.reduceToNat, Int.reduceLE, Int.reduceLT, Int.reduceAdd, Int.reduceMul, Int.reduceSub, Int.reduceNeg, Nat.reduceAdd, Nat.reduceSub, Nat.reduceMul, Nat.reduceLT, Nat.reduceBEq, Nat.reduceEqDiff, Nat.reduceLeDiff])
  by_cases hc : i < D.length
  · have hc' : (i : Int) < ((D.length : Nat) : Int) := by omega
    have hc0 : (0 : Int) ≤ i := by omega
    have hw : IntKind.wrap .i64 ((i : Int) + 1) = ((i + 1 : Nat) : Int) := by rw [wrap64 (by omega) (by omega)]; omega
    obtain ⟨hp, hZs⟩ := hp
    have hx := encInts_get hc
    have hb := hin _ (List.getElem_mem hc)
    obtain ⟨y, hy, h1⟩ := Of_ev kf D[i] hb.1 hb.2 hkf
    have hyl : (nD y.v).length ≤ 4 := dig_len (k := 4) (by
      have : (4294967296 : Nat) ^ 4 = 340282366920938463463374607431768211456 := by decide
      omega)
    have hZl : Z.length = i := by
      have := congrArg List.length hp
      simpa [List.length_take, Nat.min_eq_left (show i ≤ D.length by omega)] using this
    have hell := encInts_length D
    have hap := fun (X : Heap) (y z : IV) => apO_lv (e := 104) (s := 0) (n := i) (m := 1) (sz := 2) (by_ := 32) (cells := encN Z) (cs := [y, z]) (H := lo 104 i (encN Z) :: X) (by decide) (Nat.le_trans (Nat.mul_le_mul_right 32 (show i + 1 ≤ 20001 by omega)) (by decide)) (by decide) (by rfl) (by rw [encN_length, hZl])
    simp only [run, aW, ii] at h1
    simp only [loopR_succ, ht]
    simp only [a3, a6, a7, a8, hc', hc0, hw, hx, hell, h1, hap, loopR_succ, loopOf, findLoop, firstRegion, Option.some_or, Option.none_or, Option.getD_some, Option.some.injEq, Tryd.f25, FT, Int.reduceEq, Int.reduceToNat, Int.reduceLE, Int.reduceLT, Int.reduceAdd, Int.reduceMul, Int.reduceSub, Int.reduceNeg, Nat.reduceAdd, Nat.reduceSub, Nat.reduceMul, Nat.reduceLT, Nat.reduceBEq, Nat.reduceEqDiff, Nat.reduceLeDiff]
    refine .inr ⟨_, _, hc, rfl, Z ++ [y], (by rfl), (by rfl), (by rfl), (by rfl), ⟨?_, ?_⟩, ⟨_, by rw [encN_append]; exact rfl⟩⟩
    · rw [List.map_append, hp, List.take_succ_eq_append_getElem hc]
      simp [hy]
    · intro r hr
      rcases List.mem_append.1 hr with hr | hr
      · exact hZs r hr
      · rw [List.mem_singleton.1 hr]; exact hyl
  · refine .inl ?_
    obtain rfl : i = D.length := by omega
    have hc' : ¬ (((D.length : Nat) : Int) < ((D.length : Nat) : Int)) := by omega
    obtain ⟨hp, hZs⟩ := hp
    rw [List.take_of_length_le (Nat.le_refl _)] at hp
    simp only [loopR_succ, ht]
    simp only [a3, a6, a7, a8, hc', loopR_succ, loopOf, findLoop, firstRegion, Option.some_or, Option.none_or, Option.getD_some, Option.some.injEq, Tryd.f25, FT, Int.reduceEq, Int.reduceToNat, Int.reduceLE, Int.reduceLT, Int.reduceAdd, Int.reduceMul, Int.reduceSub, Int.reduceNeg, Nat.reduceAdd, Nat.reduceSub, Nat.reduceMul, Nat.reduceLT, Nat.reduceBEq, Nat.reduceEqDiff, Nat.reduceLeDiff]
    exact ⟨_, Z, rfl, (by rfl), hp, hZs⟩
theorem l15list_ev (k : Nat) (l : List Int) (nl : Bool) (cap : Option Nat) (hl : l.length ≤ 20000) (hin : ∀ x ∈ l, -9223372036854775808 ≤ x ∧ x ≤ 9223372036854775807) (hk : l.length + 20 < k) :
    ∃ (Z : List RI) (nl3 : Bool) (cap3 : Option Nat), Z.map RI.v = l ∧ (∀ r ∈ Z, (nD r.v).length ≤ 4) ∧ run (k+5) 25 [sI l nl cap] = some (sN Z nl3 cap3) := by
  rw [run, ev25, ans_trim]
  simp only [Tryd.f25, FT, Int.reduceEq, Int.reduceToNat, Int.reduceLE, Int.reduceLT, Int.reduceAdd, Int.reduceMul, Int.reduceSub, Int.reduceNeg, Nat.reduceAdd, Nat.reduceSub, Nat.reduceMul, Nat.reduceLT, Nat.reduceBEq, Nat.reduceEqDiff, Nat.reduceLeDiff]
  rw [evalCode_loopB LB25_3 lp25_3]; rotate_left; rfl; rfl; rfl
  generalize hz : loopR _ _ _ _ _ _ _ _ _ _ _ _ = z
  obtain ⟨l', Z, rfl, e3, hp, hZs⟩ := loop_l15list k l nl cap hl hin (by omega) _ _ z hz (by omega) (by rfl) (by rfl) (by rfl) (by rfl)
  clear hz
  have hZl : Z.length = l.length := by rw [← hp]; simp
  have hel := encN_length Z
  rw [hZl] at hel
  refine ⟨Z, decide (l.length = 0), if l.length = 0 then some 0 else none, hp, hZs, ?_⟩
  simp only [e3, hel, FT, Int.reduceEq, Int.reduceToNat, Int.reduceLE, Int.reduceLT, Int.reduceAdd, Int.reduceMul, Int.reduceSub, Int.reduceNeg, Nat.reduceAdd, Nat.reduceSub, Nat.reduceMul, Nat.reduceLT, Nat.reduceBEq, Nat.reduceEqDiff, Nat.reduceLeDiff]
  rw [sN, hZl]
  try rfl
theorem take_vN {A : List RI} {i : Nat} (h : i < A.length) : (A.map RI.v).take (i + 1) = (A.map RI.v).take i ++ [(A.getD i zN).v] := by
  rw [List.take_succ_eq_append_getElem (by simpa using h), List.getElem_map, List.getD_eq_getElem?_getD, List.getElem?_eq_getElem h]
  rfl
end
end Go.Proofs.Sw.W
namespace Go.Proofs.Sw.W
open Go.Ab
section
variable [Globals]
theorem eRight_ev (k : Nat) (p : Pg) (nl : Bool) (cap : Option Nat) (nl2 : Bool) (cap2 : Option Nat) (hr : rightM p = true) (hk : p.outs.length + p.code.length + 10 ≤ k) :
    run (k+2) 51 [aP p nl cap nl2 cap2, ii p.ins] = some (ii 0) := by
  obtain ⟨n, hc⟩ := check_ev k p nl cap nl2 cap2 hk
  rw [checkE, if_pos hr] at hc
  simp only [run, aP, ii] at hc
  rw [run, ev51, ans_trim]
  simp only [Tryd.f51, aP, ii, hc, FT, Int.reduceEq, Int.reduceToNat, Int.reduceLE, Int.reduceLT, Int.reduceAdd, Int.reduceMul, Int.reduceSub, Int.reduceNeg, Nat.reduceAdd, Nat.reduceSub, Nat.reduceMul, Nat.reduceLT, Nat.reduceBEq, Nat.reduceEqDiff, Nat.reduceLeDiff]
theorem eRunI_ev (k : Nat) (ins : Int) (n : Nat) (code : List Ins) (nl : Bool) (cap : Option Nat) (outs : List Int) (nl2 : Bool) (cap2 : Option Nat) (hn : n ≤ 128) (R0 : List RI) (hR0 : R0.length = n) (hS0 : ∀ r ∈ R0, (nD r.v).length ≤ 4) (hcode : ∀ x ∈ code, mayM x n = true) (hcl : code.length ≤ 300) (hk : 70000 ≤ k) :
    ∃ (R : List RI) (j : Int), R.length = n ∧ ((runE numSem code (R0.map RI.v) = some (R.map RI.v) ∧ j = -1 ∧ (∀ r ∈ R, (nD r.v).length ≤ 1000)) ∨ (runE numSem code (R0.map RI.v) = none ∧ 0 ≤ j)) ∧
      evalT Tryd.prog (mkHints tab) (k+10) (.fn 52) [fnsV, aP ⟨ins, n, code, outs⟩ nl cap nl2 cap2, .hsl 0 0 n (n * 2) 2, .c (.fn 54)] [rN R0] = some (ii j, [rN R]) := by
  rw [ev52]
  simp only [Tryd.f52, fnsV, aP, ii, FT, Int.reduceEq, Int.reduceToNat, Int.reduceLE, Int.reduceLT, Int.reduceAdd, Int.reduceMul, Int.reduceSub, Int.reduceNeg, Nat.reduceAdd, Nat.reduceSub, Nat.reduceMul, Nat.reduceLT, Nat.reduceBEq, Nat.reduceEqDiff, Nat.reduceLeDiff]
  rw [evalCode_loopB LB52_2 lp52_2]; rotate_left; rfl; rfl; rfl
  generalize hz : loopR _ _ _ _ _ _ _ _ _ _ _ _ = z
  obtain ⟨l', R, rfl, hrun, hRl, hRS⟩ | ⟨hrun, l', R, j, X, rfl, e8, hRl⟩ := loop_run2 k ins n code nl cap outs nl2 cap2 hn R0 hR0 hS0 hcode hcl hk _ _ z hz (by omega) (by rfl) (by rfl) (by rfl) (by rfl) (by rfl) (by rfl)
  · clear hz
    refine ⟨R, -1, hRl, .inl ⟨hrun, rfl, hRS⟩, ?_⟩
    simp only [FT, Int.reduceEq, Int.reduceToNat, Int.reduceLE, Int.reduceLT, Int.reduceAdd, Int.reduceMul, Int.reduceSub, Int.reduceNeg, Nat.reduceAdd, Nat.reduceSub, Nat.reduceMul, Nat.reduceLT, Nat.reduceBEq, Nat.reduceEqDiff, Nat.reduceLeDiff]
  · clear hz
    refine ⟨R, j, hRl, .inr ⟨hrun, by omega⟩, ?_⟩
    simp only [e8, FT, Int.reduceEq, Int.reduceToNat, Int.reduceLE, Int.reduceLT, Int.reduceAdd, Int.reduceMul, Int.reduceSub, Int.reduceNeg, Nat.reduceAdd, Nat.reduceSub, Nat.reduceMul, Nat.reduceLT, Nat.reduceBEq, Nat.reduceEqDiff, Nat.reduceLeDiff]
theorem encN_rep (n : Nat) : (List.replicate n [IV.bool false, IV.slice [] 0 true (some 0)]).flatten = encN (List.replicate n zN) := by
  induction n with
  | zero => rfl
  | succ n ih =>
    rw [List.replicate_succ, List.flatten_cons, ih, List.replicate_succ, encN]
    simp [dig_zero, encD]
def iniN (Z : List RI) (n : Nat) : List RI := Z ++ List.replicate (n - Z.length) zN
def outN (R : List RI) (outs : List Int) (i : Nat) : List RI := (outs.take i).map fun r => R.getD r.toNat zN
theorem outN_succ {R : List RI} {outs : List Int} {i : Nat} (h : i < outs.length) : outN R outs (i + 1) = outN R outs i ++ [R.getD outs[i].toNat zN] := by
  unfold outN
  rw [List.take_succ_eq_append_getElem h, List.map_append]; rfl
theorem outN_length {R : List RI} {outs : List Int} {i : Nat} (h : i ≤ outs.length) : (outN R outs i).length = i := by
  unfold outN
  rw [List.length_map, List.length_take]; omega
theorem outN_full (R : List RI) (outs : List Int) : outN R outs outs.length = outs.map fun r => R.getD r.toNat zN := by
  unfold outN
  rw [List.take_of_length_le (Nat.le_refl _)]
theorem loop_Run11 (kf : Nat) (ins : Int) (n : Nat) (code : List Ins) (nl : Bool) (cap : Option Nat) (outs : List Int) (nl2 : Bool) (cap2 : Option Nat) (R : List RI) (hR : R.length = n) (hout : ∀ r ∈ outs, 0 ≤ r ∧ r < (n : Int)) (ho : outs.length ≤ 200) (k : Nat) (l : Ass) (z : Option Out) (hz : loopR Tryd.prog tab kf none LB24_11 24 49 [8, 10, 34, 35, 36] 3 k l ([lo 104 0 (encN (outN R outs 0)), bxQ ins n code nl cap outs nl2 cap2, rN R]) = z) (hk : outs.length < k) (a8 : asc l 8 = .hsl 2 0 n (n * 2) 2) (a10 : asc l 10 = lv 0 2 0) (a34 : asc l 34 = sI outs nl2 cap2) (a35 : asc l 35 = ii outs.length) (a36 : asc l 36 = ii 0) :
    ∃ l', z = some (.exit 0 (fr 49 l') ([lo 104 outs.length (encN (outN R outs outs.length)), bxQ ins n code nl cap outs nl2 cap2, rN R])) ∧ asc l' 8 = .hsl 2 0 n (n * 2) 2 ∧ asc l' 10 = lv 0 2 outs.length ∧ asc l' 34 = sI outs nl2 cap2 ∧ asc l' 35 = ii outs.length ∧ asc l' 36 = ii outs.length := by
  subst hz
  refine loop_nat outs.length (fun k l H => loopR Tryd.prog tab kf none LB24_11 24 49 [8, 10, 34, 35, 36] 3 k l H)
    (fun i l H => asc l 8 = .hsl 2 0 n (n * 2) 2 ∧ asc l 10 = lv 0 2 i ∧ asc l 34 = sI outs nl2 cap2 ∧ asc l 35 = ii outs.length ∧ asc l 36 = ii i ∧ ∃ G, H = ([lo 104 i (encN (outN R outs i)), bxQ ins n code nl cap outs nl2 cap2, rN R]) ++ G)
    (fun z => ∃ l', z = some (.exit 0 (fr 49 l') ([lo 104 outs.length (encN (outN R outs outs.length)), bxQ ins n code nl cap outs nl2 cap2, rN R])) ∧ asc l' 8 = .hsl 2 0 n (n * 2) 2 ∧ asc l' 10 = lv 0 2 outs.length ∧ asc l' 34 = sI outs nl2 cap2 ∧ asc l' 35 = ii outs.length ∧ asc l' 36 = ii outs.length) ?_ outs.length 0 k l _ (by omega) hk ⟨a8, a10, a34, a35, a36, [], by rw [List.append_nil]⟩
  clear hk a8 a10 a34 a35 a36
  rintro i k l H hi ⟨a8, a10, a34, a35, a36, G, rfl⟩
  have ht : trim 3 (fr 49 (keep l [8, 10, 34, 35, 36])) (([lo 104 i (encN (outN R outs i)), bxQ ins n code nl cap outs nl2 cap2, rN R]) ++ G) = ([lo 104 i (encN (outN R outs i)), bxQ ins n code nl cap outs nl2 cap2, rN R]) := trim_app (by simp) (by simp only [a8, a10, a34, a35, a36, lo_under, lv_under, EVb, EVc, Int.reduceEq, Int.reduceToNat, Int.reduceLE, Int.reduceLT, Int.reduceAdd, Int.reduceMul, Int.reduceSub, Int.reduceNeg, Nat.reduceAdd, Nat.reduceSub, Nat.reduceMul, Nat.reduceLT, Nat.reduceBEq, Nat.reduceEqDiff, Nat.reduceLeDiff]) (by simp only [lo_under, lv_under, EVb, EVc, Int.reduceEq, Int.reduceToNat, Int.reduceLE, Int.reduceLT, Int.reduceAdd, Int.reduceMul, Int.reduceSub, Int.reduceNeg, Nat.reduceAdd, Nat.reduceSub, Nat.reduceMul, Nat.reduceLT, Nat.reduceBEq, Nat.reduceEqDiff, Nat.reduceLeDiff])
  by_cases hc : i < outs.length
  · have hc' : (i : Int) < ((outs.length : Nat) : Int) := by omega
    have hc0 : (0 : Int) ≤ i := by omega
    have hw : IntKind.wrap .i64 ((i : Int) + 1) = ((i + 1 : Nat) : Int) := by rw [wrap64 (by omega) (by omega)]; omega
    have hx := encInts_get hc
    obtain ⟨hb0, hb1⟩ := hout _ (List.getElem_mem hc)
    obtain ⟨r, hr⟩ : ∃ r, r = outs[i] := ⟨_, rfl⟩
    rw [← hr] at hx hb0 hb1
    have hxr := encN_two (l := R) (i := r.toNat) (by omega)
    have hol := outN_length (R := R) (Nat.le_of_lt hc)
    have hos := outN_succ (R := R) hc
    rw [← hr] at hos
    have hel := encN_length R
    rw [hR] at hel
    have hel2 := encInts_length outs
    have hr2 : r.toNat * 2 + 2 ≤ n * 2 := by omega
    have hap := fun (X : Heap) (y z : IV) => apO_lv (e := 104) (s := 0) (n := i) (m := 1) (sz := 2) (by_ := 32) (cells := encN (outN R outs i)) (cs := [y, z]) (H := lo 104 i (encN (outN R outs i)) :: X) (by decide) (Nat.le_trans (Nat.mul_le_mul_right 32 (show i + 1 ≤ 20001 by omega)) (by decide)) (by decide) (by rfl) (by rw [encN_length, hol])
    have happ : encN (outN R outs i) ++ [.bool (decide ((R.getD r.toNat zN).v < 0)), .slice (encD (dig (R.getD r.toNat zN).v.natAbs)) (dig (R.getD r.toNat zN).v.natAbs).length (R.getD r.toNat zN).nl (R.getD r.toNat zN).cap] = encN (outN R outs (i + 1)) := by rw [hos, encN_append]; rfl
    simp only [loopR_succ, ht]
    simp only [a8, a10, a34, a35, a36, hc', hc0, hw, hx, hb0, hb1, hr2, hxr, hel, hel2, hap, happ, loopR_succ, loopOf, findLoop, firstRegion, Option.some_or, Option.none_or, Option.getD_some, Option.some.injEq, Tryd.f24, FT, Int.reduceEq, Int.reduceToNat, Int.reduceLE, Int.reduceLT, Int.reduceAdd, Int.reduceMul, Int.reduceSub, Int.reduceNeg, Nat.reduceAdd, Nat.reduceSub, Nat.reduceMul, Nat.reduceLT, Nat.reduceBEq, Nat.reduceEqDiff, Nat.reduceLeDiff]
    exact .inr ⟨_, _, hc, rfl, (by rfl), (by rfl), (by rfl), (by rfl), (by rfl), ⟨_, by rfl⟩⟩
  · refine .inl ?_
    obtain rfl : i = outs.length := by omega
    have hc' : ¬ (((outs.length : Nat) : Int) < ((outs.length : Nat) : Int)) := by omega
    simp only [loopR_succ, ht]
    simp only [a8, a10, a34, a35, a36, hc', loopR_succ, loopOf, findLoop, firstRegion, Option.some_or, Option.none_or, Option.getD_some, Option.some.injEq, Tryd.f24, FT, Int.reduceEq, Int.reduceToNat, Int.reduceLE, Int.reduceLT, Int.reduceAdd, Int.reduceMul, Int.reduceSub, Int.reduceNeg, Nat.reduceAdd, Nat.reduceSub, Nat.reduceMul, Nat.reduceLT, Nat.reduceBEq, Nat.reduceEqDiff, Nat.reduceLeDiff]
    exact ⟨_, rfl, (by rfl), (by rfl), (by rfl), (by rfl), (by rfl)⟩
end
end Go.Proofs.Sw.W
namespace Go.Proofs.Sw.W
open Go.Ab
section
variable [Globals]
theorem iniN_length {Z : List RI} {n : Nat} (h : Z.length ≤ n) : (iniN Z n).length = n := by simp [iniN]; omega
theorem iniN_cells {Z : List RI} {n : Nat} (h : Z.length ≤ n) : (encN (List.replicate n zN)).take 0 ++ (encN Z).take (Z.length * 2) ++ (encN (List.replicate n zN)).drop (0 + Z.length * 2) = encN (iniN Z n) := by
  have e : List.replicate n zN = List.replicate Z.length zN ++ List.replicate (n - Z.length) zN := by rw [List.replicate_append_replicate]; congr 1; omega
  have hl : (encN (List.replicate Z.length zN)).length = Z.length * 2 := by rw [encN_length, List.length_replicate]
  rw [List.take_zero, List.nil_append, Nat.zero_add, e, encN_append, List.drop_append_of_le_length (by omega), List.drop_of_length_le (by omega), List.nil_append, iniN, encN_append, List.take_of_length_le (by rw [encN_length]; exact Nat.le_refl _)]
theorem cpN {Z : List RI} {n : Nat} (h : Z.length ≤ n) {a b : AObj} {X : Heap} : cpO 2 (.hsl 2 0 n (n * 2) 2) (a :: b :: .row false 104 (encN (List.replicate n zN)) :: X) (some (encN Z, Z.length)) = some (Z.length, a :: b :: rN (iniN Z n) :: X) := by
  have hrep : (encN (List.replicate n zN)).length = n * 2 := by rw [encN_length, List.length_replicate]
  have hr : rowOf (a :: b :: .row false 104 (encN (List.replicate n zN)) :: X) 2 (n * 2) = some (104, encN (List.replicate n zN)) := rowOf_eq (fz := false) rfl hrep
  unfold cpO
  simp only [Option.bind_some, hr]
  rw [if_pos ⟨by omega, trivial, rfl⟩, Nat.min_eq_left h, iniN_cells h]
  rfl
theorem Run_ev (k : Nat) (ins : Int) (n : Nat) (code : List Ins) (outs : List Int) (nl : Bool) (cap : Option Nat) (nl2 : Bool) (cap2 : Option Nat) (Z : List RI) (nl3 : Bool) (cap3 : Option Nat) (hr : rightM ⟨ins, n, code, outs⟩ = true) (hZ : (Z.length : Int) = ins) (hZs : ∀ r ∈ Z, (nD r.v).length ≤ 4) (hcl : code.length ≤ 300) (hk : 70000 ≤ k) :
    (runE numSem code ((iniN Z n).map RI.v) = none ∧ ∃ j : Int, run (k+11) 24 [aP ⟨ins, n, code, outs⟩ nl cap nl2 cap2, sN Z nl3 cap3] = some (.tup [.c (.slice [] 0 true (some 0)), ii j, ii 20])) ∨
    ∃ (R : List RI) (nl4 : Bool) (cap4 : Option Nat), runE numSem code ((iniN Z n).map RI.v) = some (R.map RI.v) ∧ R.length = n ∧ (∀ r ∈ R, (nD r.v).length ≤ 1000) ∧ run (k+11) 24 [aP ⟨ins, n, code, outs⟩ nl cap nl2 cap2, sN Z nl3 cap3] = some (.tup [sN (outs.map fun r => R.getD r.toNat zN) nl4 cap4, ii 0, ii 0]) := by
  have hr' := hr
  simp only [rightM, headM, codeM, outsM, Bool.and_eq_true, decide_eq_true_eq, List.all_eq_true] at hr'
  obtain ⟨⟨⟨h1, h2, h3, h4, h5, h6⟩, ho⟩, hcd⟩ := hr'
  have q1 : (0 : Int) ≤ (n : Int) := by omega
  have q2 : n * 32 ≤ roomBytes := Nat.le_trans (show n * 32 ≤ 4096 by omega) (by decide)
  have q3 : n ≤ roomBytes := Nat.le_trans (show n ≤ 128 by omega) (by decide)
  have hZn : Z.length ≤ n := by omega
  have hcell := fun (a b : AObj) (X : Heap) => cpN (Z := Z) (n := n) hZn (a := a) (b := b) (X := X)
  have heZ := encN_length Z
  have hrep : (encN (List.replicate n zN)).length = n * 2 := by rw [encN_length, List.length_replicate]
  have hri := eRight_ev (k + 8) ⟨ins, n, code, outs⟩ nl cap nl2 cap2 hr (by simp only; omega)
  rw [show ((⟨ins, n, code, outs⟩ : Pg).ins) = (Z.length : Int) from hZ.symm] at hri
  have hnum := numbers_ev (k + 9)
  have hiS : ∀ r ∈ iniN Z n, (nD r.v).length ≤ 4 := by
    intro r hr
    rcases List.mem_append.1 hr with hr | hr
    · exact hZs r hr
    · rw [List.eq_of_mem_replicate hr]; simp [nD, dig_zero]
  obtain ⟨R, j, hRl, hcase, hrn⟩ := eRunI_ev k ins n code nl cap outs nl2 cap2 (by omega) (iniN Z n) (iniN_length hZn) hiS hcd hcl hk
  have hel := encN_length (iniN Z n)
  rw [iniN_length hZn] at hel
  have htk : (encN (iniN Z n)).take (n * 2) = encN (iniN Z n) := List.take_of_length_le (by rw [hel]; exact Nat.le_refl _)
  have heR := encN_length R
  rw [hRl] at heR
  simp only [run, aP, ii] at hri hnum
  simp only [aP, ii] at hrn
  rcases hcase with ⟨hrun, rfl, hRS⟩ | ⟨hrun, hj⟩
  · refine .inr ⟨R, decide (outs.length = 0), if outs.length = 0 then some 0 else none, hrun, hRl, hRS, ?_⟩
    rw [run, ev24, ans_trim]
    simp only [Tryd.f24, aP, ii, hri, q1, q2, q3, encN_rep, hcell, heZ, hrep, FT, Int.reduceEq, Int.reduceToNat, Int.reduceLE, Int.reduceLT, Int.reduceAdd, Int.reduceMul, Int.reduceSub, Int.reduceNeg, Nat.reduceAdd, Nat.reduceSub, Nat.reduceMul, Nat.reduceLT, Nat.reduceBEq, Nat.reduceEqDiff, Nat.reduceLeDiff]
    rw [evalCode_drawn Tryd.f24 6 dr24_6]; rotate_left; rfl
    simp (config := { maxSteps := 4000000 }) only [hnum, hrn, hel, htk, heR, EVd, List.getElem?_nil, Nat.reducePow, Nat.reduceDiv, Nat.reduceMod, FT, Int.reduceEq, Int.reduceToNat, Int.reduceLE, Int.reduceLT, Int.reduceAdd, Int.reduceMul, Int.reduceSub, Int.reduceNeg, Nat.reduceAdd, Nat.reduceSub, Nat.reduceMul, Nat.reduceLT, Nat.reduceBEq, Nat.reduceEqDiff, Nat.reduceLeDiff]
    rw [evalCode_loopB LB24_11 lp24_11]; rotate_left; rfl; rfl; rfl
    generalize hz : loopR _ _ _ _ _ _ _ _ _ _ _ _ = z
    obtain ⟨l', rfl, e8, e10, e34, e35, e36⟩ := loop_Run11 (k + 10) ins n code nl cap outs nl2 cap2 R hRl ho (by omega) _ _ z hz (by omega) (by rfl) (by rfl) (by rfl) (by rfl) (by rfl)
    clear hz
    rw [outN_full]
    have hOe : (encN (outs.map fun r => R.getD r.toNat zN)).length = outs.length * 2 := by rw [encN_length, List.length_map]
    simp only [e10, hOe, sN, List.length_map, FT, Int.reduceEq, Int.reduceToNat, Int.reduceLE, Int.reduceLT, Int.reduceAdd, Int.reduceMul, Int.reduceSub, Int.reduceNeg, Nat.reduceAdd, Nat.reduceSub, Nat.reduceMul, Nat.reduceLT, Nat.reduceBEq, Nat.reduceEqDiff, Nat.reduceLeDiff]
    try rfl
  · refine .inl ⟨hrun, j, ?_⟩
    rw [run, ev24, ans_trim]
    simp only [Tryd.f24, aP, ii, hri, q1, q2, q3, encN_rep, hcell, heZ, hrep, FT, Int.reduceEq, Int.reduceToNat, Int.reduceLE, Int.reduceLT, Int.reduceAdd, Int.reduceMul, Int.reduceSub, Int.reduceNeg, Nat.reduceAdd, Nat.reduceSub, Nat.reduceMul, Nat.reduceLT, Nat.reduceBEq, Nat.reduceEqDiff, Nat.reduceLeDiff]
    rw [evalCode_drawn Tryd.f24 6 dr24_6]; rotate_left; rfl
    simp (config := { maxSteps := 4000000 }) only [hnum, hrn, hel, htk, heR, EVd, List.getElem?_nil, Nat.reducePow, Nat.reduceDiv, Nat.reduceMod, FT, Int.reduceEq, Int.reduceToNat, Int.reduceLE, Int.reduceLT, Int.reduceAdd, Int.reduceMul, Int.reduceSub, Int.reduceNeg, Nat.reduceAdd, Nat.reduceSub, Nat.reduceMul, Nat.reduceLT, Nat.reduceBEq, Nat.reduceEqDiff, Nat.reduceLeDiff]
    simp only [hj, FT, Int.reduceEq, Int.reduceToNat, Int.reduceLE, Int.reduceLT, Int.reduceAdd, Int.reduceMul, Int.reduceSub, Int.reduceNeg, Nat.reduceAdd, Nat.reduceSub, Nat.reduceMul, Nat.reduceLT, Nat.reduceBEq, Nat.reduceEqDiff, Nat.reduceLeDiff]
end
end Go.Proofs.Sw.W
namespace Go.Proofs.Sw
open Go.Ab
variable [Globals]
theorem vd_take (l : List Nat) (i : Nat) : vd (l.take (i + 1)) = vd (l.take i) + 65536 ^ i * l.getD i 0 := by
  by_cases h : i < l.length
  · rw [List.take_succ_eq_append_getElem h, vd_snoc, List.length_take, List.getD_eq_getElem?_getD, List.getElem?_eq_getElem h]
    rw [show min i l.length = i by omega]; rfl
  · rw [List.take_of_length_le (by omega), List.take_of_length_le (by omega), List.getD_eq_getElem?_getD, List.getElem?_eq_none (by omega)]; simp
theorem getD_out {l : List Nat} {i : Nat} (h : l.length ≤ i) : l.getD i 0 = 0 := by
  rw [List.getD_eq_getElem?_getD, List.getElem?_eq_none h]; rfl
end Go.Proofs.Sw
namespace Go.Proofs.Sw
open Go.Ab
variable [Globals]
theorem vd_ge {b : List Nat} (hb : Can b) (h : b ≠ []) : 65536 ^ (b.length - 1) ≤ vd b := by
  obtain ⟨l, x, hx⟩ : ∃ l x, b = l ++ [x] := ⟨b.dropLast, b.getLast h, (List.dropLast_concat_getLast h).symm⟩
  have hx0 : x ≠ 0 := fun e => by
    subst e
    have := hb.tr
    rw [hx, trim_app0] at this
    have h2 := trim_len l
    have h3 := congrArg List.length this
    simp at h3
    omega
  rw [hx, vd_snoc, List.length_append]
  simp only [List.length_cons, List.length_nil, Nat.zero_add, Nat.add_sub_cancel]
  have : 65536 ^ l.length * 1 ≤ 65536 ^ l.length * x := Nat.mul_le_mul_left _ (by omega)
  omega
theorem can_len {a b : List Nat} (ha : okD a) (hb : Can b) (h : a.length < b.length) : vd a < vd b := by
  have h1 := vd_lt ha
  have h2 := vd_ge hb (fun e => by rw [e] at h; simp at h)
  have h3 : 65536 ^ a.length ≤ 65536 ^ (b.length - 1) := Nat.pow_le_pow_right (by omega) (by omega)
  omega
theorem vd_split (l : List Nat) (j : Nat) (h : j < l.length) : vd l = vd (l.take j) + 65536 ^ j * (l.getD j 0 + 65536 * vd (l.drop (j + 1))) := by
  have h1 : l = l.take j ++ l.drop j := (List.take_append_drop j l).symm
  have h2 : l.drop j = l.getD j 0 :: l.drop (j + 1) := by
    rw [List.drop_eq_getElem_cons h, List.getD_eq_getElem?_getD, List.getElem?_eq_getElem h]; rfl
  have h3 : (l.take j).length = j := by rw [List.length_take]; omega
  calc vd l = vd (l.take j ++ l.drop j) := by rw [← h1]
    _ = _ := by rw [vd_append, h3, h2, vd]
theorem vd_lt_at {a b : List Nat} (ha : okD a) {j : Nat} (hja : j < a.length) (hjb : j < b.length) (hd : a.drop (j + 1) = b.drop (j + 1)) (h : a.getD j 0 < b.getD j 0) : vd a < vd b := by
  have h1 : vd (a.take j) < 65536 ^ j := by
    have := vd_lt (l := a.take j) (fun d hd => ha d (List.mem_of_mem_take hd))
    rwa [List.length_take, show min j a.length = j by omega] at this
  rw [vd_split a j hja, vd_split b j hjb, hd]
  have h2 : 65536 ^ j * (a.getD j 0 + 65536 * vd (b.drop (j + 1)) + 1) ≤ 65536 ^ j * (b.getD j 0 + 65536 * vd (b.drop (j + 1))) := Nat.mul_le_mul_left _ (by omega)
  rw [Nat.mul_add, Nat.mul_one] at h2
  omega
def cmpN (m n : Nat) : Int := if m < n then -1 else if n < m then 1 else 0
end Go.Proofs.Sw
namespace Go.Proofs.Sw
open Go.Ab
variable [Globals]
abbrev nD (x : Int) : List Nat := dig x.natAbs
theorem dig_len_mono {m n : Nat} (h : m ≤ n) : (dig m).length ≤ (dig n).length := by
  by_cases hlt : (dig n).length < (dig m).length
  · have := can_len (can_dig n).ok (can_dig m) hlt
    rw [vd_dig, vd_dig] at this
    omega
  · omega
theorem eqBool (k : Bool) (a b : Bool) : (a == b) = decide (a = b) := by cases a <;> cases b <;> rfl
end Go.Proofs.Sw
namespace Go.Proofs.Sw
open Go.Ab
variable [Globals]
theorem vd_set : ∀ (l : List Nat) (k v : Nat), k < l.length → vd (l.set k v) + 65536 ^ k * l.getD k 0 = vd l + 65536 ^ k * v
  | [], k, v, h => by simp at h
  | d :: l, 0, v, _ => by simp [vd]; omega
  | d :: l, k + 1, v, h => by
    have ih := vd_set l k v (by simpa using h)
    rw [List.set_cons_succ, vd, vd, Nat.pow_succ]
    have e1 : (d :: l).getD (k + 1) 0 = l.getD k 0 := by simp
    rw [e1, Nat.mul_comm (65536 ^ k) 65536, Nat.mul_assoc, Nat.mul_assoc]
    omega
theorem okD_set {l : List Nat} {k v : Nat} (h : okD l) (hv : v < 65536) : okD (l.set k v) := fun d hd => by
  rcases List.mem_or_eq_of_mem_set hd with hd | rfl
  · exact h d hd
  · exact hv
theorem vd_rep (L : Nat) : vd (List.replicate L 0) = 0 := by
  induction L with
  | zero => rfl
  | succ n ih => rw [List.replicate_succ, vd, ih]
end Go.Proofs.Sw
namespace Go.Proofs.Sw
open Go.Ab
variable [Globals]
def rv (o : Option (Nat × List Nat)) (n : Nat) : AV := match o with
  | none => .c (.slice [] 0 true (some 0))
  | some (id, T) => .hsl id 0 n (n + T.length) 1
end Go.Proofs.Sw
namespace Go.Proofs.Sw
open Go.Ab
variable [Globals]
theorem nD_one {y : Int} (h : (nD y).length = 1) : 0 < (nD y).getD 0 0 := by
  have hc := (can_dig y.natAbs).tr
  obtain ⟨x, hx⟩ : ∃ x, nD y = [x] := by
    cases hl : nD y with
    | nil => rw [hl] at h; cases h
    | cons x t =>
      cases t with
      | nil => exact ⟨x, rfl⟩
      | cons y t => rw [hl] at h; simp at h
  rw [show dig y.natAbs = [x] from hx] at hc
  rw [hx]
  by_cases h0 : x = 0
  · subst h0; cases hc
  · simp; omega
theorem nD_sgn (b : Bool) (n : Nat) : nD (sgn b n) = dig n := by rw [nD, sgn_abs]
end Go.Proofs.Sw
namespace Go.Proofs.Sw
open Go.Ab
variable [Globals]
theorem nD_lt (x : Int) : x.natAbs < 65536 ^ (nD x).length := by
  have := vd_lt (can_dig x.natAbs).ok
  rwa [vd_dig] at this
theorem nD_mul (x y : Int) : (nD (x * y)).length ≤ (nD x).length + (nD y).length := by
  refine dig_len ?_
  rw [Int.natAbs_mul, Nat.pow_add]
  exact Nat.mul_lt_mul'' (nD_lt x) (nD_lt y)
theorem nD_add (x y : Int) {n : Nat} (hx : (nD x).length ≤ n) (hy : (nD y).length ≤ n) : (nD (x + y)).length ≤ n + 1 := by
  refine dig_len ?_
  have h1 := nD_lt x
  have h2 := nD_lt y
  have h3 : 65536 ^ (nD x).length ≤ 65536 ^ n := Nat.pow_le_pow_right (by omega) hx
  have h4 : 65536 ^ (nD y).length ≤ 65536 ^ n := Nat.pow_le_pow_right (by omega) hy
  have h5 : 65536 ^ (n + 1) = 65536 ^ n * 65536 := Nat.pow_succ ..
  omega
end Go.Proofs.Sw
namespace Go.Proofs.Sw
open Go.Ab
variable [Globals]
theorem nD_neg (x : Int) : nD (-x) = nD x := by simp [nD]
end Go.Proofs.Sw
namespace Go.Proofs.Sw
open Go.Ab
variable [Globals]
structure Rw where
  l : List RI
  nl : Bool
  cap : Option Nat
def Rw.vals (r : Rw) : List Int := r.l.map RI.v
def dR : Rw := ⟨[], true, some 0⟩
structure SzR (L n : Nat) (r : Rw) : Prop where
  len : r.l.length = L
  sz : ∀ x ∈ r.l, (nD x.v).length ≤ n
theorem SzR.mono {L n m : Nat} {r : Rw} (h : SzR L n r) (hm : n ≤ m) : SzR L m r := ⟨h.len, fun x hx => Nat.le_trans (h.sz x hx) hm⟩
theorem getD_rw {R : List Rw} {r : Int} (h0 : 0 ≤ r) (h : r < R.length) : R.getD r.toNat dR ∈ R := by
  have : r.toNat < R.length := by omega
  rw [List.getD_eq_getElem?_getD, List.getElem?_eq_getElem this]
  exact List.getElem_mem this
theorem Rw.small {L n : Nat} {r : Rw} (h : SzR L n r) : ∀ x ∈ r.vals, (nD x).length ≤ n := by
  intro x hx
  obtain ⟨y, hy, rfl⟩ := List.mem_map.1 hx
  exact h.sz y hy
end Go.Proofs.Sw
namespace Go.Proofs.Sw
open Go.Ab
variable [Globals]
theorem mayM_b {x : Ins} {n : Nat} (h : mayM x n = true) : 0 ≤ x.b ∧ x.b < (n : Int) := by
  obtain ⟨_, _, m6, m7⟩ := mayM_facts h
  by_cases e : x.op = 3 ∨ x.op = 4
  · exact m7 e
  · simp only [mayM, Bool.and_eq_true, decide_eq_true_eq] at h
    obtain ⟨⟨⟨⟨_, _, _, _, h5⟩, _⟩, _⟩, _⟩ := h
    omega
end Go.Proofs.Sw
namespace Go.Proofs.Sw
open Go.Ab
variable [Globals]
def in64 (x : Int) : Prop := -9223372036854775808 ≤ x ∧ x ≤ 9223372036854775807
end Go.Proofs.Sw
namespace Go.Proofs.Sw
open Go.Ab
variable [Globals]
structure Key where
  op : Int
  a : Int
  b : Int
  c : Int
  deriving DecidableEq
abbrev Ent := Key × Int × Int
structure St where
  held : List Int
  keys : List Ent
  next : Int
def lookK (k : Key) : List Ent → Option (Nat × Ent)
  | [] => none
  | e :: es => if k = e.1 then some (0, e) else (lookK k es).map fun p => (p.1 + 1, p.2)
theorem lookK_at {k : Key} : ∀ {es : List Ent} {p : Nat × Ent}, lookK k es = some p → es[p.1]? = some p.2 ∧ p.2.1 = k
  | [], _, h => by cases h
  | e :: es, p, h => by
    rw [lookK] at h
    split at h
    · rename_i hk
      injection h with h
      subst h
      exact ⟨rfl, hk.symm⟩
    · obtain ⟨q, hq, rfl⟩ := Option.map_eq_some_iff.1 h
      obtain ⟨h1, h2⟩ := lookK_at hq
      exact ⟨by simpa using h1, h2⟩
end Go.Proofs.Sw
namespace Go.Proofs.Sw
open Go.Ab
variable [Globals]
def keyM (held : List Int) (i : Ins) : Key :=
  let a := held.getD i.a.toNat 0
  let b := if i.op = 3 ∨ i.op = 4 then held.getD i.b.toNat 0 else -1
  if i.op = 3 ∧ b < a then ⟨i.op, b, a, i.c⟩ else ⟨i.op, a, b, i.c⟩
theorem keyM_swap {held : List Int} {i : Ins} (h3 : i.op = 3) (hlt : held.getD i.b.toNat 0 < held.getD i.a.toNat 0) : keyM held i = ⟨i.op, held.getD i.b.toNat 0, held.getD i.a.toNat 0, i.c⟩ := by
  unfold keyM
  simp only [h3, true_or, if_true, hlt, and_self]
theorem keyM_two {held : List Int} {i : Ins} (h : i.op = 3 ∨ i.op = 4) (hn : ¬ (i.op = 3 ∧ held.getD i.b.toNat 0 < held.getD i.a.toNat 0)) : keyM held i = ⟨i.op, held.getD i.a.toNat 0, held.getD i.b.toNat 0, i.c⟩ := by
  unfold keyM
  simp only [h, if_true]
  rw [if_neg hn]
theorem keyM_one {held : List Int} {i : Ins} (h : ¬ (i.op = 3 ∨ i.op = 4)) : keyM held i = ⟨i.op, held.getD i.a.toNat 0, -1, i.c⟩ := by
  unfold keyM
  simp only [h, if_false]
  rw [if_neg (fun h' => h (.inl h'.1))]
end Go.Proofs.Sw
namespace Go.Proofs.Sw
open Go.Ab
variable [Globals]
def reckonM (S : St) (n : Int) (i : Ins) : Int × Int × St :=
  if i.op = 1 then (S.held.getD i.a.toNat 0, -1, S) else
  match lookK (keyM S.held i) S.keys with
  | some p => (p.2.2.1, p.2.2.2, S)
  | none => (S.next, n, { S with keys := S.keys ++ [(keyM S.held i, S.next, n)], next := S.next + 1 })
end Go.Proofs.Sw
namespace Go.Proofs.Sw
open Go.Ab
variable [Globals]
def holdM (v : Int) : List Int → Nat → Int
  | [], _ => -1
  | x :: l, j => if x = v then (j : Int) else holdM v l (j + 1)
def askM (held : List Int) (i : Ins) : Ins :=
  { i with a := holdM (held.getD i.a.toNat 0) held 0, b := if i.op = 3 ∨ i.op = 4 then holdM (held.getD i.b.toNat 0) held 0 else i.b }
end Go.Proofs.Sw
namespace Go.Proofs.Sw
open Go.Ab
variable [Globals]
theorem reckonM_one {S : St} {n : Int} {i : Ins} (h : i.op = 1) : reckonM S n i = (S.held.getD i.a.toNat 0, -1, S) := if_pos h
end Go.Proofs.Sw
namespace Go.Proofs.Sw
open Go.Ab
variable [Globals]
def emitM (v : Int) (held : List Int) (x : Ins) : Ins := if 0 ≤ holdM v held 0 then ⟨1, x.to, holdM v held 0, 0, 0⟩ else askM held x
theorem askM_op (held : List Int) (x : Ins) : (askM held x).op = x.op := rfl
theorem askM_to (held : List Int) (x : Ins) : (askM held x).to = x.to := rfl
theorem askM_c (held : List Int) (x : Ins) : (askM held x).c = x.c := rfl
def passStep (q : St × List Ins) (n : Int) (x : Ins) : St × List Ins :=
  let r := reckonM q.1 n x
  if q.1.held.getD x.to.toNat 0 = r.1 then (r.2.2, q.2) else ({ r.2.2 with held := q.1.held.set x.to.toNat r.1 }, q.2 ++ [emitM r.1 q.1.held x])
end Go.Proofs.Sw
namespace Go.Proofs.Sw
open Go.Ab
variable [Globals]
theorem holdM_mem {v : Int} : ∀ {l : List Int}, v ∈ l → ∀ j, ∃ i, i < l.length ∧ holdM v l j = ((j + i : Nat) : Int) ∧ l.getD i 0 = v
  | [], h, _ => by cases h
  | x :: l, h, j => by
    rw [holdM]
    by_cases e : x = v
    · rw [if_pos e]
      exact ⟨0, by simp, by simp, by simpa using e⟩
    · rw [if_neg e]
      rcases List.mem_cons.1 h with h | h
      · exact absurd h.symm e
      · obtain ⟨i, h1, h2, h3⟩ := holdM_mem h (j + 1)
        exact ⟨i + 1, by simpa using h1, by rw [h2]; congr 1; omega, by simpa using h3⟩
theorem holdM_not {v : Int} : ∀ {l : List Int}, v ∉ l → ∀ j, holdM v l j = -1
  | [], _, _ => rfl
  | x :: l, h, j => by
    rw [List.mem_cons, not_or] at h
    rw [holdM, if_neg (fun e => h.1 e.symm), holdM_not h.2]
theorem holdM_ge {v : Int} {l : List Int} : 0 ≤ holdM v l 0 ↔ v ∈ l := by
  by_cases h : v ∈ l
  · obtain ⟨i, _, h2, _⟩ := holdM_mem h 0
    rw [h2]
    exact ⟨fun _ => h, fun _ => by omega⟩
  · rw [holdM_not h]
    exact ⟨fun h' => absurd h' (by decide), fun h' => absurd h' h⟩
theorem holdM_at {v : Int} {l : List Int} (h : v ∈ l) : (0 ≤ holdM v l 0 ∧ holdM v l 0 < l.length) ∧ l.getD (holdM v l 0).toNat 0 = v := by
  obtain ⟨i, h1, h2, h3⟩ := holdM_mem h 0
  rw [h2]
  exact ⟨by omega, by simpa using h3⟩
theorem getD_memI {l : List Int} {r : Int} (h0 : 0 ≤ r) (h : r < l.length) : l.getD r.toNat 0 ∈ l := by
  have : r.toNat < l.length := by omega
  rw [List.getD_eq_getElem?_getD, List.getElem?_eq_getElem this]
  exact List.getElem_mem this
def Fresh (S : St) : Prop := (∀ h ∈ S.held, h < S.next) ∧ ∀ e ∈ S.keys, e.2.1 < S.next
theorem lookK_none_new {S : St} {n : Int} {x : Ins} (h1 : x.op ≠ 1) (hl : lookK (keyM S.held x) S.keys = none) : reckonM S n x = (S.next, n, { S with keys := S.keys ++ [(keyM S.held x, S.next, n)], next := S.next + 1 }) := by
  rw [reckonM, if_neg h1, hl]
theorem lookK_some_old {S : St} {n : Int} {x : Ins} {p : Nat × Ent} (h1 : x.op ≠ 1) (hl : lookK (keyM S.held x) S.keys = some p) : reckonM S n x = (p.2.2.1, p.2.2.2, S) := by
  rw [reckonM, if_neg h1, hl]
end Go.Proofs.Sw
namespace Go.Proofs.Sw
open Go.Ab
variable [Globals]
section
variable {α : Type} (M : Sem α)
structure ShI (S : St) (R : List α) (w : Int → α) : Prop where
  len : R.length = S.held.length
  reg : ∀ r : Nat, r < R.length → R.getD r M.d = w (S.held.getD r 0)
  good : ∀ v, M.G (w v)
  fresh : Fresh S
  pos : 0 ≤ S.next
  keys : ∀ e ∈ S.keys, e.1.a < S.next ∧ e.1.b < S.next ∧ M.f e.1.op e.1.c (w e.1.a) (w e.1.b) = some (w e.2.1)
variable {M}
theorem ShI.at {S : St} {R : List α} {w : Int → α} (h : ShI M S R w) {r : Int} (h0 : 0 ≤ r) (h1 : r < S.held.length) : R.getD r.toNat M.d = w (S.held.getD r.toNat 0) := h.reg r.toNat (by rw [h.len]; omega)
theorem ShI.hold {S : St} {R : List α} {w : Int → α} (h : ShI M S R w) {v : Int} (hv : v ∈ S.held) : R.getD (holdM v S.held 0).toNat M.d = w v := by
  obtain ⟨⟨h0, h1⟩, h2⟩ := holdM_at hv
  rw [h.at h0 h1, h2]
theorem ShI.key {S : St} {R : List α} {w : Int → α} (h : ShI M S R w) {x : Ins} (hm : mayM x S.held.length = true) :
    M.f x.op x.c (R.getD x.a.toNat M.d) (R.getD x.b.toNat M.d) = M.f (keyM S.held x).op (keyM S.held x).c (w (keyM S.held x).a) (w (keyM S.held x).b) := by
  obtain ⟨_, _, ⟨m5, m6⟩, m7⟩ := mayM_facts hm
  rw [h.at m5 m6]
  by_cases h34 : x.op = 3 ∨ x.op = 4
  · obtain ⟨b0, b1⟩ := m7 h34
    rw [h.at b0 b1]
    by_cases hs : x.op = 3 ∧ S.held.getD x.b.toNat 0 < S.held.getD x.a.toNat 0
    · rw [keyM_swap hs.1 hs.2, hs.1]
      exact M.comm _ _ _ (h.good _) (h.good _)
    · rw [keyM_two h34 hs]
  · rw [keyM_one h34]
    exact M.two _ _ _ _ _ (fun e => h34 (.inl e)) (fun e => h34 (.inr e))
theorem ShI.ask {S : St} {R : List α} {w : Int → α} (h : ShI M S R w) {x : Ins} (hm : mayM x S.held.length = true) : stepE M R (askM S.held x) = stepE M R x := by
  obtain ⟨_, _, ⟨m5, m6⟩, m7⟩ := mayM_facts hm
  have ha : R.getD (askM S.held x).a.toNat M.d = R.getD x.a.toNat M.d := by
    show R.getD (holdM _ S.held 0).toNat M.d = _
    rw [h.hold (getD_memI m5 m6), h.at m5 m6]
  unfold stepE
  rw [ha, askM_op, askM_to, askM_c]
  by_cases h34 : x.op = 3 ∨ x.op = 4
  · obtain ⟨b0, b1⟩ := m7 h34
    have hb : R.getD (askM S.held x).b.toNat M.d = R.getD x.b.toNat M.d := by
      show R.getD (if x.op = 3 ∨ x.op = 4 then holdM _ S.held 0 else x.b).toNat M.d = _
      rw [if_pos h34, h.hold (getD_memI b0 b1), h.at b0 b1]
    rw [hb]
  · rw [M.two x.op x.c _ _ (R.getD x.b.toNat M.d) (fun e => h34 (.inl e)) (fun e => h34 (.inr e))]
theorem ShI.put {S : St} {R : List α} {w : Int → α} (h : ShI M S R w) {to v : Int} (h0 : 0 ≤ to) (h1 : to < S.held.length) (hv : v < S.next) : ShI M { S with held := S.held.set to.toNat v } (R.set to.toNat (w v)) w := by
  have h2 : to.toNat < S.held.length := by omega
  refine ⟨by simp [h.len], fun r hr => ?_, h.good, ⟨fun z hz => ?_, h.fresh.2⟩, h.pos, h.keys⟩
  · rw [List.length_set] at hr
    show _ = w ((S.held.set to.toNat v).getD r 0)
    rw [getDA_set (by rw [h.len]; exact h2), getDA_set h2]
    split
    · rfl
    · exact h.reg r hr
  · rcases List.mem_or_eq_of_mem_set hz with hz | rfl
    · exact h.fresh.1 z hz
    · exact hv
theorem ShI.step {S : St} {R : List α} {w : Int → α} (h : ShI M S R w) (n : Int) {x : Ins} (hm : mayM x S.held.length = true) (out : List Ins) (R0 : List α) (hR : runE M out R0 = some R) :
    (stepE M R x = none → runE M (passStep (S, out) n x).2 R0 = none) ∧ ∀ Q, stepE M R x = some Q → ∃ w', runE M (passStep (S, out) n x).2 R0 = some Q ∧ ShI M (passStep (S, out) n x).1 Q w' := by
  obtain ⟨⟨m1, m2⟩, ⟨m3, m4⟩, ⟨m5, m6⟩, m7⟩ := mayM_facts hm
  have hto : x.to.toNat < S.held.length := by omega
  have hk := h.key hm
  have hask := h.ask hm
  have known : ∀ v : Int, v < S.next → reckonM S n x = (v, (reckonM S n x).2.1, S) → stepE M R x = some (R.set x.to.toNat (w v)) →
      ∃ w', runE M (passStep (S, out) n x).2 R0 = some (R.set x.to.toNat (w v)) ∧ ShI M (passStep (S, out) n x).1 (R.set x.to.toNat (w v)) w' := by
    intro v hv hr hs
    by_cases he : S.held.getD x.to.toNat 0 = v
    · have e : passStep (S, out) n x = (S, out) := by simp only [passStep]; rw [hr]; exact if_pos he
      have e2 : R.set x.to.toNat (w v) = R := by
        have := h.at m3 m4
        rw [he] at this
        rw [← this]
        exact set_getD (by rw [h.len]; exact hto)
      rw [e, e2]
      exact ⟨w, hR, h⟩
    · have e : passStep (S, out) n x = ({ S with held := S.held.set x.to.toNat v }, out ++ [emitM v S.held x]) := by simp only [passStep]; rw [hr]; exact if_neg he
      rw [e]
      refine ⟨w, ?_, h.put m3 m4 hv⟩
      show runE M (out ++ [emitM v S.held x]) R0 = _
      rw [runE_snoc, hR]
      show stepE M R (emitM v S.held x) = _
      unfold emitM
      split
      · rename_i hh
        have hh' := h.hold (holdM_ge.1 hh)
        unfold stepE
        rw [M.one]
        show some (R.set x.to.toNat (R.getD (holdM v S.held 0).toNat M.d)) = _
        rw [hh']
      · rw [hask, hs]
  by_cases h1 : x.op = 1
  · have hs : stepE M R x = some (R.set x.to.toNat (w (S.held.getD x.a.toNat 0))) := by
      unfold stepE
      rw [h1, M.one, h.at m5 m6]
      rfl
    rw [hs]
    refine ⟨fun e => (nomatch e), fun Q hQ => ?_⟩
    obtain rfl := Option.some.inj hQ
    exact known _ (h.fresh.1 _ (getD_memI m5 m6)) (by rw [reckonM_one h1]) hs
  · cases hl : lookK (keyM S.held x) S.keys with
    | some p =>
      obtain ⟨hp1, hp2⟩ := lookK_at hl
      obtain ⟨k1, k2, k3⟩ := h.keys _ (List.mem_of_getElem? hp1)
      rw [hp2] at k3
      have hs : stepE M R x = some (R.set x.to.toNat (w p.2.2.1)) := by
        unfold stepE
        rw [hk, k3]
        rfl
      rw [hs]
      refine ⟨fun e => (nomatch e), fun Q hQ => ?_⟩
      obtain rfl := Option.some.inj hQ
      exact known _ (h.fresh.2 _ (List.mem_of_getElem? hp1)) (by rw [lookK_some_old h1 hl]) hs
    | none =>
      have hr := lookK_none_new (n := n) h1 hl
      have hnew : S.next ∉ S.held := fun hh => by have := h.fresh.1 _ hh; omega
      have he : S.held.getD x.to.toNat 0 ≠ S.next := fun e => hnew (by rw [← e]; exact getD_memI m3 m4)
      have hem : emitM S.next S.held x = askM S.held x := if_neg (fun hh => hnew (holdM_ge.1 hh))
      have e : passStep (S, out) n x = ({ S with keys := S.keys ++ [(keyM S.held x, S.next, n)], next := S.next + 1, held := S.held.set x.to.toNat S.next }, out ++ [askM S.held x]) := by
        simp only [passStep]; rw [hr, if_neg he, hem]
      have hrun : runE M (passStep (S, out) n x).2 R0 = stepE M R x := by
        rw [e]
        show runE M (out ++ [askM S.held x]) R0 = _
        rw [runE_snoc, hR]
        exact hask
      rw [hrun]
      refine ⟨fun h => h, fun Q hQ => ?_⟩
      have hQ0 := hQ
      unfold stepE at hQ
      cases hf : M.f x.op x.c (R.getD x.a.toNat M.d) (R.getD x.b.toNat M.d) with
      | none => rw [hf] at hQ; cases hQ
      | some u =>
        rw [hf] at hQ
        obtain rfl := Option.some.inj hQ
        rw [hk] at hf
        have hgu : M.G u := M.good _ _ _ _ _ (h.good _) (h.good _) hf
        refine ⟨fun z => if z = S.next then u else w z, hQ0, ?_⟩
        have hold : ∀ z, z < S.next → (if z = S.next then u else w z) = w z := fun z hz => if_neg (by omega)
        have hka : (keyM S.held x).a < S.next ∧ (keyM S.held x).b < S.next := by
          have g1 := h.fresh.1 _ (getD_memI m5 m6)
          by_cases h34 : x.op = 3 ∨ x.op = 4
          · have g2 := h.fresh.1 _ (getD_memI (m7 h34).1 (m7 h34).2)
            by_cases hs : x.op = 3 ∧ S.held.getD x.b.toNat 0 < S.held.getD x.a.toNat 0
            · rw [keyM_swap hs.1 hs.2]; exact ⟨g2, g1⟩
            · rw [keyM_two h34 hs]; exact ⟨g1, g2⟩
          · rw [keyM_one h34]
            have := h.pos
            exact ⟨g1, by show (-1 : Int) < S.next; omega⟩
        rw [e]
        refine ⟨by simp [h.len], fun r hr => ?_, fun v => ?_, ⟨fun z hz => ?_, fun e he => ?_⟩, by have := h.pos; show 0 ≤ S.next + 1; omega, fun e he => ?_⟩
        · rw [List.length_set] at hr
          show _ = (if (S.held.set x.to.toNat S.next).getD r 0 = S.next then u else w ((S.held.set x.to.toNat S.next).getD r 0))
          rw [getDA_set (by rw [h.len]; exact hto), getDA_set hto]
          by_cases hrt : r = x.to.toNat
          · rw [if_pos hrt, if_pos hrt, if_pos rfl]
          · rw [if_neg hrt, if_neg hrt, hold _ (h.fresh.1 _ (by
              rw [List.getD_eq_getElem?_getD, List.getElem?_eq_getElem (by rw [← h.len]; exact hr)]
              exact List.getElem_mem _))]
            exact h.reg r hr
        · show M.G (if v = S.next then u else w v)
          split
          · exact hgu
          · exact h.good v
        · show z < S.next + 1
          rcases List.mem_or_eq_of_mem_set hz with hz | rfl
          · have := h.fresh.1 z hz; omega
          · omega
        · show e.2.1 < S.next + 1
          rcases List.mem_append.1 he with he | he
          · have := h.fresh.2 e he; omega
          · simp only [List.mem_cons, List.not_mem_nil, or_false] at he
            subst he
            show S.next < S.next + 1
            omega
        · show e.1.a < S.next + 1 ∧ e.1.b < S.next + 1 ∧ M.f e.1.op e.1.c (if e.1.a = S.next then u else w e.1.a) (if e.1.b = S.next then u else w e.1.b) = some (if e.2.1 = S.next then u else w e.2.1)
          rcases List.mem_append.1 he with he | he
          · obtain ⟨k1, k2, k3⟩ := h.keys e he
            have k4 := h.fresh.2 e he
            rw [hold _ k1, hold _ k2, hold _ k4]
            exact ⟨by omega, by omega, k3⟩
          · simp only [List.mem_cons, List.not_mem_nil, or_false] at he
            subst he
            show (keyM S.held x).a < S.next + 1 ∧ (keyM S.held x).b < S.next + 1 ∧ M.f (keyM S.held x).op (keyM S.held x).c (if (keyM S.held x).a = S.next then u else w (keyM S.held x).a) (if (keyM S.held x).b = S.next then u else w (keyM S.held x).b) = some (if S.next = S.next then u else w S.next)
            rw [hold _ hka.1, hold _ hka.2, if_pos rfl]
            exact ⟨by omega, by omega, hf⟩
end
end Go.Proofs.Sw
namespace Go.Proofs.Sw
open Go.Ab
variable [Globals]
theorem SzR.out {L n : Nat} {R : List Rw} {outs : List Int} (h : ∀ r ∈ R, SzR L n r) (ho : ∀ r ∈ outs, 0 ≤ r ∧ r < (R.length : Int)) : ∀ r ∈ outs.map (fun r => R.getD r.toNat dR), SzR L n r := by
  intro r hr
  obtain ⟨x, hx, rfl⟩ := List.mem_map.1 hr
  exact h _ (getD_rw (ho x hx).1 (ho x hx).2)
end Go.Proofs.Sw
namespace Go.Proofs.Sw.W
open Go.Ab
section
variable [Globals]
theorem out_valsN {R : List RI} {outs : List Int} (ho : ∀ r ∈ outs, 0 ≤ r ∧ r < (R.length : Int)) : (outs.map (fun r => R.getD r.toNat zN)).map RI.v = outs.map fun r => (R.map RI.v).getD r.toNat 0 := by
  rw [List.map_map]
  refine List.map_congr_left fun r hr => ?_
  obtain ⟨h0, h1⟩ := ho r hr
  exact (vals_getN h0 h1 0).symm
end
end Go.Proofs.Sw.W
namespace Go.Proofs.Sw.W
open Go.Ab
section
variable [Globals]
theorem alike1_ev (k : Nat) (x y : RI) (hx : (nD x.v).length ≤ 20000) (hy : (nD y.v).length ≤ 20000) (hk : 50000 ≤ k) : run (k+4) 57 [aW x, aW y] = some (bb (decide (x.v = y.v))) := by
  obtain ⟨q, hq, hqe⟩ := Cmp_ev k x y (by omega) (by omega) (by omega)
  have h3 : decide (q = 0) = decide (x.v = y.v) := by rw [decide_eq_decide]; exact hqe
  simp only [run, aW, ii] at hq
  rw [run, ev57, ans_trim]
  simp only [Tryd.f57, aW, bb, hq, h3, FT, Int.reduceEq, Int.reduceToNat, Int.reduceLE, Int.reduceLT, Int.reduceAdd, Int.reduceMul, Int.reduceSub, Int.reduceNeg, Nat.reduceAdd, Nat.reduceSub, Nat.reduceMul, Nat.reduceLT, Nat.reduceBEq, Nat.reduceEqDiff, Nat.reduceLeDiff]
theorem loop_eqf (kf : Nat) (A B : List RI) (nl nl2 : Bool) (cap cap2 : Option Nat) (hAB : A.length = B.length) (hA : A.length ≤ 20000) (hAl : ∀ r ∈ A, (nD r.v).length ≤ 20000) (hBl : ∀ r ∈ B, (nD r.v).length ≤ 20000) (hv : A.map RI.v = B.map RI.v) (hkf : 50000 ≤ kf) (k : Nat) (l : Ass) (z : Option Out) (hz : loopR Tryd.prog tab (kf + 4) none LB56_4 56 32 [1, 2, 15, 16, 17] 0 k l ([]) = z) (hk : A.length < k) (a1 : asc l 1 = sN B nl2 cap2) (a2 : asc l 2 = .c (.fn 57)) (a15 : asc l 15 = sN A nl cap) (a16 : asc l 16 = ii A.length) (a17 : asc l 17 = ii 0) :
    ∃ l', z = some (.exit 0 (fr 32 l') ([])) ∧ asc l' 1 = sN B nl2 cap2 ∧ asc l' 2 = .c (.fn 57) ∧ asc l' 15 = sN A nl cap ∧ asc l' 16 = ii A.length ∧ asc l' 17 = ii A.length := by
  subst hz
  refine loop_nat A.length (fun k l H => loopR Tryd.prog tab (kf + 4) none LB56_4 56 32 [1, 2, 15, 16, 17] 0 k l H)
    (fun i l H => asc l 1 = sN B nl2 cap2 ∧ asc l 2 = .c (.fn 57) ∧ asc l 15 = sN A nl cap ∧ asc l 16 = ii A.length ∧ asc l 17 = ii i ∧ ∃ G, H = ([]) ++ G)
    (fun z => ∃ l', z = some (.exit 0 (fr 32 l') ([])) ∧ asc l' 1 = sN B nl2 cap2 ∧ asc l' 2 = .c (.fn 57) ∧ asc l' 15 = sN A nl cap ∧ asc l' 16 = ii A.length ∧ asc l' 17 = ii A.length) ?_ A.length 0 k l _ (by omega) hk ⟨a1, a2, a15, a16, a17, [], by rw [List.append_nil]⟩
  clear hk a1 a2 a15 a16 a17
  rintro i k l H hi ⟨a1, a2, a15, a16, a17, G, rfl⟩
  have ht : trim 0 (fr 32 (keep l [1, 2, 15, 16, 17])) (([]) ++ H) = ([]) := trim_app (by simp) (by simp only [a1, a2, a15, a16, a17, EVb, EVc, Int.reduceEq, Int.reduceToNat, Int.reduceLE, Int.reduceLT, Int.reduceAdd, Int.reduceMul, Int.reduceSub, Int.reduceNeg, Nat.reduceAdd, Nat.reduceSub, Nat.reduceMul, Nat.reduceLT, Nat.reduceBEq, Nat.reduceEqDiff, Nat.reduceLeDiff]) (by simp only [EVb, EVc, Int.reduceEq, Int.reduceToNat, Int.reduceLE, Int.reduceLT, Int.reduceAdd, Int.reduceMul, Int.reduceSub, Int.reduceNeg, Nat.reduceAdd, Nat.reduceSub, Nat.reduceMul, Nat.reduceLT, Nat.reduceBEq, Nat.reduceEqDiff, Nat.reduceLeDiff])
  by_cases hc : i < A.length
  · have hc' : (i : Int) < ((A.length : Nat) : Int) := by omega
    have hc0 : (0 : Int) ≤ i := by omega
    have hw : IntKind.wrap .i64 ((i : Int) + 1) = ((i + 1 : Nat) : Int) := by rw [wrap64 (by omega) (by omega)]; omega
    have hcB : i < B.length := by omega
    have hx := encN_two hc
    have hy := encN_two hcB
    have hla := getD_small (i := i) hAl
    have hlb := getD_small (i := i) hBl
    have hta := take_vN hc
    have htb := take_vN hcB
    have hev : (A.getD i zN).v = (B.getD i zN).v := by
      have e := congrArg (fun l => l[i]?) hv
      simpa [List.getD_eq_getElem?_getD, hc, hcB] using e
    obtain ⟨a, ha⟩ : ∃ a, a = A.getD i zN := ⟨_, rfl⟩
    obtain ⟨b, hb⟩ : ∃ b, b = B.getD i zN := ⟨_, rfl⟩
    rw [← ha] at hx hla hta hev
    rw [← hb] at hy hlb htb hev
    have hq := alike1_ev kf a b hla hlb hkf
    rw [decide_eq_true hev] at hq
    have hx2 : i * 2 + 2 ≤ A.length * 2 := by omega
    have hy2 : i * 2 + 2 ≤ B.length * 2 := by omega
    have hiB : (i : Int) < B.length := by omega
    have hela := encN_length A
    have helb := encN_length B
    simp only [run, aW, bb] at hq
    simp only [loopR_succ, ht]
    simp only [a1, a2, a15, a16, a17, hc', hc0, hw, hx, hx2, hela, hy, hy2, hiB, helb, hq, loopR_succ, loopOf, findLoop, firstRegion, Option.some_or, Option.none_or, Option.getD_some, Option.some.injEq, Tryd.f56, FT, Int.reduceEq, Int.reduceToNat, Int.reduceLE, Int.reduceLT, Int.reduceAdd, Int.reduceMul, Int.reduceSub, Int.reduceNeg, Nat.reduceAdd, Nat.reduceSub, Nat.reduceMul, Nat.reduceLT, Nat.reduceBEq, Nat.reduceEqDiff, Nat.reduceLeDiff]
    exact .inr ⟨_, _, hc, rfl, (by rfl), (by rfl), (by rfl), (by rfl), (by rfl), ⟨_, by rfl⟩⟩
  · refine .inl ?_
    obtain rfl : i = A.length := by omega
    have hc' : ¬ (((A.length : Nat) : Int) < ((A.length : Nat) : Int)) := by omega
    simp only [loopR_succ, ht]
    simp only [a1, a2, a15, a16, a17, hc', loopR_succ, loopOf, findLoop, firstRegion, Option.some_or, Option.none_or, Option.getD_some, Option.some.injEq, Tryd.f56, FT, Int.reduceEq, Int.reduceToNat, Int.reduceLE, Int.reduceLT, Int.reduceAdd, Int.reduceMul, Int.reduceSub, Int.reduceNeg, Nat.reduceAdd, Nat.reduceSub, Nat.reduceMul, Nat.reduceLT, Nat.reduceBEq, Nat.reduceEqDiff, Nat.reduceLeDiff]
    exact ⟨_, rfl, (by rfl), (by rfl), (by rfl), (by rfl), (by rfl)⟩
theorem alike_ev (k : Nat) (A B : List RI) (nl nl2 : Bool) (cap cap2 : Option Nat) (hA : A.length ≤ 20000) (hAl : ∀ r ∈ A, (nD r.v).length ≤ 20000) (hBl : ∀ r ∈ B, (nD r.v).length ≤ 20000) (hv : A.map RI.v = B.map RI.v) (hk : 50000 ≤ k) :
    run (k+6) 26 [sN A nl cap, sN B nl2 cap2] = some (bb true) := by
  have hAB : A.length = B.length := by simpa using congrArg List.length hv
  have hAB' : (A.length : Int) = B.length := by omega
  have he : run (k+5) 56 [sN A nl cap, sN B nl2 cap2, .c (.fn 57)] = some (bb true) := by
    rw [run, ev56, ans_trim]
    simp only [Tryd.f56, bb, hAB', FT, Int.reduceEq, Int.reduceToNat, Int.reduceLE, Int.reduceLT, Int.reduceAdd, Int.reduceMul, Int.reduceSub, Int.reduceNeg, Nat.reduceAdd, Nat.reduceSub, Nat.reduceMul, Nat.reduceLT, Nat.reduceBEq, Nat.reduceEqDiff, Nat.reduceLeDiff]
    rw [evalCode_loopB LB56_4 lp56_4]; rotate_left; rfl; rfl; rfl
    generalize hz : loopR _ _ _ _ _ _ _ _ _ _ _ _ = z
    obtain ⟨l', rfl, e1, e2, e15, e16, e17⟩ := loop_eqf k A B nl nl2 cap cap2 hAB hA hAl hBl hv hk _ _ z hz (by omega) (by rfl) (by rfl) (by rfl) (by simp only [hAB']; rfl) (by rfl)
    clear hz
    simp only [FT, Int.reduceEq, Int.reduceToNat, Int.reduceLE, Int.reduceLT, Int.reduceAdd, Int.reduceMul, Int.reduceSub, Int.reduceNeg, Nat.reduceAdd, Nat.reduceSub, Nat.reduceMul, Nat.reduceLT, Nat.reduceBEq, Nat.reduceEqDiff, Nat.reduceLeDiff]
  simp only [run, bb] at he
  rw [run, ev26, ans_trim]
  simp only [Tryd.f26, bb, he, FT, Int.reduceEq, Int.reduceToNat, Int.reduceLE, Int.reduceLT, Int.reduceAdd, Int.reduceMul, Int.reduceSub, Int.reduceNeg, Nat.reduceAdd, Nat.reduceSub, Nat.reduceMul, Nat.reduceLT, Nat.reduceBEq, Nat.reduceEqDiff, Nat.reduceLeDiff]
end
end Go.Proofs.Sw.W
namespace Go.Proofs.Sw
open Go.Ab
variable [Globals]
theorem eqInts_ev (k : Nat) (xs : List Int) (nl nl2 : Bool) (cap cap2 : Option Nat) (hl : xs.length ≤ 1000000) (hk : xs.length + 2 ≤ k) : run (k+1) 27 [sI xs nl cap, sI xs nl2 cap2] = some (bb true) := by
  rw [run, ev27, ans_trim]
  simp only [Tryd.f27, bb, FT, Int.reduceEq, Int.reduceToNat, Int.reduceLE, Int.reduceLT, Int.reduceAdd, Int.reduceMul, Int.reduceSub, Int.reduceNeg, Nat.reduceAdd, Nat.reduceSub, Nat.reduceMul, Nat.reduceLT, Nat.reduceBEq, Nat.reduceEqDiff, Nat.reduceLeDiff]
  rw [evalCode_loopB LB27_4 lp27_4]; rotate_left; rfl; rfl; rfl
  generalize hz : loopR _ _ _ _ _ _ _ _ _ _ _ _ = z
  have h : ∃ l' H', z = some (.exit 0 (fr 26 l') H') := by
    subst hz
    refine loop_nat xs.length (fun k' l H => loopR Tryd.prog tab k none LB27_4 27 26 [0, 1, 12, 13] 0 k' l H)
      (fun i l H => asc l 0 = sI xs nl cap ∧ asc l 1 = sI xs nl2 cap2 ∧ asc l 12 = ii xs.length ∧ asc l 13 = ii i)
      (fun z => ∃ l' H', z = some (.exit 0 (fr 26 l') H')) ?_ xs.length 0 k _ _ (by omega) (by omega) ⟨(by rfl), (by rfl), (by rfl), (by rfl)⟩
    rintro i k' l H hi ⟨a0, a1, a12, a13⟩
    by_cases hc : i < xs.length
    · refine .inr ?_
      have hi0 : (0 : Int) ≤ i := by omega
      have hi1 : (i : Int) < xs.length := by omega
      have hx := encInts_get hc
      have hw := wrap_succ hc (by omega)
      simp only [a0, a1, a12, a13, hi0, hi1, hx, hw, loopR_succ, loopOf, findLoop, firstRegion, Option.some_or, Option.none_or, Option.getD_some, Option.some.injEq, Tryd.f27, FT, Int.reduceEq, Int.reduceToNat, Int.reduceLE, Int.reduceLT, Int.reduceAdd, Int.reduceMul, Int.reduceSub, Int.reduceNeg, Nat.reduceAdd, Nat.reduceSub, Nat.reduceMul, Nat.reduceLT, Nat.reduceBEq, Nat.reduceEqDiff, Nat.reduceLeDiff]
      rw [evalCode_drawn Tryd.f27 6 dr27_6]; rotate_left; rfl
      simp only [a0, a1, a12, a13, hi0, hi1, hx, hw, EVd, List.getElem?_nil, Nat.reducePow, Nat.reduceDiv, Nat.reduceMod, loopR_succ, loopOf, findLoop, firstRegion, Option.some_or, Option.none_or, Option.getD_some, Option.some.injEq, Tryd.f27, FT, Int.reduceEq, Int.reduceToNat, Int.reduceLE, Int.reduceLT, Int.reduceAdd, Int.reduceMul, Int.reduceSub, Int.reduceNeg, Nat.reduceAdd, Nat.reduceSub, Nat.reduceMul, Nat.reduceLT, Nat.reduceBEq, Nat.reduceEqDiff, Nat.reduceLeDiff]
      exact ⟨_, _, hc, rfl, (by rfl), (by rfl), (by rfl), (by rfl)⟩
    · refine .inl ?_
      have hc' : ¬ ((i : Int) < xs.length) := by omega
      simp only [a0, a1, a12, a13, hc', loopR_succ, loopOf, findLoop, firstRegion, Option.some_or, Option.none_or, Option.getD_some, Option.some.injEq, Tryd.f27, FT, Int.reduceEq, Int.reduceToNat, Int.reduceLE, Int.reduceLT, Int.reduceAdd, Int.reduceMul, Int.reduceSub, Int.reduceNeg, Nat.reduceAdd, Nat.reduceSub, Nat.reduceMul, Nat.reduceLT, Nat.reduceBEq, Nat.reduceEqDiff, Nat.reduceLeDiff]
      exact ⟨_, _, rfl⟩
  obtain ⟨l', H', rfl⟩ := h
  simp only [FT, Int.reduceEq, Int.reduceToNat, Int.reduceLE, Int.reduceLT, Int.reduceAdd, Int.reduceMul, Int.reduceSub, Int.reduceNeg, Nat.reduceAdd, Nat.reduceSub, Nat.reduceMul, Nat.reduceLT, Nat.reduceBEq, Nat.reduceEqDiff, Nat.reduceLeDiff]
end Go.Proofs.Sw
namespace Go.Proofs.Sw.W
open Go.Ab Go.Proofs.YtiiannaficbjeaaDoor.tab
theorem l13works_ev (k : Nat) : run (k+60) 21 [] = some (bb true) := by kernel_rfl
theorem long13_ev (k : Nat) (p : Pg) (nl : Bool) (cap : Option Nat) (nl2 : Bool) (cap2 : Option Nat) : run (k+1) 22 [aP p nl cap nl2 cap2] = some (bb (decide (300 < p.code.length ∧ p.code.length ≤ 16384))) := by
  rw [run, ev22, ans_trim]
  simp only [Tryd.f22, aP, ii, bb, FT, Int.reduceEq, Int.reduceToNat, Int.reduceLE, Int.reduceLT, Int.reduceAdd, Int.reduceMul, Int.reduceSub, Int.reduceNeg, Nat.reduceAdd, Nat.reduceSub, Nat.reduceMul, Nat.reduceLT, Nat.reduceBEq, Nat.reduceEqDiff, Nat.reduceLeDiff]
  repeat' (first
    | (rw [condO_dec]; split <;> simp only [*, FT, Int.reduceEq, Int.reduceToNat, Int.reduceLE, Int.reduceLT, Int.reduceAdd, Int.reduceMul, Int.reduceSub, Int.reduceNeg, Nat.reduceAdd, Nat.reduceSub, Nat.reduceMul, Nat.reduceLT, Nat.reduceBEq, Nat.reduceEqDiff, Nat.reduceLeDiff])
    | (rw [condO_ite]; split <;> simp only [*, FT, Int.reduceEq, Int.reduceToNat, Int.reduceLE, Int.reduceLT, Int.reduceAdd, Int.reduceMul, Int.reduceSub, Int.reduceNeg, Nat.reduceAdd, Nat.reduceSub, Nat.reduceMul, Nat.reduceLT, Nat.reduceBEq, Nat.reduceEqDiff, Nat.reduceLeDiff])
    | (split <;> simp only [*, FT, Int.reduceEq, Int.reduceToNat, Int.reduceLE, Int.reduceLT, Int.reduceAdd, Int.reduceMul, Int.reduceSub, Int.reduceNeg, Nat.reduceAdd, Nat.reduceSub, Nat.reduceMul, Nat.reduceLT, Nat.reduceBEq, Nat.reduceEqDiff, Nat.reduceLeDiff]))
  all_goals (simp only [Option.some.injEq, AV.c.injEq, IV.bool.injEq]; rw [Bool.eq_iff_iff]; simp; omega)
theorem FoldAnswers_good (k : Nat) (ins : Int) (n : Nat) (code : List Ins) (outs : List Int) (nl : Bool) (cap : Option Nat) (nl2 : Bool) (cap2 : Option Nat) (D : List Int) (nl3 : Bool) (cap3 : Option Nat) (hk : 80000 ≤ k) (hD : ∀ x ∈ D, in64 x) (hr : rightM ⟨ins, n, code, outs⟩ = true) (hn2 : nl2 = true → outs = []) (hlg : ¬ (300 < code.length ∧ code.length ≤ 16384)) (hDl : D.length ≤ 200) (hln : (D.length : Int) = ins) :
    run (k+61) 4 [aP ⟨ins, n, code, outs⟩ nl cap nl2 cap2, sI D nl3 cap3] = some (bb true) := by
  have hwk := l13works_ev k
  have hlg' := long13_ev (k + 59) ⟨ins, n, code, outs⟩ nl cap nl2 cap2
  have hr' := hr
  simp only [rightM, headM, codeM, outsM, Bool.and_eq_true, decide_eq_true_eq, List.all_eq_true] at hr'
  obtain ⟨⟨⟨g1, g2, g3, g4, g5, g6⟩, go⟩, gc⟩ := hr'
  obtain rfl : nl2 = false := by
    cases nl2 with
    | false => rfl
    | true => have := hn2 rfl; subst this; simp at g5
  have hcl : code.length ≤ 300 := by omega
  have hDl' : ¬ (200 : Int) < D.length := by omega
  obtain ⟨nlq, capq, hps⟩ := foldPass_ev (k + 59) n ins code outs nl cap false cap2 (by omega) hn2 hr
  have hrq := foldP_right hr
  have hfl := foldC_len code
  have hfp : foldP ⟨ins, n, code, outs⟩ = ⟨ins, n, foldC code, outs⟩ := rfl
  rw [hfp] at hps hrq
  obtain ⟨cn, hck⟩ := check_ev (k + 59) ⟨ins, n, foldC code, outs⟩ nlq capq false none (by show outs.length + (foldC code).length + 10 ≤ _; omega)
  simp only [checkE, hrq, if_true] at hck
  have heq := eqInts_ev (k + 59) outs false false none cap2 (by omega) (by omega)
  obtain ⟨Z, nlz, capz, hZ, hZs, hof⟩ := l15list_ev (k + 55) D nl3 cap3 (by omega) hD (by omega)
  have hZl : Z.length = D.length := by rw [← hZ, List.length_map]
  have hfr := foldC_run numLin gc (R := (iniN Z n).map RI.v) (by rw [List.length_map, iniN_length (by omega)])
  have hF1 := Run_ev (k + 49) ins n code outs nl cap false cap2 Z nlz capz hr (by omega) hZs (by omega) (by omega)
  have hF2 := Run_ev (k + 49) ins n (foldC code) outs nlq capq false none Z nlz capz hrq (by omega) hZs (by omega) (by omega)
  rw [hfr] at hF2
  obtain ⟨C, hC⟩ : ∃ C, C = foldC code := ⟨_, rfl⟩
  rw [← hC] at hps hck hF2 hrq
  have hii : (ins = ins) = True := eq_self _
  rcases hF1 with ⟨he1, j1, hv1⟩ | ⟨R1, nl4, cap4, he1, hR1l, hR1s, hv1⟩
  · rcases hF2 with ⟨_, j2, hv2⟩ | ⟨R2, nl5, cap5, he2, hR2l, hR2s, hv2⟩
    · have hsm := alike_ev (k + 54) [] [] true true (some 0) (some 0) (by simp) (fun r hr => (nomatch hr)) (fun r hr => (nomatch hr)) rfl (by omega)
      simp only [sN, encN, List.length_nil] at hsm
      simp only [run, aP, ii, bb, sC, sI, sN, hlg, hr, hrq] at hwk hlg' hps hof hv1 hv2 hck heq hsm
      rw [run, ev4, ans_trim]
      simp only [Tryd.f4, aP, ii, bb, hwk, hlg', hps, hDl', FT, Int.reduceEq, Int.reduceToNat, Int.reduceLE, Int.reduceLT, Int.reduceAdd, Int.reduceMul, Int.reduceSub, Int.reduceNeg, Nat.reduceAdd, Nat.reduceSub, Nat.reduceMul, Nat.reduceLT, Nat.reduceBEq, Nat.reduceEqDiff, Nat.reduceLeDiff]
      rw [evalCode_drawn Tryd.f4 9 dr4_9]; rotate_left; rfl
      simp (config := { maxSteps := 4000000 }) only [hof, hv1, EVd, List.getElem?_nil, Nat.reducePow, Nat.reduceDiv, Nat.reduceMod, FT, Int.reduceEq, Int.reduceToNat, Int.reduceLE, Int.reduceLT, Int.reduceAdd, Int.reduceMul, Int.reduceSub, Int.reduceNeg, Nat.reduceAdd, Nat.reduceSub, Nat.reduceMul, Nat.reduceLT, Nat.reduceBEq, Nat.reduceEqDiff, Nat.reduceLeDiff]
      rw [evalCode_drawn Tryd.f4 10 dr4_10]; rotate_left; rfl
      simp (config := { maxSteps := 4000000 }) only [hof, hv2, hck, hsm, heq, EVd, List.getElem?_nil, Nat.reducePow, Nat.reduceDiv, Nat.reduceMod, FT, Int.reduceEq, Int.reduceToNat, Int.reduceLE, Int.reduceLT, Int.reduceAdd, Int.reduceMul, Int.reduceSub, Int.reduceNeg, Nat.reduceAdd, Nat.reduceSub, Nat.reduceMul, Nat.reduceLT, Nat.reduceBEq, Nat.reduceEqDiff, Nat.reduceLeDiff]
    · rw [he1] at he2; cases he2
  · rcases hF2 with ⟨he2, j2, hv2⟩ | ⟨R2, nl5, cap5, he2, hR2l, hR2s, hv2⟩
    · rw [he1] at he2; cases he2
    · have hRR : R1.map RI.v = R2.map RI.v := by rw [he1] at he2; exact Option.some.inj he2
      have go1 : ∀ r ∈ outs, 0 ≤ r ∧ r < (R1.length : Int) := fun r hr => by rw [hR1l]; exact go r hr
      have go2 : ∀ r ∈ outs, 0 ≤ r ∧ r < (R2.length : Int) := fun r hr => by rw [hR2l]; exact go r hr
      obtain ⟨Xo, hXo⟩ : ∃ Xo, Xo = outs.map (fun r => R1.getD r.toNat zN) := ⟨_, rfl⟩
      obtain ⟨Yo, hYo⟩ : ∃ Yo, Yo = outs.map (fun r => R2.getD r.toNat zN) := ⟨_, rfl⟩
      have hXY : Xo.map RI.v = Yo.map RI.v := by rw [hXo, hYo, out_valsN go1, out_valsN go2, hRR]
      have hXl : Xo.length = outs.length := by rw [hXo, List.length_map]
      have hXs : ∀ r ∈ Xo, (nD r.v).length ≤ 20000 := by
        intro r hr
        rw [hXo] at hr
        obtain ⟨x, _, rfl⟩ := List.mem_map.1 hr
        exact Nat.le_trans (getD_small hR1s) (by decide)
      have hYs : ∀ r ∈ Yo, (nD r.v).length ≤ 20000 := by
        intro r hr
        rw [hYo] at hr
        obtain ⟨x, _, rfl⟩ := List.mem_map.1 hr
        exact Nat.le_trans (getD_small hR2s) (by decide)
      rw [← hXo] at hv1
      rw [← hYo] at hv2
      have hsm := alike_ev (k + 54) Xo Yo nl4 nl5 cap4 cap5 (by omega) hXs hYs hXY (by omega)
      simp only [run, aP, ii, bb, sC, sI, sN, hlg, hr, hrq] at hwk hlg' hps hof hv1 hv2 hck heq hsm
      rw [run, ev4, ans_trim]
      simp only [Tryd.f4, aP, ii, bb, hwk, hlg', hps, hDl', FT, Int.reduceEq, Int.reduceToNat, Int.reduceLE, Int.reduceLT, Int.reduceAdd, Int.reduceMul, Int.reduceSub, Int.reduceNeg, Nat.reduceAdd, Nat.reduceSub, Nat.reduceMul, Nat.reduceLT, Nat.reduceBEq, Nat.reduceEqDiff, Nat.reduceLeDiff]
      rw [evalCode_drawn Tryd.f4 9 dr4_9]; rotate_left; rfl
      simp (config := { maxSteps := 4000000 }) only [hof, hv1, EVd, List.getElem?_nil, Nat.reducePow, Nat.reduceDiv, Nat.reduceMod, FT, Int.reduceEq, Int.reduceToNat, Int.reduceLE, Int.reduceLT, Int.reduceAdd, Int.reduceMul, Int.reduceSub, Int.reduceNeg, Nat.reduceAdd, Nat.reduceSub, Nat.reduceMul, Nat.reduceLT, Nat.reduceBEq, Nat.reduceEqDiff, Nat.reduceLeDiff]
      rw [evalCode_drawn Tryd.f4 10 dr4_10]; rotate_left; rfl
      simp (config := { maxSteps := 4000000 }) only [hof, hv2, hck, hsm, heq, EVd, List.getElem?_nil, Nat.reducePow, Nat.reduceDiv, Nat.reduceMod, FT, Int.reduceEq, Int.reduceToNat, Int.reduceLE, Int.reduceLT, Int.reduceAdd, Int.reduceMul, Int.reduceSub, Int.reduceNeg, Nat.reduceAdd, Nat.reduceSub, Nat.reduceMul, Nat.reduceLT, Nat.reduceBEq, Nat.reduceEqDiff, Nat.reduceLeDiff]
theorem Run_len (k : Nat) (p : Pg) (nl : Bool) (cap : Option Nat) (nl2 : Bool) (cap2 : Option Nat) (Z : List RI) (nl3 : Bool) (cap3 : Option Nat) (hr : rightM p = true) (hZ : ¬ (Z.length : Int) = p.ins) (hk : p.outs.length + p.code.length + 10 ≤ k) :
    run (k+3) 24 [aP p nl cap nl2 cap2, sN Z nl3 cap3] = some (.tup [.c (.slice [] 0 true (some 0)), ii 0, ii 5]) := by
  obtain ⟨n, hc⟩ := check_ev k p nl cap nl2 cap2 hk
  rw [checkE, if_pos hr] at hc
  have hri : run (k+2) 51 [aP p nl cap nl2 cap2, ii Z.length] = some (ii 5) := by
    simp only [run, aP, ii] at hc
    rw [run, ev51, ans_trim]
    simp only [Tryd.f51, aP, ii, hc, hZ, FT, Int.reduceEq, Int.reduceToNat, Int.reduceLE, Int.reduceLT, Int.reduceAdd, Int.reduceMul, Int.reduceSub, Int.reduceNeg, Nat.reduceAdd, Nat.reduceSub, Nat.reduceMul, Nat.reduceLT, Nat.reduceBEq, Nat.reduceEqDiff, Nat.reduceLeDiff]
  simp only [run, aP, ii] at hri
  rw [run, ev24, ans_trim]
  simp only [Tryd.f24, aP, ii, hri, FT, Int.reduceEq, Int.reduceToNat, Int.reduceLE, Int.reduceLT, Int.reduceAdd, Int.reduceMul, Int.reduceSub, Int.reduceNeg, Nat.reduceAdd, Nat.reduceSub, Nat.reduceMul, Nat.reduceLT, Nat.reduceBEq, Nat.reduceEqDiff, Nat.reduceLeDiff]
theorem FoldAnswers_len (k : Nat) (ins : Int) (n : Nat) (code : List Ins) (outs : List Int) (nl : Bool) (cap : Option Nat) (nl2 : Bool) (cap2 : Option Nat) (D : List Int) (nl3 : Bool) (cap3 : Option Nat) (hk : 80000 ≤ k) (hD : ∀ x ∈ D, in64 x) (hr : rightM ⟨ins, n, code, outs⟩ = true) (hn2 : nl2 = true → outs = []) (hlg : ¬ (300 < code.length ∧ code.length ≤ 16384)) (hDl : D.length ≤ 200) (hln : ¬ (D.length : Int) = ins) :
    run (k+61) 4 [aP ⟨ins, n, code, outs⟩ nl cap nl2 cap2, sI D nl3 cap3] = some (bb true) := by
  have hwk := l13works_ev k
  have hlg' := long13_ev (k + 59) ⟨ins, n, code, outs⟩ nl cap nl2 cap2
  have hr' := hr
  simp only [rightM, headM, codeM, outsM, Bool.and_eq_true, decide_eq_true_eq, List.all_eq_true] at hr'
  obtain ⟨⟨⟨g1, g2, g3, g4, g5, g6⟩, go⟩, gc⟩ := hr'
  obtain rfl : nl2 = false := by
    cases nl2 with
    | false => rfl
    | true => have := hn2 rfl; subst this; simp at g5
  have hcl : code.length ≤ 300 := by omega
  have hDl' : ¬ (200 : Int) < D.length := by omega
  obtain ⟨nlq, capq, hps⟩ := foldPass_ev (k + 59) n ins code outs nl cap false cap2 (by omega) hn2 hr
  have hrq := foldP_right hr
  have hfl := foldC_len code
  have hfp : foldP ⟨ins, n, code, outs⟩ = ⟨ins, n, foldC code, outs⟩ := rfl
  rw [hfp] at hps hrq
  obtain ⟨cn, hck⟩ := check_ev (k + 59) ⟨ins, n, foldC code, outs⟩ nlq capq false none (by show outs.length + (foldC code).length + 10 ≤ _; omega)
  simp only [checkE, hrq, if_true] at hck
  have heq := eqInts_ev (k + 59) outs false false none cap2 (by omega) (by omega)
  obtain ⟨Z, nlz, capz, hZ, hZs, hof⟩ := l15list_ev (k + 55) D nl3 cap3 (by omega) hD (by omega)
  have hZl : Z.length = D.length := by rw [← hZ, List.length_map]
  have hv1 := Run_len (k + 57) ⟨ins, n, code, outs⟩ nl cap false cap2 Z nlz capz hr (by simp only; omega) (by simp only; omega)
  have hv2 := Run_len (k + 57) ⟨ins, n, foldC code, outs⟩ nlq capq false none Z nlz capz hrq (by simp only; omega) (by simp only; omega)
  obtain ⟨C, hC⟩ : ∃ C, C = foldC code := ⟨_, rfl⟩
  rw [← hC] at hps hck hv2 hrq
  have hsm := alike_ev (k + 54) [] [] true true (some 0) (some 0) (by simp) (fun r hr => (nomatch hr)) (fun r hr => (nomatch hr)) rfl (by omega)
  simp only [sN, encN, List.length_nil] at hsm
  simp only [run, aP, ii, bb, sC, sI, sN, hlg, hr, hrq] at hwk hlg' hps hof hv1 hv2 hck heq hsm
  rw [run, ev4, ans_trim]
  simp only [Tryd.f4, aP, ii, bb, hwk, hlg', hps, hDl', FT, Int.reduceEq, Int.reduceToNat, Int.reduceLE, Int.reduceLT, Int.reduceAdd, Int.reduceMul, Int.reduceSub, Int.reduceNeg, Nat.reduceAdd, Nat.reduceSub, Nat.reduceMul, Nat.reduceLT, Nat.reduceBEq, Nat.reduceEqDiff, Nat.reduceLeDiff]
  rw [evalCode_drawn Tryd.f4 9 dr4_9]; rotate_left; rfl
  simp (config := { maxSteps := 4000000 }) only [hof, hv1, EVd, List.getElem?_nil, Nat.reducePow, Nat.reduceDiv, Nat.reduceMod, FT, Int.reduceEq, Int.reduceToNat, Int.reduceLE, Int.reduceLT, Int.reduceAdd, Int.reduceMul, Int.reduceSub, Int.reduceNeg, Nat.reduceAdd, Nat.reduceSub, Nat.reduceMul, Nat.reduceLT, Nat.reduceBEq, Nat.reduceEqDiff, Nat.reduceLeDiff]
  rw [evalCode_drawn Tryd.f4 10 dr4_10]; rotate_left; rfl
  simp (config := { maxSteps := 4000000 }) only [hof, hv2, hck, hsm, heq, EVd, List.getElem?_nil, Nat.reducePow, Nat.reduceDiv, Nat.reduceMod, FT, Int.reduceEq, Int.reduceToNat, Int.reduceLE, Int.reduceLT, Int.reduceAdd, Int.reduceMul, Int.reduceSub, Int.reduceNeg, Nat.reduceAdd, Nat.reduceSub, Nat.reduceMul, Nat.reduceLT, Nat.reduceBEq, Nat.reduceEqDiff, Nat.reduceLeDiff]
theorem FoldAnswers_ev (k : Nat) (p : Pg) (nl : Bool) (cap : Option Nat) (nl2 : Bool) (cap2 : Option Nat) (D : List Int) (nl3 : Bool) (cap3 : Option Nat) (hk : p.outs.length + p.code.length + D.length + 80100 ≤ k) (_ : nl = true → p.code = []) (hn2 : nl2 = true → p.outs = []) (hs : p.code.length * 40 ≤ roomBytes) (_ : p.outs.length * 8 ≤ roomBytes) (hD : ∀ x ∈ D, in64 x) (_ : nl3 = true → D = []) :
    run (k+1) 4 [aP p nl cap nl2 cap2, sI D nl3 cap3] = some (bb true) := by
  obtain ⟨k, rfl⟩ : ∃ j, k = j + 60 := ⟨k - 60, by omega⟩
  have hwk := l13works_ev k
  have hlg' := long13_ev (k + 59) p nl cap nl2 cap2
  by_cases hl : 300 < p.code.length ∧ p.code.length ≤ 16384
  · simp only [run, aP, ii, sC, sI, bb, hl] at hwk hlg'
    rw [run, ev4, ans_trim]
    simp only [Tryd.f4, aP, ii, bb, hwk, hlg', FT, Int.reduceEq, Int.reduceToNat, Int.reduceLE, Int.reduceLT, Int.reduceAdd, Int.reduceMul, Int.reduceSub, Int.reduceNeg, Nat.reduceAdd, Nat.reduceSub, Nat.reduceMul, Nat.reduceLT, Nat.reduceBEq, Nat.reduceEqDiff, Nat.reduceLeDiff]
  · by_cases hd : (200 : Int) < D.length
    · simp only [run, aP, ii, sC, sI, bb, hl] at hwk hlg'
      rw [run, ev4, ans_trim]
      simp only [Tryd.f4, aP, ii, bb, hwk, hlg', hd, FT, Int.reduceEq, Int.reduceToNat, Int.reduceLE, Int.reduceLT, Int.reduceAdd, Int.reduceMul, Int.reduceSub, Int.reduceNeg, Nat.reduceAdd, Nat.reduceSub, Nat.reduceMul, Nat.reduceLT, Nat.reduceBEq, Nat.reduceEqDiff, Nat.reduceLeDiff]
    · cases hr : rightM p with
      | false =>
        have hps := foldPass_bad (k + 59) p nl cap nl2 cap2 (by omega) hr
        obtain ⟨cn, hck⟩ := check_ev (k + 59) p nl cap nl2 cap2 (by omega)
        simp only [run, aP, ii, sC, sI, bb, hl, checkE, hr] at hwk hlg' hps hck
        rw [run, ev4, ans_trim]
        simp only [Tryd.f4, aP, ii, bb, hwk, hlg', hd, hps, hck, FT, Int.reduceEq, Int.reduceToNat, Int.reduceLE, Int.reduceLT, Int.reduceAdd, Int.reduceMul, Int.reduceSub, Int.reduceNeg, Nat.reduceAdd, Nat.reduceSub, Nat.reduceMul, Nat.reduceLT, Nat.reduceBEq, Nat.reduceEqDiff, Nat.reduceLeDiff]
      | true =>
        obtain ⟨ins, regs, code, outs⟩ := p
        obtain ⟨n, hn⟩ : ∃ n : Nat, regs = n := by
          have hr' := hr
          simp only [rightM, headM, Bool.and_eq_true, decide_eq_true_eq] at hr'
          exact ⟨regs.toNat, by omega⟩
        subst hn
        simp only at hn2 hl hk
        by_cases hln : (D.length : Int) = ins
        · exact FoldAnswers_good k ins n code outs nl cap nl2 cap2 D nl3 cap3 (by omega) hD hr hn2 hl (by omega) hln
        · exact FoldAnswers_len k ins n code outs nl cap nl2 cap2 D nl3 cap3 (by omega) hD hr hn2 hl (by omega) hln
end Go.Proofs.Sw.W
namespace Go.Proofs.Sw
open Go.Ab
section
variable [Globals]
variable {H : Type} {enc : TypeId × Value → H} {W : World} {spare : Nat → Bool} {held : Bool} {fuel : Nat} {cs : List Value} {x : DataW H × List MemPlace}
theorem cells34 : Tryd.prog.cellsOf 61 = 5 := by kernel_rfl
theorem cells3 : Tryd.prog.cellsOf 3 = 1 := by kernel_rfl
set_option maxRecDepth 10000 in
theorem open_ins (h : DataW.trod enc Tryd.prog W 0 spare held fuel 61 cs = some x) : ∃ o t a b c : Int, cs = [.int .i64 o, .int .i64 t, .int .i64 a, .int .i64 b, .int .i64 c] := by
  obtain ⟨xs, n, rfl, _, hl, hx, hf⟩ := DataW.trod_struct Tryd.underlying61 h
  rw [cells34] at hl
  have hx' : xs.length = 5 := hx.trans (by kernel_rfl)
  match cs, hl with
  | [c0, c1, c2, c3, c4], _ =>
    have g0 : DataW.trod enc Tryd.prog W 0 spare held n 3 (([c0, c1, c2, c3, c4].drop 0).take (Tryd.prog.cellsOf 3)) = xs[0]? := hf 0 _ rfl
    have g1 : DataW.trod enc Tryd.prog W 0 spare held n 3 (([c0, c1, c2, c3, c4].drop 1).take (Tryd.prog.cellsOf 3)) = xs[1]? := hf 1 _ rfl
    have g2 : DataW.trod enc Tryd.prog W 0 spare held n 3 (([c0, c1, c2, c3, c4].drop 2).take (Tryd.prog.cellsOf 3)) = xs[2]? := hf 2 _ rfl
    have g3 : DataW.trod enc Tryd.prog W 0 spare held n 3 (([c0, c1, c2, c3, c4].drop 3).take (Tryd.prog.cellsOf 3)) = xs[3]? := hf 3 _ rfl
    have g4 : DataW.trod enc Tryd.prog W 0 spare held n 3 (([c0, c1, c2, c3, c4].drop 4).take (Tryd.prog.cellsOf 3)) = xs[4]? := hf 4 _ rfl
    rw [cells3, List.getElem?_eq_getElem (by omega)] at g0 g1 g2 g3 g4
    obtain ⟨n0, e0, _⟩ := open_num Tryd.underlying3 g0
    obtain ⟨n1, e1, _⟩ := open_num Tryd.underlying3 g1
    obtain ⟨n2, e2, _⟩ := open_num Tryd.underlying3 g2
    obtain ⟨n3, e3, _⟩ := open_num Tryd.underlying3 g3
    obtain ⟨n4, e4, _⟩ := open_num Tryd.underlying3 g4
    simp at e0 e1 e2 e3 e4
    exact ⟨n0, n1, n2, n3, n4, by rw [e0, e1, e2, e3, e4]⟩
theorem agg_of {v : Value} {l : List Value} (h : v.cells.toList = l) (hl : 1 < l.length) : v = .agg l.toArray := by
  cases v with
  | agg cs =>
    have : cs.toList = l := h
    rw [← this]
  | _ =>
    have h1 := congrArg List.length h
    have h2 : l.length = 1 := by rw [← h1]; rfl
    omega
theorem cells25 : Tryd.prog.cellsOf 25 = 4 := by kernel_rfl
theorem cells22 : Tryd.prog.cellsOf 22 = 1 := by kernel_rfl
theorem cells23 : Tryd.prog.cellsOf 23 = 1 := by kernel_rfl
theorem elem_ins (n : Nat) (cs' : List Value) (y : DataW H × List MemPlace) (h : DataW.trod enc Tryd.prog W 0 spare held n 61 cs' = some y) : ∃ ivs, (∃ i : Ins, ivs = enc1 i) ∧ ivs.length = 5 ∧ Rel W ivs cs' := by
  obtain ⟨o, t, a, b, c, rfl⟩ := open_ins h
  exact ⟨_, ⟨⟨o, t, a, b, c⟩, rfl⟩, rfl, Rel.cons (.int _ _) (Rel.cons (.int _ _) (Rel.cons (.int _ _) (Rel.cons (.int _ _) (Rel.cons (.int _ _) Rel.nil))))⟩
theorem elem_int (n : Nat) (cs' : List Value) (y : DataW H × List MemPlace) (h : DataW.trod enc Tryd.prog W 0 spare held n 3 cs' = some y) : ∃ ivs, (∃ z : Int, ivs = [.int .i64 z]) ∧ ivs.length = 1 ∧ Rel W ivs cs' := by
  obtain ⟨z, rfl, _⟩ := open_num Tryd.underlying3 h
  exact ⟨_, ⟨z, rfl⟩, rfl, Rel.cons (.int _ _) Rel.nil⟩
theorem code_of : ∀ (chunks : List (List IV)), (∀ c ∈ chunks, (∃ i : Ins, c = enc1 i) ∧ c.length = 5) → ∃ code : List Ins, chunks.flatten = encCode code ∧ chunks.length = code.length
  | [], _ => ⟨[], rfl, rfl⟩
  | c :: cs, h => by
    obtain ⟨code, h1, h2⟩ := code_of cs fun c hc => h c (by simp [hc])
    obtain ⟨⟨i, rfl⟩, _⟩ := h c (by simp)
    exact ⟨i :: code, by rw [List.flatten_cons, h1, encCode], by simp [h2]⟩
theorem ints_of : ∀ (chunks : List (List IV)), (∀ c ∈ chunks, (∃ z : Int, c = [.int .i64 z]) ∧ c.length = 1) → ∃ l : List Int, chunks.flatten = encInts l ∧ chunks.length = l.length
  | [], _ => ⟨[], rfl, rfl⟩
  | c :: cs, h => by
    obtain ⟨l, h1, h2⟩ := ints_of cs fun c hc => h c (by simp [hc])
    obtain ⟨⟨z, rfl⟩, _⟩ := h c (by simp)
    exact ⟨z :: l, by rw [List.flatten_cons, h1]; rfl, by simp [h2]⟩
set_option maxRecDepth 10000 in
theorem open_pgV {v : Value} {d : DataW H} {p : List MemPlace} (h : DataW.Trod enc Tryd.prog W 0 spare held 25 v d p) :
    ∃ (q : Pg) (nl nl2 : Bool), VRel (Old W) [] [] W (aP q nl none nl2 none) v ∧ (nl = true → q.code = []) ∧ (nl2 = true → q.outs = []) ∧ q.code.length ≤ maxLen ∧ q.outs.length ≤ maxLen := by
  obtain ⟨m, hm⟩ := h
  generalize hcs : v.cells.toList = cs at hm
  obtain ⟨xs, n, rfl, _, hl, hx, hf⟩ := DataW.trod_struct Tryd.underlying25 hm
  rw [cells25] at hl
  have hx' : xs.length = 4 := hx.trans (by kernel_rfl)
  match cs, hl with
  | [c0, c1, c2, c3], _ =>
    have g0 : DataW.trod enc Tryd.prog W 0 spare held n 3 (([c0, c1, c2, c3].drop 0).take (Tryd.prog.cellsOf 3)) = xs[0]? := hf 0 _ rfl
    have g1 : DataW.trod enc Tryd.prog W 0 spare held n 3 (([c0, c1, c2, c3].drop 1).take (Tryd.prog.cellsOf 3)) = xs[1]? := hf 1 _ rfl
    have g2 : DataW.trod enc Tryd.prog W 0 spare held n 22 (([c0, c1, c2, c3].drop 2).take (Tryd.prog.cellsOf 22)) = xs[2]? := hf 2 _ rfl
    have g3 : DataW.trod enc Tryd.prog W 0 spare held n 23 (([c0, c1, c2, c3].drop 3).take (Tryd.prog.cellsOf 23)) = xs[3]? := hf 3 _ rfl
    rw [cells3, List.getElem?_eq_getElem (by omega)] at g0 g1
    rw [cells22, List.getElem?_eq_getElem (by omega)] at g2
    rw [cells23, List.getElem?_eq_getElem (by omega)] at g3
    obtain ⟨n0, e0, _⟩ := open_num Tryd.underlying3 g0
    obtain ⟨n1, e1, _⟩ := open_num Tryd.underlying3 g1
    obtain ⟨v2, ch2, nl, e2, o2, hg2, hl2, hn2, r2⟩ := open_slice (fun ivs => ∃ i : Ins, ivs = enc1 i) Tryd.underlying22 cells34 (by omega) elem_ins g2
    obtain ⟨v3, ch3, nl2, e3, o3, hg3, hl3, hn3, r3⟩ := open_slice (fun ivs => ∃ z : Int, ivs = [.int .i64 z]) Tryd.underlying23 cells3 (by omega) elem_int g3
    simp at e0 e1 e2 e3
    subst e0; subst e1; subst e2; subst e3
    obtain ⟨code, k1, k2⟩ := code_of ch2 hg2
    obtain ⟨outs, k3, k4⟩ := ints_of ch3 hg3
    rw [k1, k2] at r2
    rw [k3, k4] at r3
    refine ⟨⟨n0, n1, code, outs⟩, nl, nl2, ?_, fun h => ?_, fun h => ?_, by rw [← k2]; exact hl2, by rw [← k4]; exact hl3⟩
    · rw [agg_of hcs (by simp)]
      exact VRel.of_rel (xs := [.int .i64 n0, .int .i64 n1, .slice (encCode code) code.length nl none, .slice (encInts outs) outs.length nl2 none]) (Rel.cons (.int _ _) (Rel.cons (.int _ _) (Rel.cons r2 (Rel.cons r3 Rel.nil))))
    · have := hn2 h
      subst this
      exact List.eq_nil_of_length_eq_zero k2.symm
    · have := hn3 h
      subst this
      exact List.eq_nil_of_length_eq_zero k4.symm
end
end Go.Proofs.Sw
namespace Go.Proofs.Sw
open Go.Ab
section
variable [Globals]
variable {H : Type} {enc : TypeId × Value → H} {W : World} {spare : Nat → Bool} {held : Bool} {fuel : Nat}
theorem rel_len {ivs : List IV} {n : Nat} {nl : Bool} {cap : Option Nat} {a : Option Addr} {len c : Nat} (h : IRel (Old W) W (.slice ivs n nl cap) (.slice a len c)) : n = len := by
  cases h; rfl
theorem slice_len {t e : TypeId} {cs : List Value} {x : DataW H × List MemPlace} {v : Value} {ivs : List IV} {n : Nat} {nl : Bool} {cap : Option Nat} (ht : Tryd.prog.underlying t = some (.slice e)) (h : DataW.trod enc Tryd.prog W 0 spare held fuel t cs = some x) (hv : cs = [v]) (hr : IRel (Old W) W (.slice ivs n nl cap) v) :
    (∃ el sp, x.1 = .slice el sp ∧ el.length = n) ∨ n = 0 := by
  rcases DataW.trod_slice ht h with ⟨rfl, _⟩ | ⟨a, len, cp, elems, rest, m, _, rfl, rfl, _, _, _, hel, _, _, _⟩
  · obtain rfl : v = .slice none 0 0 := by simpa using hv.symm
    exact .inr (rel_len hr)
  · obtain rfl : v = .slice (some a) len cp := by simpa using hv.symm
    exact .inl ⟨_, _, rfl, by rw [List.length_map, hel]; exact (rel_len hr).symm⟩
theorem pg_rel {q : Pg} {nl nl2 : Bool} {v : Value} (h : VRel (Old W) [] [] W (aP q nl none nl2 none) v) {c0 c1 c2 c3 : Value} (hc : v.cells.toList = [c0, c1, c2, c3]) :
    IRel (Old W) W (.slice (encCode q.code) q.code.length nl none) c2 ∧ IRel (Old W) W (.slice (encInts q.outs) q.outs.length nl2 none) c3 := by
  cases h with
  | agg h1 h2 r =>
    rename_i cs
    have e : cs.toList = [c0, c1, c2, c3] := hc
    have g : ∀ i c, [c0, c1, c2, c3][i]? = some c → cs.getD i undef = c := fun i c hi => by
      have : cs[i]? = some c := by rw [← Array.getElem?_toList, e]; exact hi
      rw [Array.getD_eq_getD_getElem?, this]; rfl
    constructor
    · have := r 2 _ rfl
      rw [g 2 c2 rfl] at this
      cases this with
      | c h => exact h
    · have := r 3 _ rfl
      rw [g 3 c3 rfl] at this
      cases this with
      | c h => exact h
set_option maxRecDepth 10000 in
theorem open_pgZ {q : Pg} {nl nl2 : Bool} {v : Value} {d : DataW H} {p : List MemPlace} (h : DataW.Trod enc Tryd.prog W 0 spare held 25 v d p) (hr : VRel (Old W) [] [] W (aP q nl none nl2 none) v) (hz : (d.weights Tryd.prog 25).all (· ≤ reachBytes) = true) :
    q.code.length * 40 ≤ reachBytes ∧ q.outs.length * 8 ≤ reachBytes := by
  obtain ⟨m, hm⟩ := h
  generalize hcs : v.cells.toList = cs at hm
  obtain ⟨xs, n, rfl, hx0, hl, hx, hf⟩ := DataW.trod_struct Tryd.underlying25 hm
  rw [cells25] at hl
  have hx' : xs.length = 4 := hx.trans (by kernel_rfl)
  simp only [Prod.mk.injEq] at hx0
  obtain ⟨rfl, _⟩ := hx0
  simp only [DataW.weights, Tryd.underlying25] at hz
  match cs, hl with
  | [c0, c1, c2, c3], _ =>
    have g2 : DataW.trod enc Tryd.prog W 0 spare held n 22 (([c0, c1, c2, c3].drop 2).take (Tryd.prog.cellsOf 22)) = xs[2]? := hf 2 _ rfl
    have g3 : DataW.trod enc Tryd.prog W 0 spare held n 23 (([c0, c1, c2, c3].drop 3).take (Tryd.prog.cellsOf 23)) = xs[3]? := hf 3 _ rfl
    rw [cells22, List.getElem?_eq_getElem (by omega)] at g2
    rw [cells23, List.getElem?_eq_getElem (by omega)] at g3
    obtain ⟨r2, r3⟩ := pg_rel hr hcs
    have b34 : Tryd.prog.bytesOf 61 = 40 := by kernel_rfl
    have b3 : Tryd.prog.bytesOf 3 = 8 := by kernel_rfl
    constructor
    · rcases slice_len Tryd.underlying22 g2 rfl r2 with ⟨el, sp, e, he⟩ | h0
      · have := sized_slice hz (j := 2) (t := 22) (e := 61) (elems := el) (spare := sp) rfl (by rw [List.getElem?_map, List.getElem?_eq_getElem (by omega), Option.map_some, e]) Tryd.underlying22
        rw [b34, he] at this
        exact Nat.le_trans (Nat.mul_le_mul_right 40 (Nat.le_add_right _ _)) this
      · rw [h0]; decide
    · rcases slice_len Tryd.underlying23 g3 rfl r3 with ⟨el, sp, e, he⟩ | h0
      · have := sized_slice hz (j := 3) (t := 23) (e := 3) (elems := el) (spare := sp) rfl (by rw [List.getElem?_map, List.getElem?_eq_getElem (by omega), Option.map_some, e]) Tryd.underlying23
        rw [b3, he] at this
        exact Nat.le_trans (Nat.mul_le_mul_right 8 (Nat.le_add_right _ _)) this
      · rw [h0]; decide
theorem reach_room {n : Nat} (h : n ≤ reachBytes) : n ≤ Go.Ab.roomBytes := Nat.le_trans h (by decide)
end
end Go.Proofs.Sw
namespace Go.Proofs.Sw
open Go.Ab
section
variable [Globals]
variable {H : Type} {enc : TypeId × Value → H} {W : World} {spare : Nat → Bool} {held : Bool} {fuel : Nat} {cs : List Value} {x : DataW H × List MemPlace}
theorem cells2 : Tryd.prog.cellsOf 2 = 1 := by kernel_rfl
theorem elem_i64 (n : Nat) (cs' : List Value) (y : DataW H × List MemPlace) (h : DataW.trod enc Tryd.prog W 0 spare held n 2 cs' = some y) : ∃ ivs, (∃ z : Int, in64 z ∧ ivs = [.int .i64 z]) ∧ ivs.length = 1 ∧ Rel W ivs cs' := by
  obtain ⟨z, rfl, hz⟩ := open_num Tryd.underlying2 h
  refine ⟨_, ⟨z, ?_, rfl⟩, rfl, Rel.cons (.int _ _) Rel.nil⟩
  have hz' := hz
  simp [Lit.wf, IntKind.min, IntKind.max, IntKind.bits, IntKind.signed] at hz'
  unfold in64
  omega
theorem i64s_of : ∀ (chunks : List (List IV)), (∀ c ∈ chunks, (∃ z : Int, in64 z ∧ c = [.int .i64 z]) ∧ c.length = 1) → ∃ l : List Int, chunks.flatten = encInts l ∧ chunks.length = l.length ∧ ∀ z ∈ l, in64 z
  | [], _ => ⟨[], rfl, rfl, fun z hz => by cases hz⟩
  | c :: cs, h => by
    obtain ⟨l, h1, h2, h3⟩ := i64s_of cs fun c hc => h c (by simp [hc])
    obtain ⟨⟨z, hz, rfl⟩, _⟩ := h c (by simp)
    refine ⟨z :: l, by rw [List.flatten_cons, h1]; rfl, by simp [h2], fun y hy => ?_⟩
    rcases List.mem_cons.1 hy with rfl | hy
    · exact hz
    · exact h3 y hy
end
end Go.Proofs.Sw
namespace Go.Proofs.Sw
open Go.Ab
section
variable [Globals]
variable {H : Type} {enc : TypeId × Value → H} {W : World} {spare : Nat → Bool} {held : Bool}
theorem open_intsV {v : Value} {d : DataW H} {p : List MemPlace} (hv : ∃ a len cap, v = .slice a len cap) (h : DataW.Trod enc Tryd.prog W 0 spare held 44 v d p) :
    ∃ (D : List Int) (nl : Bool), VRel (Old W) [] [] W (sI D nl none) v ∧ (∀ x ∈ D, in64 x) ∧ D.length ≤ maxLen ∧ (nl = true → D = []) := by
  obtain ⟨m, hm⟩ := h
  generalize hcs : v.cells.toList = cs at hm
  obtain ⟨v', ch, nl, rfl, oc, hg, hl, hnn, r⟩ := open_slice (fun ivs => ∃ z : Int, in64 z ∧ ivs = [.int .i64 z]) Tryd.underlying44 cells2 (by omega) elem_i64 hm
  obtain ⟨D, h1, h2, h3⟩ := i64s_of ch hg
  rw [h1, h2] at r
  refine ⟨D, nl, ?_, h3, by rw [← h2]; exact hl, fun h => List.eq_nil_of_length_eq_zero (by rw [← h2, hnn h]; rfl)⟩
  obtain ⟨a, len, cap, rfl⟩ := hv
  obtain rfl : Value.slice a len cap = v' := by simpa [Value.cells] using hcs
  exact .c r
end
end Go.Proofs.Sw
