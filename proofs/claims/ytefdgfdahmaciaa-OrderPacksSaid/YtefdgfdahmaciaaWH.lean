/- A part of the proof: what functions of the program answer, of whatever arguments, reckoned with letters by the interpreter's equations. Its conditions stand in each theorem. -/
import Derived.Test.YtefdgfdahmaciaaWG
namespace Go.Proofs.Sw
set_option linter.unusedVariables false
set_option linter.unusedSimpArgs false
set_option linter.unusedSectionVars false
open Go.Ab
variable [Globals]
/-! ### the reference's Pack: lists anywhere in memory -/
abbrev rP (l : List (Int × Int)) : AObj := .row false 134 (encPl l)
def nv (id : Nat) : List (Int × Int) → AV
  | [] => .c (.slice [] 0 true (some 0))
  | p :: l => .hsl id 0 (p :: l).length ((p :: l).length * 2) 2
theorem nv_ne {id : Nat} {l : List (Int × Int)} (h : l ≠ []) : nv id l = .hsl id 0 l.length (l.length * 2) 2 := by
  cases l with
  | nil => exact absurd rfl h
  | cons p l => rfl
theorem lnvP (id : Nat) (l : List (Int × Int)) : lenA Try.prog 131 (nv id l) = some (.c (.int .i64 l.length)) := by
  cases l with
  | nil => exact ln131 [] 0 true (some 0)
  | cons p l => exact lnh131 id 0 _ _ _
def appId (H : Heap) (id : Nat) (l : List (Int × Int)) : Nat := if l = [] then H.length + 1 else id
def appH (H : Heap) (id : Nat) (l : List (Int × Int)) (a b : Int) : Heap := if l = [] then H ++ [rP [(a, b)]] ++ [rP [(a, b)]] else (H ++ [rP [(a, b)]]).set id (rP (l ++ [(a, b)]))
theorem appH_length (H : Heap) (id : Nat) (l : List (Int × Int)) (a b : Int) : H.length ≤ (appH H id l a b).length := by
  unfold appH
  split <;> simp <;> omega
theorem appH_old {H : Heap} {id : Nat} {l : List (Int × Int)} {a b : Int} {i : Nat} (hi : i < H.length) (h : l ≠ [] → i ≠ id) : (appH H id l a b)[i]? = H[i]? := by
  unfold appH
  split
  · rw [List.getElem?_append_left (by simp; omega), List.getElem?_append_left hi]
  · rename_i hl
    rw [List.getElem?_set_ne (fun e => h hl e.symm), List.getElem?_append_left hi]
theorem appH_new {H : Heap} {id : Nat} {l : List (Int × Int)} {a b : Int} (h : l ≠ [] → id < H.length) : (appH H id l a b)[appId H id l]? = some (rP (l ++ [(a, b)])) := by
  unfold appH appId
  by_cases hl : l = []
  · rw [if_pos hl, if_pos hl, hl, List.getElem?_append_right (by simp), show H.length + 1 - (H ++ [rP [(a, b)]]).length = 0 by simp]; rfl
  · have := h hl
    rw [if_neg hl, if_neg hl, List.getElem?_set_self (by simp; omega)]
theorem app_ev {H : Heap} {id : Nat} {l : List (Int × Int)} {a b : Int} (h : l ≠ [] → H[id]? = some (rP l)) (hb : l.length ≤ 1000000) :
    apO 134 2 16 none (nv id l) (H ++ [.row false 134 [.int .i64 a, .int .i64 b]]) (some ([.int .i64 a, .int .i64 b], 1)) = some (nv (appId H id l) (l ++ [(a, b)]), appH H id l a b) := by
  by_cases hl : l = []
  · subst hl
    have := apO_nil (e := 134) (sz := 2) (by_ := 16) (m := 1) (nl := true) (H := H ++ [.row false 134 [.int .i64 a, .int .i64 b]]) (cs := [.int .i64 a, .int .i64 b]) (by decide) (Nat.le_trans (show 1 * 16 ≤ 1000000 by decide) (by decide))
    show apO 134 2 16 none (.c (.slice [] 0 true (some 0))) _ _ = _
    rw [this]
    simp [nv, appId, appH, encPl]
  · have h1 := h hl
    have h2 : (H ++ [AObj.row false 134 [.int .i64 a, .int .i64 b]])[id]? = some (rP l) := by
      rw [List.getElem?_append_left]
      · exact h1
      · exact (List.getElem?_eq_some_iff.1 h1).1
    have h3 := apO_row (e := 134) (sz := 2) (by_ := 16) (m := 1) (len := l.length) (sl := none) (cs := [.int .i64 a, .int .i64 b]) (by decide) (Nat.le_trans (show (l.length + 1) * 16 ≤ 16000016 by omega) (by decide)) (by decide) h2 (encPl_length l)
    rw [nv_ne hl, h3, nv_ne (by simp)]
    unfold appId appH
    rw [if_neg hl, if_neg hl, List.length_append]
    simp only [rP, encPl_append, encPl, List.length_cons, List.length_nil]
theorem gNew {H : Heap} (a : AObj) : (H ++ [a])[H.length]? = some a := by simp
theorem gSet {H : Heap} (a b : AObj) : (H ++ [a]).set H.length b = H ++ [b] := by
  rw [List.set_append_right _ _ (Nat.le_refl _), Nat.sub_self]; rfl
theorem gOld {H : Heap} {i : Nat} {o : AObj} (h : H[i]? = some o) (a : AObj) : (H ++ [a])[i]? = some o := by
  rw [List.getElem?_append_left (List.getElem?_eq_some_iff.1 h).1]; exact h
/-- Of a list what is not over. -/
def restP (S : Sv) (kk : Nat) (l : List (Int × Int)) : List (Int × Int) := l.filter fun p => decide (untilR S p.1 ≠ kk)
theorem restP_take {S : Sv} {kk : Nat} {l : List (Int × Int)} {i : Nat} (h : i < l.length) : restP S kk (l.take (i + 1)) = if untilR S l[i].1 = kk then restP S kk (l.take i) else restP S kk (l.take i) ++ [l[i]] := by
  unfold restP
  rw [List.take_succ_eq_append_getElem h, List.filter_append, List.filter_cons]
  by_cases e : untilR S l[i].1 = kk
  · rw [if_pos e, if_neg (by simpa using e)]; simp
  · rw [if_neg e, if_pos (by simpa using e)]; simp
theorem rowOfP {H : Heap} {id : Nat} {l : List (Int × Int)} (h : H[id]? = some (rP l)) : rowOf H id (l.length * 2) = some (134, encPl l) := by
  unfold rowOf
  rw [h]
  simp [encPl_length]
/-- The inputs that are asked, where they stand. -/
def inL (S : Sv) (i : Nat) : List (Int × Int) := ((List.range i).map fun (r : Nat) => (-1 - (r : Int), (r : Int))).filter fun p => decide (0 ≤ untilR S p.1)
theorem inL_succ (S : Sv) (i : Nat) : inL S (i + 1) = if 0 ≤ untilR S (-1 - (i : Int)) then inL S i ++ [(-1 - (i : Int), (i : Int))] else inL S i := by
  unfold inL
  rw [List.range_succ, List.map_append, List.filter_append]
  by_cases h : 0 ≤ untilR S (-1 - (i : Int))
  · rw [if_pos h, List.map_cons, List.map_nil, List.filter_cons, if_pos (by simpa using h)]; rfl
  · rw [if_neg h, List.map_cons, List.map_nil, List.filter_cons, if_neg (by simpa using h), List.filter_nil, List.append_nil]
theorem inL_len (S : Sv) (i : Nat) : (inL S i).length ≤ i := by
  have := List.length_filter_le (fun p : Int × Int => decide (0 ≤ untilR S p.1)) ((List.range i).map fun (r : Nat) => (-1 - (r : Int), (r : Int)))
  simpa [inL] using this
theorem trim_nv {m N i id : Nat} {l : Ass} {H : Heap} {ps : List (Int × Int)} (hi : i < N) (h : asc l i = nv id ps) (hne : ps ≠ []) (hm : m ≤ id) : trim m (fr N l) H = H := by
  refine trim_not hi ?_
  rw [h, nv_ne hne]
  show decide (id < m) = false
  exact decide_eq_false (by omega)
theorem loop_rPack5 (kf : Nat) (g : Nat) (n : Int) (need : List Bool) (code : List Ins) (outs : List Int) (nl : Bool) (cap : Option Nat) (nl2 : Bool) (cap2 : Option Nat) (nl3 : Bool) (cap3 : Option Nat) (H0 : Heap) (hH0 : H0.length = 5) (j0 : Nat) (hbx : H0[2]? = some (.cells 25 [ii g, ii n, sC code nl cap, sI outs nl2 cap2])) (hg : g ≤ 1000) (hnd : need.length = code.length) (hl : code.length ≤ 1000000) (hl2 : outs.length ≤ 1000000) (ho2 : ∀ r ∈ outs, 0 ≤ r ∧ r ≤ 1000000) (ho : ∀ j : Nat, j < code.length → need.getD j false = true → ∀ r ∈ asks (nth code j), 0 ≤ r ∧ r ≤ 1000000) (hkf : code.length + outs.length + 20 ≤ kf) (k : Nat) (l : Ass) (z : Option Out) (hz : loopR Try.prog tab (kf + 1) none LB51_5 51 190 [1, 2, 3, 4, 5, 6] 5 k l H0 = z) (hk : g < k) (a1 : asc l 1 = .ptr 2 0) (a2 : asc l 2 = .ptr 3 0) (a3 : asc l 3 = sB need nl3 cap3) (a4 : asc l 4 = .ptr 4 0) (a5 : asc l 5 = nv j0 (inL ⟨g, need, code, outs⟩ 0)) (a6 : asc l 6 = ii 0) :
    ∃ l' H' id, z = some (.exit 0 (fr 190 l') H') ∧ asc l' 1 = .ptr 2 0 ∧ asc l' 2 = .ptr 3 0 ∧ asc l' 3 = sB need nl3 cap3 ∧ asc l' 4 = .ptr 4 0 ∧ asc l' 5 = nv id (inL ⟨g, need, code, outs⟩ g) ∧ (5 ≤ H'.length ∧ (∀ j : Nat, j < 5 → H'[j]? = H0[j]?) ∧ (inL ⟨g, need, code, outs⟩ g = [] → H'.length = 5) ∧ (inL ⟨g, need, code, outs⟩ g ≠ [] → 5 ≤ id ∧ H'[id]? = some (rP (inL ⟨g, need, code, outs⟩ g)))) := by
  subst hz
  refine loop_nat g (fun k l H => loopR Try.prog tab (kf + 1) none LB51_5 51 190 [1, 2, 3, 4, 5, 6] 5 k l H)
    (fun i l H => ∃ (id : Nat), asc l 1 = .ptr 2 0 ∧ asc l 2 = .ptr 3 0 ∧ asc l 3 = sB need nl3 cap3 ∧ asc l 4 = .ptr 4 0 ∧ asc l 5 = nv id (inL ⟨g, need, code, outs⟩ i) ∧ asc l 6 = ii i ∧ ((5 ≤ H.length ∧ (∀ j : Nat, j < 5 → H[j]? = H0[j]?) ∧ (inL ⟨g, need, code, outs⟩ i = [] → H.length = 5) ∧ (inL ⟨g, need, code, outs⟩ i ≠ [] → 5 ≤ id ∧ H[id]? = some (rP (inL ⟨g, need, code, outs⟩ i))))))
    (fun z => ∃ l' H' id, z = some (.exit 0 (fr 190 l') H') ∧ asc l' 1 = .ptr 2 0 ∧ asc l' 2 = .ptr 3 0 ∧ asc l' 3 = sB need nl3 cap3 ∧ asc l' 4 = .ptr 4 0 ∧ asc l' 5 = nv id (inL ⟨g, need, code, outs⟩ g) ∧ (5 ≤ H'.length ∧ (∀ j : Nat, j < 5 → H'[j]? = H0[j]?) ∧ (inL ⟨g, need, code, outs⟩ g = [] → H'.length = 5) ∧ (inL ⟨g, need, code, outs⟩ g ≠ [] → 5 ≤ id ∧ H'[id]? = some (rP (inL ⟨g, need, code, outs⟩ g))))) ?_ g 0 k l _ (by omega) hk ⟨j0, a1, a2, a3, a4, a5, a6, ⟨by omega, fun _ _ => rfl, fun _ => hH0, fun h => absurd rfl h⟩⟩
  clear hk a1 a2 a3 a4 a5 a6
  rintro i k l H hi ⟨id, a1, a2, a3, a4, a5, a6, hp⟩
  have ht : trim 5 (fr 190 (keep l [1, 2, 3, 4, 5, 6])) H = H := by
    by_cases he : inL ⟨g, need, code, outs⟩ i = []
    · exact trim_same (hp.2.2.1 he)
    · exact trim_nv (i := 5) (id := id) (by decide) (by exact a5) he (hp.2.2.2 he).1
  by_cases hc : i < g
  · have hc' : (i : Int) < ((g : Nat) : Int) := by omega
    have hc0 : (0 : Int) ≤ i := by omega
    have hw : IntKind.wrap .i64 ((i : Int) + 1) = ((i + 1 : Nat) : Int) := by rw [wrap64 (by omega) (by omega)]; omega
    obtain ⟨p1, p2, p3, p4⟩ := hp
    have hbx1 := p2 2 (by omega)
    rw [hbx] at hbx1
    have hU := Until_ev kf g n need code outs nl cap nl2 cap2 nl3 cap3 (-1 - (i : Int)) hnd hl hl2 ho2 ho hkf
    simp only [run, aP, ii, sC, sI, sB] at hU
    have hw2 : IntKind.wrap .i64 (-1 - (i : Int)) = -1 - (i : Int) := by rw [wrap64 (by omega) (by omega)]
    have hin := inL_succ ⟨g, need, code, outs⟩ i
    have hlen := inL_len ⟨g, need, code, outs⟩ i
    by_cases h : 0 ≤ untilR ⟨g, need, code, outs⟩ (-1 - (i : Int))
    · rw [if_pos h] at hin
      rw [hin]
      have hap := app_ev (H := H) (id := id) (l := inL ⟨g, need, code, outs⟩ i) (a := -1 - (i : Int)) (b := i) (fun hne => (p4 hne).2) (by omega)
      simp only [loopR_succ, ht]
      simp only [a1, a2, a3, a4, a5, a6, hc', hc0, hw, hbx1, hU, hw2, h, hap, gNew, loopR_succ, loopOf, findLoop, firstRegion, Option.some_or, Option.none_or, Option.getD_some, Option.some.injEq, Try.f51, EVb, EVc, Int.reduceEq, Int.reduceToNat, Int.reduceLE, Int.reduceLT, Int.reduceAdd, Int.reduceMul, Int.reduceSub, Int.reduceNeg, Nat.reduceAdd, Nat.reduceSub, Nat.reduceMul, Nat.reduceLT, Nat.reduceBEq, Nat.reduceEqDiff, Nat.reduceLeDiff, FACTS, TYPES]
      refine .inr ⟨_, _, hc, rfl, _, (by rfl), (by rfl), (by rfl), (by rfl), (by rfl), (by rfl), Nat.le_trans p1 (appH_length _ _ _ _ _), fun j hj => ?_, fun hh => absurd hh (by simp), fun _ => ⟨?_, appH_new fun hne => (List.getElem?_eq_some_iff.1 (p4 hne).2).1⟩⟩
      · rw [appH_old (by omega) (fun hne e => by have := (p4 hne).1; omega)]
        exact p2 j hj
      · unfold appId
        split
        · omega
        · rename_i hne; exact (p4 hne).1
    · rw [if_neg h] at hin
      rw [hin]
      simp only [loopR_succ, ht]
      simp only [a1, a2, a3, a4, a5, a6, hc', hc0, hw, hbx1, hU, hw2, h, loopR_succ, loopOf, findLoop, firstRegion, Option.some_or, Option.none_or, Option.getD_some, Option.some.injEq, Try.f51, EVb, EVc, Int.reduceEq, Int.reduceToNat, Int.reduceLE, Int.reduceLT, Int.reduceAdd, Int.reduceMul, Int.reduceSub, Int.reduceNeg, Nat.reduceAdd, Nat.reduceSub, Nat.reduceMul, Nat.reduceLT, Nat.reduceBEq, Nat.reduceEqDiff, Nat.reduceLeDiff, FACTS, TYPES]
      exact .inr ⟨_, _, hc, rfl, _, (by rfl), (by rfl), (by rfl), (by rfl), (by rfl), (by rfl), p1, p2, p3, p4⟩
  · refine .inl ?_
    obtain rfl : i = g := by omega
    have hc' : ¬ (((i : Nat) : Int) < ((i : Nat) : Int)) := by omega
    obtain ⟨p1, p2, p3, p4⟩ := hp
    have hbx1 := p2 2 (by omega)
    rw [hbx] at hbx1
    simp only [loopR_succ, ht]
    simp only [a1, a2, a3, a4, a5, a6, hbx1, hc', loopR_succ, loopOf, findLoop, firstRegion, Option.some_or, Option.none_or, Option.getD_some, Option.some.injEq, Try.f51, EVb, EVc, Int.reduceEq, Int.reduceToNat, Int.reduceLE, Int.reduceLT, Int.reduceAdd, Int.reduceMul, Int.reduceSub, Int.reduceNeg, Nat.reduceAdd, Nat.reduceSub, Nat.reduceMul, Nat.reduceLT, Nat.reduceBEq, Nat.reduceEqDiff, Nat.reduceLeDiff, FACTS, TYPES]
    exact ⟨_, _, _, rfl, (by rfl), (by rfl), (by rfl), (by rfl), (by rfl), p1, p2, p3, p4⟩

theorem loop_rPack23 (kf : Nat) (g : Nat) (n : Int) (need : List Bool) (code : List Ins) (outs : List Int) (nl : Bool) (cap : Option Nat) (nl2 : Bool) (cap2 : Option Nat) (nl3 : Bool) (cap3 : Option Nat) (H0 : Heap) (M : Nat) (hH0 : H0.length = M) (hM : 5 ≤ M) (j0 b10 kk : Nat) (now : List (Int × Int)) (hnl : now.length ≤ 100000) (hbx : H0[2]? = some (.cells 25 [ii g, ii n, sC code nl cap, sI outs nl2 cap2])) (hg : g ≤ 1000) (hnd : need.length = code.length) (hl : code.length ≤ 1000000) (hl2 : outs.length ≤ 1000000) (ho2 : ∀ r ∈ outs, 0 ≤ r ∧ r ≤ 1000000) (ho : ∀ j : Nat, j < code.length → need.getD j false = true → ∀ r ∈ asks (nth code j), 0 ≤ r ∧ r ≤ 1000000) (hkf : code.length + outs.length + 20 ≤ kf) (k : Nat) (l : Ass) (z : Option Out) (hz : loopR Try.prog tab (kf + 1) none LB51_23 51 190 [1, 2, 3, 4, 5, 7, 10, 11, 12] M k l H0 = z) (hk : now.length < k) (a1 : asc l 1 = .ptr 2 0) (a2 : asc l 2 = .ptr 3 0) (a3 : asc l 3 = sB need nl3 cap3) (a4 : asc l 4 = .ptr 4 0) (a5 : asc l 5 = sP now false none) (a7 : asc l 7 = ii kk) (a10 : asc l 10 = .ptr b10 0) (a11 : asc l 11 = nv j0 (restP ⟨g, need, code, outs⟩ kk (now.take 0))) (a12 : asc l 12 = ii 0) :
    ∃ l' H' id2, z = some (.exit 4 (fr 190 l') H') ∧ asc l' 1 = .ptr 2 0 ∧ asc l' 2 = .ptr 3 0 ∧ asc l' 3 = sB need nl3 cap3 ∧ asc l' 4 = .ptr 4 0 ∧ asc l' 7 = ii kk ∧ asc l' 10 = .ptr b10 0 ∧ asc l' 11 = nv id2 (restP ⟨g, need, code, outs⟩ kk now) ∧ (M ≤ H'.length ∧ (∀ j : Nat, j < M → H'[j]? = H0[j]?) ∧ (restP ⟨g, need, code, outs⟩ kk now ≠ [] → M ≤ id2 ∧ H'[id2]? = some (rP (restP ⟨g, need, code, outs⟩ kk now)))) := by
  subst hz
  refine loop_nat now.length (fun k l H => loopR Try.prog tab (kf + 1) none LB51_23 51 190 [1, 2, 3, 4, 5, 7, 10, 11, 12] M k l H)
    (fun i l H => ∃ (id2 : Nat), asc l 1 = .ptr 2 0 ∧ asc l 2 = .ptr 3 0 ∧ asc l 3 = sB need nl3 cap3 ∧ asc l 4 = .ptr 4 0 ∧ asc l 5 = sP now false none ∧ asc l 7 = ii kk ∧ asc l 10 = .ptr b10 0 ∧ asc l 11 = nv id2 (restP ⟨g, need, code, outs⟩ kk (now.take i)) ∧ asc l 12 = ii i ∧ ((M ≤ H.length ∧ (∀ j : Nat, j < M → H[j]? = H0[j]?) ∧ (restP ⟨g, need, code, outs⟩ kk (now.take i) = [] → H.length = M) ∧ (restP ⟨g, need, code, outs⟩ kk (now.take i) ≠ [] → M ≤ id2 ∧ H[id2]? = some (rP (restP ⟨g, need, code, outs⟩ kk (now.take i)))))))
    (fun z => ∃ l' H' id2, z = some (.exit 4 (fr 190 l') H') ∧ asc l' 1 = .ptr 2 0 ∧ asc l' 2 = .ptr 3 0 ∧ asc l' 3 = sB need nl3 cap3 ∧ asc l' 4 = .ptr 4 0 ∧ asc l' 7 = ii kk ∧ asc l' 10 = .ptr b10 0 ∧ asc l' 11 = nv id2 (restP ⟨g, need, code, outs⟩ kk now) ∧ (M ≤ H'.length ∧ (∀ j : Nat, j < M → H'[j]? = H0[j]?) ∧ (restP ⟨g, need, code, outs⟩ kk now ≠ [] → M ≤ id2 ∧ H'[id2]? = some (rP (restP ⟨g, need, code, outs⟩ kk now))))) ?_ now.length 0 k l _ (by omega) hk ⟨j0, a1, a2, a3, a4, a5, a7, a10, a11, a12, ⟨by omega, fun _ _ => rfl, fun _ => hH0, fun h => absurd rfl h⟩⟩
  clear hk a1 a2 a3 a4 a5 a7 a10 a11 a12
  rintro i k l H hi ⟨id2, a1, a2, a3, a4, a5, a7, a10, a11, a12, hp⟩
  have ht : trim M (fr 190 (keep l [1, 2, 3, 4, 5, 7, 10, 11, 12])) H = H := by
    by_cases he : restP ⟨g, need, code, outs⟩ kk (now.take i) = []
    · exact trim_same (hp.2.2.1 he)
    · exact trim_nv (i := 11) (id := id2) (by decide) (by exact a11) he (hp.2.2.2 he).1
  by_cases hc : i < now.length
  · have hc' : (i : Int) < ((now.length : Nat) : Int) := by omega
    have hc0 : (0 : Int) ≤ i := by omega
    have hw : IntKind.wrap .i64 ((i : Int) + 1) = ((i + 1 : Nat) : Int) := by rw [wrap64 (by omega) (by omega)]; omega
    obtain ⟨p1, p2, p3, p4⟩ := hp
    have hbx1 := p2 2 (by omega)
    rw [hbx] at hbx1
    obtain ⟨hx, hy⟩ := encPl_get hc
    have hrs := restP_take (S := ⟨g, need, code, outs⟩) (kk := kk) hc
    obtain ⟨x, hX⟩ : ∃ x, x = now[i] := ⟨_, rfl⟩
    rw [← hX] at hx hy hrs
    obtain ⟨x1, x2⟩ := x
    simp only at hx hy hrs
    have hel := encPl_length now
    have htk : (if i * 2 + 2 ≤ (encPl now).length then some (((encPl now).drop (i * 2)).take 2) else none) = some [.int .i64 x1, .int .i64 x2] := by
      rw [if_pos (by omega)]
      congr 1
      apply List.ext_getElem?
      intro j
      rw [List.getElem?_take, List.getElem?_drop]
      rcases j with _ | _ | j
      · simp only [Nat.add_zero, hx]; rfl
      · simp only [Nat.zero_add, hy]; rfl
      · simp; omega
    have hU := Until_ev kf g n need code outs nl cap nl2 cap2 nl3 cap3 x1 hnd hl hl2 ho2 ho hkf
    simp only [run, aP, ii, sC, sI, sB] at hU
    by_cases h : untilR ⟨g, need, code, outs⟩ x1 = kk
    · rw [if_pos h] at hrs
      rw [hrs]
      simp only [loopR_succ, ht]
      simp only [a1, a2, a3, a4, a5, a7, a10, a11, a12, hc', hc0, hw, loopR_succ, loopOf, findLoop, firstRegion, Option.some_or, Option.none_or, Option.getD_some, Option.some.injEq, Try.f51, EVb, EVc, Int.reduceEq, Int.reduceToNat, Int.reduceLE, Int.reduceLT, Int.reduceAdd, Int.reduceMul, Int.reduceSub, Int.reduceNeg, Nat.reduceAdd, Nat.reduceSub, Nat.reduceMul, Nat.reduceLT, Nat.reduceBEq, Nat.reduceEqDiff, Nat.reduceLeDiff, FACTS, TYPES]
      rw [evalCode_drawn Try.f51 25 dr51_25]; rotate_left; rfl
      simp only [a1, a2, a3, a4, a5, a7, a10, a11, a12, hc', hc0, hw, hbx1, hx, hU, h, EVd, Nat.reducePow, Nat.reduceDiv, Nat.reduceMod, EVb, EVc, Int.reduceEq, Int.reduceToNat, Int.reduceLE, Int.reduceLT, Int.reduceAdd, Int.reduceMul, Int.reduceSub, Int.reduceNeg, Nat.reduceAdd, Nat.reduceSub, Nat.reduceMul, Nat.reduceLT, Nat.reduceBEq, Nat.reduceEqDiff, Nat.reduceLeDiff, FACTS, TYPES]
      exact .inr ⟨_, _, hc, rfl, _, (by rfl), (by rfl), (by rfl), (by rfl), (by rfl), (by rfl), (by rfl), (by rfl), (by rfl), p1, p2, p3, p4⟩
    · rw [if_neg h] at hrs
      rw [hrs]
      have hap := app_ev (H := H) (id := id2) (l := restP ⟨g, need, code, outs⟩ kk (now.take i)) (a := x1) (b := x2) (fun hne => (p4 hne).2) (by have := List.length_filter_le (fun p : Int × Int => decide (untilR ⟨g, need, code, outs⟩ p.1 ≠ kk)) (now.take i); rw [List.length_take] at this; unfold restP; omega)
      simp only [loopR_succ, ht]
      simp only [a1, a2, a3, a4, a5, a7, a10, a11, a12, hc', hc0, hw, loopR_succ, loopOf, findLoop, firstRegion, Option.some_or, Option.none_or, Option.getD_some, Option.some.injEq, Try.f51, EVb, EVc, Int.reduceEq, Int.reduceToNat, Int.reduceLE, Int.reduceLT, Int.reduceAdd, Int.reduceMul, Int.reduceSub, Int.reduceNeg, Nat.reduceAdd, Nat.reduceSub, Nat.reduceMul, Nat.reduceLT, Nat.reduceBEq, Nat.reduceEqDiff, Nat.reduceLeDiff, FACTS, TYPES]
      rw [evalCode_drawn Try.f51 25 dr51_25]; rotate_left; rfl
      simp only [a1, a2, a3, a4, a5, a7, a10, a11, a12, hc', hc0, hw, hbx1, hx, hU, h, EVd, Nat.reducePow, Nat.reduceDiv, Nat.reduceMod, EVb, EVc, Int.reduceEq, Int.reduceToNat, Int.reduceLE, Int.reduceLT, Int.reduceAdd, Int.reduceMul, Int.reduceSub, Int.reduceNeg, Nat.reduceAdd, Nat.reduceSub, Nat.reduceMul, Nat.reduceLT, Nat.reduceBEq, Nat.reduceEqDiff, Nat.reduceLeDiff, FACTS, TYPES]
      try simp only [a1, a2, a3, a4, a5, a7, a10, a11, a12, hc', hc0, hw, htk, hap, gNew, EVb, EVc, Int.reduceEq, Int.reduceToNat, Int.reduceLE, Int.reduceLT, Int.reduceAdd, Int.reduceMul, Int.reduceSub, Int.reduceNeg, Nat.reduceAdd, Nat.reduceSub, Nat.reduceMul, Nat.reduceLT, Nat.reduceBEq, Nat.reduceEqDiff, Nat.reduceLeDiff, FACTS, TYPES]
      refine .inr ⟨_, _, hc, rfl, _, (by rfl), (by rfl), (by rfl), (by rfl), (by rfl), (by rfl), (by rfl), (by rfl), (by rfl), Nat.le_trans p1 (appH_length _ _ _ _ _), fun j hj => ?_, fun hh => absurd hh (by simp), fun _ => ⟨?_, appH_new fun hne => (List.getElem?_eq_some_iff.1 (p4 hne).2).1⟩⟩
      · rw [appH_old (by omega) (fun hne e => by have := (p4 hne).1; omega)]
        exact p2 j hj
      · unfold appId
        split
        · omega
        · rename_i hne; exact (p4 hne).1
  · refine .inl ?_
    obtain rfl : i = now.length := by omega
    have hc' : ¬ (((now.length : Nat) : Int) < ((now.length : Nat) : Int)) := by omega
    obtain ⟨p1, p2, p3, p4⟩ := hp
    rw [List.take_length] at a11 p4
    simp only [loopR_succ, ht]
    simp only [a1, a2, a3, a4, a5, a7, a10, a11, a12, lnvP, hc', loopR_succ, loopOf, findLoop, firstRegion, Option.some_or, Option.none_or, Option.getD_some, Option.some.injEq, Try.f51, EVb, EVc, Int.reduceEq, Int.reduceToNat, Int.reduceLE, Int.reduceLT, Int.reduceAdd, Int.reduceMul, Int.reduceSub, Int.reduceNeg, Nat.reduceAdd, Nat.reduceSub, Nat.reduceMul, Nat.reduceLT, Nat.reduceBEq, Nat.reduceEqDiff, Nat.reduceLeDiff, FACTS, TYPES]
    exact ⟨_, _, _, rfl, (by rfl), (by rfl), (by rfl), (by rfl), (by rfl), (by rfl), (by rfl), p1, p2, p4⟩

end Go.Proofs.Sw
namespace Go.Proofs.Sw
set_option linter.unusedVariables false
set_option linter.unusedSimpArgs false
set_option linter.unusedSectionVars false
open Go.Ab
variable [Globals]
def takenB (r : Int) (l : List (Int × Int)) : Bool := l.any fun p => decide (p.2 = r)
theorem takenB_take {l : List (Int × Int)} {i : Nat} {r : Int} (h : i < l.length) : takenB r (l.take (i + 1)) = if l[i].2 = r then true else takenB r (l.take i) := by
  unfold takenB
  rw [List.take_succ_eq_append_getElem h, List.any_append, List.any_cons, List.any_nil, Bool.or_false]
  by_cases e : l[i].2 = r
  · rw [if_pos e, decide_eq_true e, Bool.or_true]
  · rw [if_neg e, decide_eq_false e, Bool.or_false]
theorem takenB_mem {l : List (Int × Int)} {r : Int} : takenB r l = true ↔ r ∈ l.map (·.2) := by
  unfold takenB
  rw [List.any_eq_true, List.mem_map]
  constructor
  · rintro ⟨p, h1, h2⟩; exact ⟨p, h1, by simpa using h2⟩
  · rintro ⟨p, h1, h2⟩; exact ⟨p, h1, by simpa using h2⟩
theorem loop_rPack33 (kf : Nat) (H0 : Heap) (M : Nat) (hM : H0.length = M) (id b10 : Nat) (kk : Nat) (r : Int) (v3 : AV) (ps : List (Int × Int)) (hps : ps ≠ [] → H0[id]? = some (rP ps)) (hnl : ps.length ≤ 100000) (k : Nat) (l : Ass) (z : Option Out) (hz : loopR Try.prog tab kf none LB51_33 51 190 [1, 2, 3, 4, 5, 7, 10, 13, 14, 15] M k l H0 = z) (hk : ps.length < k) (a1 : asc l 1 = .ptr 2 0) (a2 : asc l 2 = .ptr 3 0) (a3 : asc l 3 = v3) (a4 : asc l 4 = .ptr 4 0) (a5 : asc l 5 = nv id ps) (a7 : asc l 7 = ii kk) (a10 : asc l 10 = .ptr b10 0) (a13 : asc l 13 = ii r) (a14 : asc l 14 = bb (takenB r (ps.take 0))) (a15 : asc l 15 = ii 0) :
    ∃ l', z = some (.exit 8 (fr 190 l') H0) ∧ asc l' 1 = .ptr 2 0 ∧ asc l' 2 = .ptr 3 0 ∧ asc l' 3 = v3 ∧ asc l' 4 = .ptr 4 0 ∧ asc l' 5 = nv id ps ∧ asc l' 7 = ii kk ∧ asc l' 10 = .ptr b10 0 ∧ asc l' 13 = ii r ∧ asc l' 14 = bb (takenB r ps) := by
  subst hz
  refine loop_nat ps.length (fun k l H => loopR Try.prog tab kf none LB51_33 51 190 [1, 2, 3, 4, 5, 7, 10, 13, 14, 15] M k l H)
    (fun i l H => asc l 1 = .ptr 2 0 ∧ asc l 2 = .ptr 3 0 ∧ asc l 3 = v3 ∧ asc l 4 = .ptr 4 0 ∧ asc l 5 = nv id ps ∧ asc l 7 = ii kk ∧ asc l 10 = .ptr b10 0 ∧ asc l 13 = ii r ∧ asc l 14 = bb (takenB r (ps.take i)) ∧ asc l 15 = ii i ∧ ((H = H0)))
    (fun z => ∃ l', z = some (.exit 8 (fr 190 l') H0) ∧ asc l' 1 = .ptr 2 0 ∧ asc l' 2 = .ptr 3 0 ∧ asc l' 3 = v3 ∧ asc l' 4 = .ptr 4 0 ∧ asc l' 5 = nv id ps ∧ asc l' 7 = ii kk ∧ asc l' 10 = .ptr b10 0 ∧ asc l' 13 = ii r ∧ asc l' 14 = bb (takenB r ps)) ?_ ps.length 0 k l _ (by omega) hk ⟨a1, a2, a3, a4, a5, a7, a10, a13, a14, a15, rfl⟩
  clear hk a1 a2 a3 a4 a5 a7 a10 a13 a14 a15
  rintro i k l H hi ⟨a1, a2, a3, a4, a5, a7, a10, a13, a14, a15, hp⟩
  have ht : trim M (fr 190 (keep l [1, 2, 3, 4, 5, 7, 10, 13, 14, 15])) H = H := by
    rw [hp]
    exact trim_same hM
  by_cases hc : i < ps.length
  · have hc' : (i : Int) < ((ps.length : Nat) : Int) := by omega
    have hc0 : (0 : Int) ≤ i := by omega
    have hw : IntKind.wrap .i64 ((i : Int) + 1) = ((i + 1 : Nat) : Int) := by rw [wrap64 (by omega) (by omega)]; omega
    have hne : ps ≠ [] := fun e => by rw [e] at hc; simp at hc
    have hrow := rowOfP (hps hne)
    rw [← hp] at hrow
    obtain ⟨hx, hy⟩ := encPl_get hc
    have hrs := takenB_take (r := r) hc
    obtain ⟨x, hX⟩ : ∃ x, x = ps[i] := ⟨_, rfl⟩
    rw [← hX] at hx hy hrs
    rw [nv_ne hne] at a5
    by_cases h : x.2 = r
    · rw [if_pos h] at hrs
      rw [hrs]
      simp only [loopR_succ, ht]
      simp only [a1, a2, a3, a4, a5, a7, a10, a13, a14, a15, hc', hc0, hw, lnh131, hrow, hy, h, loopR_succ, loopOf, findLoop, firstRegion, Option.some_or, Option.none_or, Option.getD_some, Option.some.injEq, Try.f51, EVb, EVc, Int.reduceEq, Int.reduceToNat, Int.reduceLE, Int.reduceLT, Int.reduceAdd, Int.reduceMul, Int.reduceSub, Int.reduceNeg, Nat.reduceAdd, Nat.reduceSub, Nat.reduceMul, Nat.reduceLT, Nat.reduceBEq, Nat.reduceEqDiff, Nat.reduceLeDiff, FACTS, TYPES]
      exact .inr ⟨_, _, hc, rfl, (by rfl), (by rfl), (by rfl), (by rfl), (by rw [nv_ne hne]; rfl), (by rfl), (by rfl), (by rfl), (by rfl), (by rfl), hp⟩
    · rw [if_neg h] at hrs
      rw [hrs]
      simp only [loopR_succ, ht]
      simp only [a1, a2, a3, a4, a5, a7, a10, a13, a14, a15, hc', hc0, hw, lnh131, hrow, hy, h, loopR_succ, loopOf, findLoop, firstRegion, Option.some_or, Option.none_or, Option.getD_some, Option.some.injEq, Try.f51, EVb, EVc, Int.reduceEq, Int.reduceToNat, Int.reduceLE, Int.reduceLT, Int.reduceAdd, Int.reduceMul, Int.reduceSub, Int.reduceNeg, Nat.reduceAdd, Nat.reduceSub, Nat.reduceMul, Nat.reduceLT, Nat.reduceBEq, Nat.reduceEqDiff, Nat.reduceLeDiff, FACTS, TYPES]
      exact .inr ⟨_, _, hc, rfl, (by rfl), (by rfl), (by rfl), (by rfl), (by rw [nv_ne hne]; rfl), (by rfl), (by rfl), (by rfl), (by rfl), (by rfl), hp⟩
  · refine .inl ?_
    obtain rfl : i = ps.length := by omega
    have hc' : ¬ (((ps.length : Nat) : Int) < ((ps.length : Nat) : Int)) := by omega
    rw [List.take_length] at a14
    simp only [loopR_succ, ht]
    simp only [a1, a2, a3, a4, a5, a7, a10, a13, a14, a15, lnvP, hc', loopR_succ, loopOf, findLoop, firstRegion, Option.some_or, Option.none_or, Option.getD_some, Option.some.injEq, Try.f51, EVb, EVc, Int.reduceEq, Int.reduceToNat, Int.reduceLE, Int.reduceLT, Int.reduceAdd, Int.reduceMul, Int.reduceSub, Int.reduceNeg, Nat.reduceAdd, Nat.reduceSub, Nat.reduceMul, Nat.reduceLT, Nat.reduceBEq, Nat.reduceEqDiff, Nat.reduceLeDiff, FACTS, TYPES]
    rw [hp]
    exact ⟨_, rfl, (by rfl), (by rfl), (by rfl), (by rfl), (by rfl), (by rfl), (by rfl), (by rfl), (by rfl)⟩

theorem loop_rPack30 (kf : Nat) (H0 : Heap) (M : Nat) (hM : H0.length = M) (id b10 : Nat) (kk : Nat) (v3 : AV) (ps : List (Int × Int)) (hps : ps ≠ [] → H0[id]? = some (rP ps)) (hnl : ps.length ≤ 100000) (hkf : ps.length < kf) (mx : Nat) (hmx : mx = mex (ps.map (·.2))) (hml : mx ≤ 100000) (k : Nat) (l : Ass) (z : Option Out) (hz : loopR Try.prog tab kf none LB51_30 51 190 [1, 2, 3, 4, 5, 7, 10, 13, 14] M k l H0 = z) (hk : mx + 1 < k) (a1 : asc l 1 = .ptr 2 0) (a2 : asc l 2 = .ptr 3 0) (a3 : asc l 3 = v3) (a4 : asc l 4 = .ptr 4 0) (a5 : asc l 5 = nv id ps) (a7 : asc l 7 = ii kk) (a10 : asc l 10 = .ptr b10 0) (a13 : asc l 13 = ii ((min 0 mx : Nat) : Int)) (a14 : asc l 14 = bb (decide (0 ≤ mx))) :
    ∃ l', z = some (.exit 6 (fr 190 l') H0) ∧ asc l' 1 = .ptr 2 0 ∧ asc l' 2 = .ptr 3 0 ∧ asc l' 3 = v3 ∧ asc l' 4 = .ptr 4 0 ∧ asc l' 5 = nv id ps ∧ asc l' 7 = ii kk ∧ asc l' 10 = .ptr b10 0 ∧ asc l' 13 = ii mx := by
  subst hz
  refine loop_nat (mx + 1) (fun k l H => loopR Try.prog tab kf none LB51_30 51 190 [1, 2, 3, 4, 5, 7, 10, 13, 14] M k l H)
    (fun i l H => asc l 1 = .ptr 2 0 ∧ asc l 2 = .ptr 3 0 ∧ asc l 3 = v3 ∧ asc l 4 = .ptr 4 0 ∧ asc l 5 = nv id ps ∧ asc l 7 = ii kk ∧ asc l 10 = .ptr b10 0 ∧ asc l 13 = ii ((min i mx : Nat) : Int) ∧ asc l 14 = bb (decide (i ≤ mx)) ∧ ((H = H0)))
    (fun z => ∃ l', z = some (.exit 6 (fr 190 l') H0) ∧ asc l' 1 = .ptr 2 0 ∧ asc l' 2 = .ptr 3 0 ∧ asc l' 3 = v3 ∧ asc l' 4 = .ptr 4 0 ∧ asc l' 5 = nv id ps ∧ asc l' 7 = ii kk ∧ asc l' 10 = .ptr b10 0 ∧ asc l' 13 = ii mx) ?_ (mx + 1) 0 k l _ (by omega) hk ⟨a1, a2, a3, a4, a5, a7, a10, a13, a14, rfl⟩
  clear hk a1 a2 a3 a4 a5 a7 a10 a13 a14
  rintro i k l H hi ⟨a1, a2, a3, a4, a5, a7, a10, a13, a14, hp⟩
  have ht : trim M (fr 190 (keep l [1, 2, 3, 4, 5, 7, 10, 13, 14])) H = H := by
    rw [hp]
    exact trim_same hM
  by_cases hc : i < (mx + 1)
  · have hc' : (i : Int) < ((mx + 1 : Nat) : Int) := by omega
    have hc0 : (0 : Int) ≤ i := by omega
    have hw : IntKind.wrap .i64 ((i : Int) + 1) = ((i + 1 : Nat) : Int) := by rw [wrap64 (by omega) (by omega)]; omega
    have e1 : min i mx = i := by omega
    have e2 : decide (i ≤ mx) = true := decide_eq_true (by omega)
    rw [e1] at a13
    rw [e2] at a14
    have hH : H = H0 := hp
    simp only [loopR_succ, ht]
    rw [hH]
    simp only [a1, a2, a3, a4, a5, a7, a10, a13, a14, loopR_succ, loopOf, findLoop, firstRegion, Option.some_or, Option.none_or, Option.getD_some, Option.some.injEq, Try.f51, EVb, EVc, Int.reduceEq, Int.reduceToNat, Int.reduceLE, Int.reduceLT, Int.reduceAdd, Int.reduceMul, Int.reduceSub, Int.reduceNeg, Nat.reduceAdd, Nat.reduceSub, Nat.reduceMul, Nat.reduceLT, Nat.reduceBEq, Nat.reduceEqDiff, Nat.reduceLeDiff, FACTS, TYPES]
    rw [evalCode_loopB LB51_33 lp51_33]; rotate_left; rfl; rfl; rfl
    generalize hz : loopR _ _ _ _ _ _ _ _ _ _ _ _ = z
    obtain ⟨l2, rfl, b1, b2, b3, b4, b5, b7, b10, b13, b14⟩ := loop_rPack33 kf H0 _ rfl id _ kk i v3 ps hps hnl _ _ z hz hkf (by rfl) (by rfl) (by rfl) (by rfl) (by rfl) (by rfl) (by rfl) (by rfl) (by rfl) (by rfl)
    clear hz
    by_cases h : i < mx
    · have hT : takenB (i : Int) ps = true := takenB_mem.2 (mex_all _ (by omega))
      have e3 : min (i + 1) mx = i + 1 := by omega
      have e4 : decide (i + 1 ≤ mx) = true := decide_eq_true (by omega)
      rw [hT] at b14
      rw [e3, e4]
      simp only [b1, b2, b3, b4, b5, b7, b10, b13, b14, hw, EVb, EVc, Int.reduceEq, Int.reduceToNat, Int.reduceLE, Int.reduceLT, Int.reduceAdd, Int.reduceMul, Int.reduceSub, Int.reduceNeg, Nat.reduceAdd, Nat.reduceSub, Nat.reduceMul, Nat.reduceLT, Nat.reduceBEq, Nat.reduceEqDiff, Nat.reduceLeDiff, FACTS, TYPES]
      exact .inr ⟨_, _, hc, rfl, (by exact b1), (by exact b2), (by exact b3), (by exact b4), (by exact b5), (by exact b7), (by exact b10), (by rfl), (by exact b14), rfl⟩
    · have hiM : i = mx := by omega
      have hT : takenB (i : Int) ps = false := by
        rw [Bool.eq_false_iff, ne_eq, takenB_mem, hiM, hmx]
        exact mex_not _
      have e3 : min (i + 1) mx = i := by omega
      have e4 : decide (i + 1 ≤ mx) = false := decide_eq_false (by omega)
      rw [hT] at b14
      rw [e3, e4]
      simp only [b1, b2, b3, b4, b5, b7, b10, b13, b14, hw, EVb, EVc, Int.reduceEq, Int.reduceToNat, Int.reduceLE, Int.reduceLT, Int.reduceAdd, Int.reduceMul, Int.reduceSub, Int.reduceNeg, Nat.reduceAdd, Nat.reduceSub, Nat.reduceMul, Nat.reduceLT, Nat.reduceBEq, Nat.reduceEqDiff, Nat.reduceLeDiff, FACTS, TYPES]
      exact .inr ⟨_, _, hc, rfl, (by exact b1), (by exact b2), (by exact b3), (by exact b4), (by exact b5), (by exact b7), (by exact b10), (by exact b13), (by exact b14), rfl⟩
  · refine .inl ?_
    obtain rfl : i = (mx + 1) := by omega
    have hc' : ¬ ((((mx + 1) : Nat) : Int) < (((mx + 1) : Nat) : Int)) := by omega
    have e1 : min (mx + 1) mx = mx := by omega
    have e2 : decide (mx + 1 ≤ mx) = false := decide_eq_false (by omega)
    rw [e1] at a13
    rw [e2] at a14
    simp only [loopR_succ, ht]
    simp only [a1, a2, a3, a4, a5, a7, a10, a13, a14, loopR_succ, loopOf, findLoop, firstRegion, Option.some_or, Option.none_or, Option.getD_some, Option.some.injEq, Try.f51, EVb, EVc, Int.reduceEq, Int.reduceToNat, Int.reduceLE, Int.reduceLT, Int.reduceAdd, Int.reduceMul, Int.reduceSub, Int.reduceNeg, Nat.reduceAdd, Nat.reduceSub, Nat.reduceMul, Nat.reduceLT, Nat.reduceBEq, Nat.reduceEqDiff, Nat.reduceLeDiff, FACTS, TYPES]
    rw [hp]
    exact ⟨_, rfl, (by rfl), (by rfl), (by rfl), (by rfl), (by rfl), (by rfl), (by rfl), (by rfl)⟩

end Go.Proofs.Sw
namespace Go.Proofs.Sw
set_option linter.unusedVariables false
set_option linter.unusedSimpArgs false
set_option linter.unusedSectionVars false
open Go.Ab
variable [Globals]
def nowL (S : Sv) (i : Nat) : List (Int × Int) := (aliveR S i).map fun w => (w, gP S i w)
theorem whereM_map {f : Int → Int} {w : Int} : ∀ {l : List Int}, w ∈ l → whereM w (l.map fun w => (w, f w)) = f w
  | [], h => by cases h
  | x :: l, h => by
    rw [List.map_cons, whereM]
    by_cases e : x = w
    · rw [if_pos e, e]
    · rw [if_neg e]
      exact whereM_map ((List.mem_cons.1 h).resolve_left fun e' => e e'.symm)
theorem where_now {S : Sv} {i : Nat} {w : Int} (h : w ∈ aliveR S i) : whereM w (nowL S i) = gP S i w := whereM_map h
theorem rest_now (S : Sv) (i : Nat) : restP S i (nowL S i) = (restR S i).map fun w => (w, gP S i w) := by
  unfold restP nowL restR
  rw [List.filter_map]; rfl
theorem rest_snd (S : Sv) (i : Nat) : (restP S i (nowL S i)).map (·.2) = (restR S i).map (gP S i) := by
  rw [rest_now, List.map_map]; rfl
theorem nowL_no {S : Sv} {i : Nat} (hi : i < S.code.length) (hn : nd S.need i = false) : nowL S (i + 1) = nowL S i := by
  unfold nowL
  rw [alive_succ_no hi hn]
  apply List.map_congr_left
  intro w hw
  rw [gP_old (by have := vals_lt (alive_vals hw); omega)]
theorem nowL_need {S : Sv} (h : SvOk S) {i : Nat} (hi : i < S.code.length) (hn : nd S.need i = true) : nowL S (i + 1) = restP S i (nowL S i) ++ [((i : Int), gP S (i + 1) i)] := by
  unfold nowL
  rw [alive_succ hn (h.use i hi hn), List.map_append, List.map_cons, List.map_nil]
  congr 1
  show _ = restP S i (nowL S i)
  rw [rest_now]
  apply List.map_congr_left
  intro w hw
  rw [gP_old (by have := vals_lt (alive_vals (rest_alive hw)); omega)]
theorem nowL_len {S : Sv} (h : SvOk S) {n : Nat} (hi : SvIn S n) (i : Nat) : (nowL S i).length ≤ n := by
  unfold nowL
  rw [List.length_map]
  exact alive_le h hi i
abbrev cdL (S : Sv) (i : Nat) : AObj := lo 34 (gC S i).length (encCode (gC S i))
abbrev boxP (ins n : Int) (code : List Ins) (outs : List Int) (nl : Bool) (cap : Option Nat) (nl2 : Bool) (cap2 : Option Nat) : AObj := .cells 25 [ii ins, ii n, sC code nl cap, sI outs nl2 cap2]
abbrev outO (S : Sv) (i : Nat) : AObj := .cells 25 [ii S.ins, ii (gR S i), lv 0 5 (gC S i).length, .c (.slice [] 0 true (some 0))]
/-- The same, changing no more. -/
def sPn : List (Int × Int) → AV
  | [] => .c (.slice [] 0 true (some 0))
  | p :: l => sP (p :: l) false none
theorem sPn_ne {l : List (Int × Int)} (h : l ≠ []) : sPn l = sP l false none := by
  cases l with
  | nil => exact absurd rfl h
  | cons p l => rfl
/-- A list of places, somewhere in memory or changing no more. -/
def NowAt (H : Heap) (v : AV) (l : List (Int × Int)) : Prop := (∃ id, v = nv id l ∧ (l ≠ [] → 5 ≤ id ∧ H[id]? = some (rP l))) ∨ v = sPn l
theorem NowAt.fzd {H : Heap} {v : AV} {l : List (Int × Int)} (h : NowAt H v l) : ∃ H1, frzR H v = some (sPn l, H1) ∧ H1.length = H.length ∧ ∀ j, j < 5 → H1[j]? = H[j]? := by
  rcases h with ⟨id, rfl, h⟩ | rfl
  · cases l with
    | nil => exact ⟨H, rfl, rfl, fun _ _ => rfl⟩
    | cons p l =>
      obtain ⟨h1, h2⟩ := h (by simp)
      refine ⟨H.set id (.row true 134 (encPl (p :: l))), ?_, by simp, fun j hj => by rw [List.getElem?_set_ne (by omega)]⟩
      show (frz H (.hsl id 0 (p :: l).length ((p :: l).length * 2) 2)).map _ = _
      rw [frz_hsl, rowOfP h2]
      simp only [Option.bind_some, Nat.zero_add, Nat.le_refl, if_true, List.drop_zero, Option.map_some]
      rw [List.take_of_length_le (by rw [encPl_length]; exact Nat.le_refl _)]
      rfl
  · cases l with
    | nil => exact ⟨H, rfl, rfl, fun _ _ => rfl⟩
    | cons p l => exact ⟨H, rfl, rfl, fun _ _ => rfl⟩
theorem lnPn (l : List (Int × Int)) : lenA Try.prog 131 (sPn l) = some (.c (.int .i64 l.length)) := by
  cases l with
  | nil => exact ln131 [] 0 true (some 0)
  | cons p l => exact ln131 _ _ _ _
set_option maxHeartbeats 8000000 in
theorem loop_rPack13 (kf : Nat) (g nn : Nat) (n : Int) (need : List Bool) (code : List Ins) (outs : List Int) (nl : Bool) (cap : Option Nat) (nl2 : Bool) (cap2 : Option Nat) (nl3 : Bool) (cap3 : Option Nat) (H0 : Heap) (M : Nat) (hM5 : 5 ≤ M) (r3 : AObj) (v0 : AV) (hv0 : NowAt H0 v0 (nowL ⟨g, need, code, outs⟩ 0)) (hH0 : M ≤ H0.length ∧ (H0[0]? = some (cdL ⟨g, need, code, outs⟩ 0) ∧ H0[1]? = some .slot ∧ H0[2]? = some (boxP g n code outs nl cap nl2 cap2) ∧ H0[3]? = some r3 ∧ H0[4]? = some (outO ⟨g, need, code, outs⟩ 0))) (hg : g ≤ 900) (hok : SvOk ⟨g, need, code, outs⟩) (hin : SvIn ⟨g, need, code, outs⟩ nn) (hop : SvOp ⟨g, need, code, outs⟩) (hb0 : ∀ j : Nat, j < code.length → need.getD j false = true → ¬ ((nth code j).op = 3 ∨ (nth code j).op = 4) → (nth code j).b = 0) (hnn : nn ≤ 1000) (hnd : need.length = code.length) (hl : code.length ≤ 20000) (hl2 : outs.length ≤ 20000) (ho2 : ∀ r ∈ outs, 0 ≤ r ∧ r ≤ 1000000) (ho : ∀ j : Nat, j < code.length → need.getD j false = true → ∀ r ∈ asks (nth code j), 0 ≤ r ∧ r ≤ 1000000) (hkf : code.length + outs.length + 3000 ≤ kf) (k : Nat) (l : Ass) (z : Option Out) (hz : loopZ Try.prog tab (kf + 1) none LB51_13 51 190 [1, 2, 3, 4, 5, 7] [5] M k l H0 = z) (hk : code.length < k) (a1 : asc l 1 = .ptr 2 0) (a2 : asc l 2 = .ptr 3 0) (a3 : asc l 3 = sB need nl3 cap3) (a4 : asc l 4 = .ptr 4 0) (a5 : asc l 5 = v0) (a7 : asc l 7 = ii 0) :
    ∃ l' H', z = some (.exit 2 (fr 190 l') H') ∧ asc l' 1 = .ptr 2 0 ∧ asc l' 2 = .ptr 3 0 ∧ asc l' 3 = sB need nl3 cap3 ∧ asc l' 4 = .ptr 4 0 ∧ asc l' 5 = sPn (nowL ⟨g, need, code, outs⟩ code.length) ∧ (M ≤ H'.length ∧ (H'[0]? = some (cdL ⟨g, need, code, outs⟩ code.length) ∧ H'[1]? = some .slot ∧ H'[2]? = some (boxP g n code outs nl cap nl2 cap2) ∧ H'[3]? = some r3 ∧ H'[4]? = some (outO ⟨g, need, code, outs⟩ code.length))) := by
  subst hz
  refine loop_nat code.length (fun k l H => loopZ Try.prog tab (kf + 1) none LB51_13 51 190 [1, 2, 3, 4, 5, 7] [5] M k l H)
    (fun i l H => ∃ (v : AV), asc l 1 = .ptr 2 0 ∧ asc l 2 = .ptr 3 0 ∧ asc l 3 = sB need nl3 cap3 ∧ asc l 4 = .ptr 4 0 ∧ asc l 5 = v ∧ asc l 7 = ii i ∧ ((NowAt H v (nowL ⟨g, need, code, outs⟩ i) ∧ M ≤ H.length ∧ (H[0]? = some (cdL ⟨g, need, code, outs⟩ i) ∧ H[1]? = some .slot ∧ H[2]? = some (boxP g n code outs nl cap nl2 cap2) ∧ H[3]? = some r3 ∧ H[4]? = some (outO ⟨g, need, code, outs⟩ i)))))
    (fun z => ∃ l' H', z = some (.exit 2 (fr 190 l') H') ∧ asc l' 1 = .ptr 2 0 ∧ asc l' 2 = .ptr 3 0 ∧ asc l' 3 = sB need nl3 cap3 ∧ asc l' 4 = .ptr 4 0 ∧ asc l' 5 = sPn (nowL ⟨g, need, code, outs⟩ code.length) ∧ (M ≤ H'.length ∧ (H'[0]? = some (cdL ⟨g, need, code, outs⟩ code.length) ∧ H'[1]? = some .slot ∧ H'[2]? = some (boxP g n code outs nl cap nl2 cap2) ∧ H'[3]? = some r3 ∧ H'[4]? = some (outO ⟨g, need, code, outs⟩ code.length)))) ?_ code.length 0 k l _ (by omega) hk ⟨v0, a1, a2, a3, a4, a5, a7, ⟨hv0, hH0⟩⟩
  clear hk a1 a2 a3 a4 a5 a7
  rintro i k l H hi ⟨v, a1, a2, a3, a4, a5, a7, hp⟩
  obtain ⟨hnw, p1, q0, q1, q2, q3, q4⟩ := hp
  obtain ⟨H1, hfz, hl1, hold1⟩ := hnw.fzd
  rw [← a5] at hfz
  have hfz : frzR H (asc (keep l [1, 2, 3, 4, 5, 7]) 5) = some (sPn (nowL ⟨g, need, code, outs⟩ i), H1) := hfz
  clear a5
  have a5 : sPn (nowL ⟨g, need, code, outs⟩ i) = sPn (nowL ⟨g, need, code, outs⟩ i) := rfl
  obtain ⟨H', ht, hle', hold⟩ := trim_old (L := M) (F := fr 190 ((5, sPn (nowL ⟨g, need, code, outs⟩ i)) :: keep l [1, 2, 3, 4, 5, 7])) (H := H1) (by omega)
  rw [← hold1 0 (by omega), ← hold 0 (by omega)] at q0
  rw [← hold1 1 (by omega), ← hold 1 (by omega)] at q1
  rw [← hold1 2 (by omega), ← hold 2 (by omega)] at q2
  rw [← hold1 3 (by omega), ← hold 3 (by omega)] at q3
  rw [← hold1 4 (by omega), ← hold 4 (by omega)] at q4
  clear hold hold1 hnw
  by_cases hc : i < code.length
  · have hc' : (i : Int) < ((code.length : Nat) : Int) := by omega
    have hc0 : (0 : Int) ≤ i := by omega
    have hw : IntKind.wrap .i64 ((i : Int) + 1) = ((i + 1 : Nat) : Int) := by rw [wrap64 (by omega) (by omega)]; omega
    obtain ⟨S, hS⟩ : ∃ S : Sv, S = ⟨g, need, code, outs⟩ := ⟨_, rfl⟩
    have hSc : S.code = code := by rw [hS]
    have hSi : S.ins = g := by rw [hS]
    rw [← hS] at q0 q4 hok hin hop hfz ht ⊢
    have hx := encCode_get hc
    rw [← nth_get hc] at hx
    have hnb := encB_nat (l := need) (i := i) (by omega)
    have hnl : (encB need).length = code.length := by rw [encB_length, hnd]
    by_cases hni : need.getD i false = true
    · have hni2 : nd S.need i = true := by rw [hS]; exact hni
      rw [hni] at hnb
      have hbi := hb0 i hc hni
      have hopi := hop.ops i (by rw [hSc]; exact hc) hni2
      rw [hSc] at hopi
      have hva := asked_alive hin (by rw [hSc]; exact hc) hni2 (r := (nth code i).a) (by rw [hSc]; exact ask_a hopi)
      have hva0 := hin.asks i (by rw [hSc]; exact hc) hni2 (nth code i).a (by rw [hSc]; exact ask_a hopi)
      have hne : nowL S i ≠ [] := fun e => by
        have h1 : aliveR S i = [] := List.map_eq_nil_iff.1 e
        rw [h1] at hva; cases hva
      have hlen := nowL_len hok hin i
      obtain ⟨x, hX⟩ : ∃ x, x = nth code i := ⟨_, rfl⟩
      rw [← hX] at hx hbi hopi hva hva0
      have hA := rAsks_ev kf x.op x.to x.a x.b x.c
      simp only [run, aI, ii] at hA
      have hHa := Held_ev kf g n need code outs nl cap nl2 cap2 nl3 cap3 i x.a (by omega) hnd (by omega) hva0.1 (by omega) (by omega)
      simp only [run, aP, ii, sC, sI, sB] at hHa
      have hWa := where_ev kf (nowL S i) (heldR ⟨g, need, code, outs⟩ i x.a) false none (by omega) (by omega)
      rw [← hS] at hWa hHa
      rw [where_now hva] at hWa
      simp only [run, ii] at hWa
      rw [sPn_ne hne] at hfz ht
      have q2' := fun a => gOld q2 a
      have q2'' := fun a b => gOld (gOld q2 a) b
      have gN1 := fun (a b : AObj) => gOld (gNew (H := H') a) b
      rw [loopZ_one (t := 5) (by decide) hfz, ht]
      simp only [a1, a2, a3, a4, a5, a7, hc', hc0, hw, hnb, hnl, hnd, q2, hx, gNew, gSet, hA, loopR_succ, loopOf, findLoop, firstRegion, Option.some_or, Option.none_or, Option.getD_some, Option.some.injEq, Try.f51, EVb, EVc, Int.reduceEq, Int.reduceToNat, Int.reduceLE, Int.reduceLT, Int.reduceAdd, Int.reduceMul, Int.reduceSub, Int.reduceNeg, Nat.reduceAdd, Nat.reduceSub, Nat.reduceMul, Nat.reduceLT, Nat.reduceBEq, Nat.reduceEqDiff, Nat.reduceLeDiff, FACTS, TYPES]
      rw [evalCode_drawn Try.f51 18 dr51_18]; rotate_left; rfl
      simp only [a1, a2, a3, a4, a5, a7, hc', hc0, hw, q2, q2', q2'', hHa, hWa, gNew, gSet, gN1, EVd, Nat.reducePow, Nat.reduceDiv, Nat.reduceMod, EVb, EVc, Int.reduceEq, Int.reduceToNat, Int.reduceLE, Int.reduceLT, Int.reduceAdd, Int.reduceMul, Int.reduceSub, Int.reduceNeg, Nat.reduceAdd, Nat.reduceSub, Nat.reduceMul, Nat.reduceLT, Nat.reduceBEq, Nat.reduceEqDiff, Nat.reduceLeDiff, FACTS, TYPES]
      by_cases h34 : x.op = 3 ∨ x.op = 4
      · have hlen2 : (asks ⟨x.op, x.to, x.a, x.b, x.c⟩).length = 2 := by rw [asks_two h34]; rfl
        have h12 : (1 : Int) < ((2 : Nat) : Int) := by decide
        have hvb := asked_alive hin (by rw [hSc]; exact hc) hni2 (r := x.b) (by rw [hSc, ← hX]; exact ask_b h34)
        have hvb0 := hin.asks i (by rw [hSc]; exact hc) hni2 x.b (by rw [hSc, ← hX]; exact ask_b h34)
        have hHb := Held_ev kf g n need code outs nl cap nl2 cap2 nl3 cap3 i x.b (by omega) hnd (by omega) hvb0.1 (by omega) (by omega)
        simp only [run, aP, ii, sC, sI, sB] at hHb
        have hWb := where_ev kf (nowL S i) (heldR ⟨g, need, code, outs⟩ i x.b) false none (by omega) (by omega)
        rw [← hS] at hWb hHb
        rw [where_now hvb] at hWb
        simp only [run, ii] at hWb
        try simp only [a1, a2, a3, a4, a5, a7, hc', hc0, hw, hlen2, h12, q2'', gN1, hHb, hWb, gNew, gSet, EVb, EVc, Int.reduceEq, Int.reduceToNat, Int.reduceLE, Int.reduceLT, Int.reduceAdd, Int.reduceMul, Int.reduceSub, Int.reduceNeg, Nat.reduceAdd, Nat.reduceSub, Nat.reduceMul, Nat.reduceLT, Nat.reduceBEq, Nat.reduceEqDiff, Nat.reduceLeDiff, FACTS, TYPES]
        rw [evalCode_loopB LB51_23 lp51_23]; rotate_left; rfl; rfl; rfl
        generalize hz : loopR _ _ _ _ _ _ _ _ _ _ _ _ = z
        obtain ⟨B, hB⟩ : ∃ B, B = (H' ++ [AObj.cells 34 [ii x.op, ii x.to, ii x.a, ii x.b, ii x.c]]).length := ⟨_, rfl⟩
        have hBl : B = H'.length + 1 := by rw [hB]; simp
        obtain ⟨H2, hH2⟩ : ∃ H2, H2 = H' ++ [AObj.cells 34 [ii x.op, ii x.to, ii x.a, ii x.b, ii x.c]] ++ [AObj.cells 34 [ii x.op, ii 0, ii (gP S i (heldR S i x.a)), ii (gP S i (heldR S i x.b)), ii x.c]] := ⟨_, rfl⟩
        have hH2l : H2.length = B + 1 := by rw [hH2, hB]; simp
        have k0 : ∀ j, j < 5 → H2[j]? = H'[j]? := fun j hj => by rw [hH2, List.getElem?_append_left (by simp; omega), List.getElem?_append_left (by omega)]
        have kB : H2[B]? = some (AObj.cells 34 [ii x.op, ii 0, ii (gP S i (heldR S i x.a)), ii (gP S i (heldR S i x.b)), ii x.c]) := by rw [hH2, hB]; exact gNew _
        rw [← hB, ← hH2] at hz
        obtain ⟨l2, H3, id2, rfl, b1, b2, b3, b4, b7, b10, b11, s1, s2, s3⟩ := loop_rPack23 kf g n need code outs nl cap nl2 cap2 nl3 cap3 H2 _ rfl (by omega) 0 B i (nowL S i) (by omega) (by rw [k0 2 (by omega)]; exact q2) (by omega) hnd (by omega) (by omega) ho2 ho (by omega) _ _ z hz (by omega) (by rfl) (by rfl) (by rfl) (by rfl) (by rfl) (by rfl) (by rfl) (by rfl) (by rfl)
        clear hz
        rw [← hS] at b11 s3
        obtain ⟨L2, hL2⟩ : ∃ L2, L2 = restP S i (nowL S i) := ⟨_, rfl⟩
        have hL2l : L2.length ≤ nn := by rw [hL2]; exact Nat.le_trans (List.length_filter_le _ _) hlen
        rw [← hL2] at b11 s3
        simp only [b1, b2, b3, b4, b7, b10, b11, EVb, EVc, Int.reduceEq, Int.reduceToNat, Int.reduceLE, Int.reduceLT, Int.reduceAdd, Int.reduceMul, Int.reduceSub, Int.reduceNeg, Nat.reduceAdd, Nat.reduceSub, Nat.reduceMul, Nat.reduceLT, Nat.reduceBEq, Nat.reduceEqDiff, Nat.reduceLeDiff, FACTS, TYPES]
        rw [evalCode_loopB LB51_30 lp51_30]; rotate_left; rfl; rfl; rfl
        generalize hz : loopR _ _ _ _ _ _ _ _ _ _ _ _ = z
        obtain ⟨mx, hmx⟩ : ∃ mx, mx = mex (L2.map (·.2)) := ⟨_, rfl⟩
        have hmxl : mx ≤ nn := by rw [hmx]; exact Nat.le_trans (mex_le _) (by rw [List.length_map]; exact hL2l)
        have hmxP : gP S (i + 1) i = mx := by rw [gP_new hni2, hmx, hL2, rest_snd]
        obtain ⟨l3, rfl, c1, c2, c3, c4, c5, c7, c10, c13⟩ := loop_rPack30 (kf + 1) H3 _ rfl id2 B i _ L2 (fun h => (s3 h).2) (by omega) (by omega) mx hmx (by omega) _ _ z hz (by omega) (by exact b1) (by exact b2) (by exact b3) (by exact b4) (by rfl) (by exact b7) (by exact b10) (by simp only [Nat.zero_min]; rfl) (by simp only [Nat.zero_le, decide_true]; rfl)
        clear hz
        have t0 : ∀ j, j < 5 → H3[j]? = H'[j]? := fun j hj => by rw [s2 j (by omega), k0 j hj]
        have h3B : H3[B]? = some (AObj.cells 34 [ii x.op, ii 0, ii (gP S i (heldR S i x.a)), ii (gP S i (heldR S i x.b)), ii x.c]) := by rw [s2 B (by omega)]; exact kB
        obtain ⟨H4, hH4⟩ : ∃ H4, H4 = H3.set B (AObj.cells 34 [ii x.op, ii mx, ii (gP S i (heldR S i x.a)), ii (gP S i (heldR S i x.b)), ii x.c]) := ⟨_, rfl⟩
        have hH4l : H4.length = H3.length := by rw [hH4]; simp
        have u0 : ∀ j, j < 5 → H4[j]? = H'[j]? := fun j hj => by rw [hH4, List.getElem?_set_ne (by omega), t0 j hj]
        have uB : H4[B]? = some (AObj.cells 34 [ii x.op, ii mx, ii (gP S i (heldR S i x.a)), ii (gP S i (heldR S i x.b)), ii x.c]) := by rw [hH4, List.getElem?_set_self (by omega)]
        have uR : L2 ≠ [] → H4[id2]? = some (rP L2) := fun h => by
          have := s3 h
          rw [hH4, List.getElem?_set_ne (by omega)]; exact this.2
        have hap := app_ev (H := H4) (id := id2) (l := L2) (a := i) (b := mx) uR (by omega)
        have hid2 : L2 ≠ [] → id2 < H4.length := fun h => (List.getElem?_eq_some_iff.1 (uR h)).1
        have w0 : ∀ j, j < B + 1 → (appH H4 id2 L2 i mx)[j]? = H4[j]? := fun j hj => appH_old (by omega) fun h e => by have := (s3 h).1; omega
        have wN : (appH H4 id2 L2 i mx)[appId H4 id2 L2]? = some (rP (L2 ++ [((i : Int), (mx : Int))])) := appH_new hid2
        have wI : B + 1 ≤ appId H4 id2 L2 := by
          unfold appId
          split
          · omega
          · rename_i h; have := (s3 h).1; omega
        have wL := appH_length H4 id2 L2 i mx
        obtain ⟨H5, hH5⟩ : ∃ H5, H5 = appH H4 id2 L2 i mx := ⟨_, rfl⟩
        obtain ⟨id5, hid5⟩ : ∃ id5, id5 = appId H4 id2 L2 := ⟨_, rfl⟩
        rw [← hH5, ← hid5] at hap
        rw [← hH5] at w0 wN wL
        rw [← hid5] at wN wI
        have z0 : ∀ j, j < 5 → H5[j]? = H'[j]? := fun j hj => by rw [w0 j (by omega), u0 j hj]
        have zB : H5[B]? = some (AObj.cells 34 [ii x.op, ii mx, ii (gP S i (heldR S i x.a)), ii (gP S i (heldR S i x.b)), ii x.c]) := by rw [w0 B (by omega)]; exact uB
        have zI : id5 < H5.length := (List.getElem?_eq_some_iff.1 wN).1
        have z4 : H5[4]? = some (outO S i) := by rw [z0 4 (by omega)]; exact q4
        have hwm : IntKind.wrap .i64 ((mx : Int) + 1) = (mx : Int) + 1 := by rw [wrap64 (by omega) (by omega)]
        try simp only [c1, c2, c3, c4, c5, c7, c10, c13, h3B, EVb, EVc, Int.reduceEq, Int.reduceToNat, Int.reduceLE, Int.reduceLT, Int.reduceAdd, Int.reduceMul, Int.reduceSub, Int.reduceNeg, Nat.reduceAdd, Nat.reduceSub, Nat.reduceMul, Nat.reduceLT, Nat.reduceBEq, Nat.reduceEqDiff, Nat.reduceLeDiff, FACTS, TYPES]
        rw [← hH4]
        try simp only [c1, c2, c3, c4, c5, c7, c10, c13, uB, hap, gNew, z4, hwm, EVb, EVc, Int.reduceEq, Int.reduceToNat, Int.reduceLE, Int.reduceLT, Int.reduceAdd, Int.reduceMul, Int.reduceSub, Int.reduceNeg, Nat.reduceAdd, Nat.reduceSub, Nat.reduceMul, Nat.reduceLT, Nat.reduceBEq, Nat.reduceEqDiff, Nat.reduceLeDiff, FACTS, TYPES]
        have hcl : (gC S i).length ≤ 20000 := by rw [gC_length]; have := cnt_le S i; omega
        have enow := nowL_need hok (by rw [hSc]; exact hc) hni2
        rw [← hL2, hmxP] at enow
        have ecod : gC S (i + 1) = gC S i ++ [gI S i] := gC_succ hni2
        have eI : gI S i = ⟨x.op, mx, gP S i (heldR S i x.a), (gP S i (heldR S i x.b)), x.c⟩ := by
          rw [gI, hmxP, hSc, ← hX]
          rw [if_pos h34]
        by_cases hgt : gR S i < (mx : Int) + 1
        · have ereg : gR S (i + 1) = (mx : Int) + 1 := by rw [gR, if_pos hni2, hmxP, if_pos (by omega)]
          simp only [c1, c2, c3, c4, c5, c7, c10, c13, z4, hgt, hwm, EVb, EVc, Int.reduceEq, Int.reduceToNat, Int.reduceLE, Int.reduceLT, Int.reduceAdd, Int.reduceMul, Int.reduceSub, Int.reduceNeg, Nat.reduceAdd, Nat.reduceSub, Nat.reduceMul, Nat.reduceLT, Nat.reduceBEq, Nat.reduceEqDiff, Nat.reduceLeDiff, FACTS, TYPES]
          obtain ⟨H6, hH6⟩ : ∃ H6, H6 = H5.set 4 (.cells 25 [ii S.ins, ii ((mx : Int) + 1), lv 0 5 (gC S i).length, .c (.slice [] 0 true (some 0))]) := ⟨_, rfl⟩
          rw [← hH6]
          have y4 : H6[4]? = some (.cells 25 [ii S.ins, ii ((mx : Int) + 1), lv 0 5 (gC S i).length, .c (.slice [] 0 true (some 0))]) := by rw [hH6, List.getElem?_set_self (by omega)]
          have yo : ∀ j, j ≠ 4 → H6[j]? = H5[j]? := fun j hj => by rw [hH6, List.getElem?_set_ne (fun e => hj e.symm)]
          have yl : H6.length = H5.length := by rw [hH6, List.length_set]
          have y0 : H6[0]? = some (cdL S i) := by rw [yo 0 (by omega), z0 0 (by omega)]; exact q0
          have yB := zB
          rw [← yo B (by omega)] at yB
          have hap2 := fun (row : AObj) (cs : List IV) => apO_lv (e := 34) (s := 0) (n := (gC S i).length) (m := 1) (sz := 5) (by_ := 40) (cells := encCode (gC S i)) (cs := cs) (H := H6 ++ [row]) (by decide) (Nat.le_trans (Nat.mul_le_mul_right 40 (show (gC S i).length + 1 ≤ 20001 by omega)) (by decide)) (by decide) (gOld y0 row) (encCode_length _)
          have y4' : ∀ (row o : AObj), ((H6 ++ [row]).set 0 o)[4]? = some (.cells 25 [ii S.ins, ii ((mx : Int) + 1), lv 0 5 (gC S i).length, .c (.slice [] 0 true (some 0))]) := fun row o => by rw [List.getElem?_set_ne (by omega)]; exact gOld y4 row
          simp only [c1, c2, c3, c4, c5, c7, c10, c13, y4, yB, hap2, gNew, y4', hw, EVb, EVc, Int.reduceEq, Int.reduceToNat, Int.reduceLE, Int.reduceLT, Int.reduceAdd, Int.reduceMul, Int.reduceSub, Int.reduceNeg, Nat.reduceAdd, Nat.reduceSub, Nat.reduceMul, Nat.reduceLT, Nat.reduceBEq, Nat.reduceEqDiff, Nat.reduceLeDiff, FACTS, TYPES]
          have hfin : ∀ (row o o' : AObj) (j : Nat), j ≠ 0 → j ≠ 4 → j < H6.length → (((H6 ++ [row]).set 0 o).set 4 o')[j]? = H5[j]? := fun row o o' j h0 h4 hlt => by
            rw [List.getElem?_set_ne (fun e => h4 e.symm), List.getElem?_set_ne (fun e => h0 e.symm), List.getElem?_append_left hlt]
            exact yo j h4
          refine .inr ⟨_, _, hc, rfl, _, (by exact c1), (by exact c2), (by exact c3), (by exact c4), (by rfl), (by rfl), .inl ⟨id5, by rw [enow]; rfl, fun _ => ⟨by omega, ?_⟩⟩, ?_, ?_, ?_, ?_, ?_, ?_⟩
          · rw [hfin _ _ _ _ (by omega) (by omega) (by omega), wN, enow]
          · rw [List.length_set, List.length_set, List.length_append]; omega
          · rw [List.getElem?_set_ne (by omega), List.getElem?_set_self (by rw [List.length_append]; omega)]
            simp only [cdL, ecod, eI, List.length_append, List.length_cons, List.length_nil, Nat.zero_add, encCode_append, encCode, enc1, List.append_nil]
          · rw [hfin _ _ _ _ (by omega) (by omega) (by omega), z0 1 (by omega)]; exact q1
          · rw [hfin _ _ _ _ (by omega) (by omega) (by omega), z0 2 (by omega)]; exact q2
          · rw [hfin _ _ _ _ (by omega) (by omega) (by omega), z0 3 (by omega)]; exact q3
          · rw [List.getElem?_set_self (by rw [List.length_set, List.length_append]; omega)]
            simp only [outO, ereg, ecod, List.length_append, List.length_cons, List.length_nil, Nat.zero_add]
        · have ereg : gR S (i + 1) = gR S i := by rw [gR, if_pos hni2, hmxP, if_neg (by omega)]
          simp only [c1, c2, c3, c4, c5, c7, c10, c13, hgt, hwm, EVb, EVc, Int.reduceEq, Int.reduceToNat, Int.reduceLE, Int.reduceLT, Int.reduceAdd, Int.reduceMul, Int.reduceSub, Int.reduceNeg, Nat.reduceAdd, Nat.reduceSub, Nat.reduceMul, Nat.reduceLT, Nat.reduceBEq, Nat.reduceEqDiff, Nat.reduceLeDiff, FACTS, TYPES]
          obtain ⟨H6, hH6⟩ : ∃ H6, H6 = H5 := ⟨_, rfl⟩
          rw [← hH6]
          have y4 : H6[4]? = some (.cells 25 [ii S.ins, ii (gR S i), lv 0 5 (gC S i).length, .c (.slice [] 0 true (some 0))]) := by rw [hH6]; exact z4
          have yo : ∀ j, j ≠ 4 → H6[j]? = H5[j]? := fun j hj => by rw [hH6]
          have yl : H6.length = H5.length := by rw [hH6]
          have y0 : H6[0]? = some (cdL S i) := by rw [yo 0 (by omega), z0 0 (by omega)]; exact q0
          have yB := zB
          rw [← yo B (by omega)] at yB
          have hap2 := fun (row : AObj) (cs : List IV) => apO_lv (e := 34) (s := 0) (n := (gC S i).length) (m := 1) (sz := 5) (by_ := 40) (cells := encCode (gC S i)) (cs := cs) (H := H6 ++ [row]) (by decide) (Nat.le_trans (Nat.mul_le_mul_right 40 (show (gC S i).length + 1 ≤ 20001 by omega)) (by decide)) (by decide) (gOld y0 row) (encCode_length _)
          have y4' : ∀ (row o : AObj), ((H6 ++ [row]).set 0 o)[4]? = some (.cells 25 [ii S.ins, ii (gR S i), lv 0 5 (gC S i).length, .c (.slice [] 0 true (some 0))]) := fun row o => by rw [List.getElem?_set_ne (by omega)]; exact gOld y4 row
          simp only [c1, c2, c3, c4, c5, c7, c10, c13, y4, yB, hap2, gNew, y4', hw, EVb, EVc, Int.reduceEq, Int.reduceToNat, Int.reduceLE, Int.reduceLT, Int.reduceAdd, Int.reduceMul, Int.reduceSub, Int.reduceNeg, Nat.reduceAdd, Nat.reduceSub, Nat.reduceMul, Nat.reduceLT, Nat.reduceBEq, Nat.reduceEqDiff, Nat.reduceLeDiff, FACTS, TYPES]
          have hfin : ∀ (row o o' : AObj) (j : Nat), j ≠ 0 → j ≠ 4 → j < H6.length → (((H6 ++ [row]).set 0 o).set 4 o')[j]? = H5[j]? := fun row o o' j h0 h4 hlt => by
            rw [List.getElem?_set_ne (fun e => h4 e.symm), List.getElem?_set_ne (fun e => h0 e.symm), List.getElem?_append_left hlt]
            exact yo j h4
          refine .inr ⟨_, _, hc, rfl, _, (by exact c1), (by exact c2), (by exact c3), (by exact c4), (by rfl), (by rfl), .inl ⟨id5, by rw [enow]; rfl, fun _ => ⟨by omega, ?_⟩⟩, ?_, ?_, ?_, ?_, ?_, ?_⟩
          · rw [hfin _ _ _ _ (by omega) (by omega) (by omega), wN, enow]
          · rw [List.length_set, List.length_set, List.length_append]; omega
          · rw [List.getElem?_set_ne (by omega), List.getElem?_set_self (by rw [List.length_append]; omega)]
            simp only [cdL, ecod, eI, List.length_append, List.length_cons, List.length_nil, Nat.zero_add, encCode_append, encCode, enc1, List.append_nil]
          · rw [hfin _ _ _ _ (by omega) (by omega) (by omega), z0 1 (by omega)]; exact q1
          · rw [hfin _ _ _ _ (by omega) (by omega) (by omega), z0 2 (by omega)]; exact q2
          · rw [hfin _ _ _ _ (by omega) (by omega) (by omega), z0 3 (by omega)]; exact q3
          · rw [List.getElem?_set_self (by rw [List.length_set, List.length_append]; omega)]
            simp only [outO, ereg, ecod, List.length_append, List.length_cons, List.length_nil, Nat.zero_add]
      · have hl1 : ¬ (1 : Int) < ((asks ⟨x.op, x.to, x.a, x.b, x.c⟩).length : Int) := by
          unfold asks
          rw [if_neg h34]
          split <;> simp
        try simp only [a1, a2, a3, a4, a5, a7, hc', hc0, hw, hl1, EVb, EVc, Int.reduceEq, Int.reduceToNat, Int.reduceLE, Int.reduceLT, Int.reduceAdd, Int.reduceMul, Int.reduceSub, Int.reduceNeg, Nat.reduceAdd, Nat.reduceSub, Nat.reduceMul, Nat.reduceLT, Nat.reduceBEq, Nat.reduceEqDiff, Nat.reduceLeDiff, FACTS, TYPES]
        rw [evalCode_loopB LB51_23 lp51_23]; rotate_left; rfl; rfl; rfl
        generalize hz : loopR _ _ _ _ _ _ _ _ _ _ _ _ = z
        obtain ⟨B, hB⟩ : ∃ B, B = (H' ++ [AObj.cells 34 [ii x.op, ii x.to, ii x.a, ii x.b, ii x.c]]).length := ⟨_, rfl⟩
        have hBl : B = H'.length + 1 := by rw [hB]; simp
        obtain ⟨H2, hH2⟩ : ∃ H2, H2 = H' ++ [AObj.cells 34 [ii x.op, ii x.to, ii x.a, ii x.b, ii x.c]] ++ [AObj.cells 34 [ii x.op, ii 0, ii (gP S i (heldR S i x.a)), ii 0, ii x.c]] := ⟨_, rfl⟩
        have hH2l : H2.length = B + 1 := by rw [hH2, hB]; simp
        have k0 : ∀ j, j < 5 → H2[j]? = H'[j]? := fun j hj => by rw [hH2, List.getElem?_append_left (by simp; omega), List.getElem?_append_left (by omega)]
        have kB : H2[B]? = some (AObj.cells 34 [ii x.op, ii 0, ii (gP S i (heldR S i x.a)), ii 0, ii x.c]) := by rw [hH2, hB]; exact gNew _
        rw [← hB, ← hH2] at hz
        obtain ⟨l2, H3, id2, rfl, b1, b2, b3, b4, b7, b10, b11, s1, s2, s3⟩ := loop_rPack23 kf g n need code outs nl cap nl2 cap2 nl3 cap3 H2 _ rfl (by omega) 0 B i (nowL S i) (by omega) (by rw [k0 2 (by omega)]; exact q2) (by omega) hnd (by omega) (by omega) ho2 ho (by omega) _ _ z hz (by omega) (by rfl) (by rfl) (by rfl) (by rfl) (by rfl) (by rfl) (by rfl) (by rfl) (by rfl)
        clear hz
        rw [← hS] at b11 s3
        obtain ⟨L2, hL2⟩ : ∃ L2, L2 = restP S i (nowL S i) := ⟨_, rfl⟩
        have hL2l : L2.length ≤ nn := by rw [hL2]; exact Nat.le_trans (List.length_filter_le _ _) hlen
        rw [← hL2] at b11 s3
        simp only [b1, b2, b3, b4, b7, b10, b11, EVb, EVc, Int.reduceEq, Int.reduceToNat, Int.reduceLE, Int.reduceLT, Int.reduceAdd, Int.reduceMul, Int.reduceSub, Int.reduceNeg, Nat.reduceAdd, Nat.reduceSub, Nat.reduceMul, Nat.reduceLT, Nat.reduceBEq, Nat.reduceEqDiff, Nat.reduceLeDiff, FACTS, TYPES]
        rw [evalCode_loopB LB51_30 lp51_30]; rotate_left; rfl; rfl; rfl
        generalize hz : loopR _ _ _ _ _ _ _ _ _ _ _ _ = z
        obtain ⟨mx, hmx⟩ : ∃ mx, mx = mex (L2.map (·.2)) := ⟨_, rfl⟩
        have hmxl : mx ≤ nn := by rw [hmx]; exact Nat.le_trans (mex_le _) (by rw [List.length_map]; exact hL2l)
        have hmxP : gP S (i + 1) i = mx := by rw [gP_new hni2, hmx, hL2, rest_snd]
        obtain ⟨l3, rfl, c1, c2, c3, c4, c5, c7, c10, c13⟩ := loop_rPack30 (kf + 1) H3 _ rfl id2 B i _ L2 (fun h => (s3 h).2) (by omega) (by omega) mx hmx (by omega) _ _ z hz (by omega) (by exact b1) (by exact b2) (by exact b3) (by exact b4) (by rfl) (by exact b7) (by exact b10) (by simp only [Nat.zero_min]; rfl) (by simp only [Nat.zero_le, decide_true]; rfl)
        clear hz
        have t0 : ∀ j, j < 5 → H3[j]? = H'[j]? := fun j hj => by rw [s2 j (by omega), k0 j hj]
        have h3B : H3[B]? = some (AObj.cells 34 [ii x.op, ii 0, ii (gP S i (heldR S i x.a)), ii 0, ii x.c]) := by rw [s2 B (by omega)]; exact kB
        obtain ⟨H4, hH4⟩ : ∃ H4, H4 = H3.set B (AObj.cells 34 [ii x.op, ii mx, ii (gP S i (heldR S i x.a)), ii 0, ii x.c]) := ⟨_, rfl⟩
        have hH4l : H4.length = H3.length := by rw [hH4]; simp
        have u0 : ∀ j, j < 5 → H4[j]? = H'[j]? := fun j hj => by rw [hH4, List.getElem?_set_ne (by omega), t0 j hj]
        have uB : H4[B]? = some (AObj.cells 34 [ii x.op, ii mx, ii (gP S i (heldR S i x.a)), ii 0, ii x.c]) := by rw [hH4, List.getElem?_set_self (by omega)]
        have uR : L2 ≠ [] → H4[id2]? = some (rP L2) := fun h => by
          have := s3 h
          rw [hH4, List.getElem?_set_ne (by omega)]; exact this.2
        have hap := app_ev (H := H4) (id := id2) (l := L2) (a := i) (b := mx) uR (by omega)
        have hid2 : L2 ≠ [] → id2 < H4.length := fun h => (List.getElem?_eq_some_iff.1 (uR h)).1
        have w0 : ∀ j, j < B + 1 → (appH H4 id2 L2 i mx)[j]? = H4[j]? := fun j hj => appH_old (by omega) fun h e => by have := (s3 h).1; omega
        have wN : (appH H4 id2 L2 i mx)[appId H4 id2 L2]? = some (rP (L2 ++ [((i : Int), (mx : Int))])) := appH_new hid2
        have wI : B + 1 ≤ appId H4 id2 L2 := by
          unfold appId
          split
          · omega
          · rename_i h; have := (s3 h).1; omega
        have wL := appH_length H4 id2 L2 i mx
        obtain ⟨H5, hH5⟩ : ∃ H5, H5 = appH H4 id2 L2 i mx := ⟨_, rfl⟩
        obtain ⟨id5, hid5⟩ : ∃ id5, id5 = appId H4 id2 L2 := ⟨_, rfl⟩
        rw [← hH5, ← hid5] at hap
        rw [← hH5] at w0 wN wL
        rw [← hid5] at wN wI
        have z0 : ∀ j, j < 5 → H5[j]? = H'[j]? := fun j hj => by rw [w0 j (by omega), u0 j hj]
        have zB : H5[B]? = some (AObj.cells 34 [ii x.op, ii mx, ii (gP S i (heldR S i x.a)), ii 0, ii x.c]) := by rw [w0 B (by omega)]; exact uB
        have zI : id5 < H5.length := (List.getElem?_eq_some_iff.1 wN).1
        have z4 : H5[4]? = some (outO S i) := by rw [z0 4 (by omega)]; exact q4
        have hwm : IntKind.wrap .i64 ((mx : Int) + 1) = (mx : Int) + 1 := by rw [wrap64 (by omega) (by omega)]
        try simp only [c1, c2, c3, c4, c5, c7, c10, c13, h3B, EVb, EVc, Int.reduceEq, Int.reduceToNat, Int.reduceLE, Int.reduceLT, Int.reduceAdd, Int.reduceMul, Int.reduceSub, Int.reduceNeg, Nat.reduceAdd, Nat.reduceSub, Nat.reduceMul, Nat.reduceLT, Nat.reduceBEq, Nat.reduceEqDiff, Nat.reduceLeDiff, FACTS, TYPES]
        rw [← hH4]
        try simp only [c1, c2, c3, c4, c5, c7, c10, c13, uB, hap, gNew, z4, hwm, EVb, EVc, Int.reduceEq, Int.reduceToNat, Int.reduceLE, Int.reduceLT, Int.reduceAdd, Int.reduceMul, Int.reduceSub, Int.reduceNeg, Nat.reduceAdd, Nat.reduceSub, Nat.reduceMul, Nat.reduceLT, Nat.reduceBEq, Nat.reduceEqDiff, Nat.reduceLeDiff, FACTS, TYPES]
        have hcl : (gC S i).length ≤ 20000 := by rw [gC_length]; have := cnt_le S i; omega
        have enow := nowL_need hok (by rw [hSc]; exact hc) hni2
        rw [← hL2, hmxP] at enow
        have ecod : gC S (i + 1) = gC S i ++ [gI S i] := gC_succ hni2
        have eI : gI S i = ⟨x.op, mx, gP S i (heldR S i x.a), 0, x.c⟩ := by
          rw [gI, hmxP, hSc, ← hX]
          rw [if_neg h34, hbi h34]
        by_cases hgt : gR S i < (mx : Int) + 1
        · have ereg : gR S (i + 1) = (mx : Int) + 1 := by rw [gR, if_pos hni2, hmxP, if_pos (by omega)]
          simp only [c1, c2, c3, c4, c5, c7, c10, c13, z4, hgt, hwm, EVb, EVc, Int.reduceEq, Int.reduceToNat, Int.reduceLE, Int.reduceLT, Int.reduceAdd, Int.reduceMul, Int.reduceSub, Int.reduceNeg, Nat.reduceAdd, Nat.reduceSub, Nat.reduceMul, Nat.reduceLT, Nat.reduceBEq, Nat.reduceEqDiff, Nat.reduceLeDiff, FACTS, TYPES]
          obtain ⟨H6, hH6⟩ : ∃ H6, H6 = H5.set 4 (.cells 25 [ii S.ins, ii ((mx : Int) + 1), lv 0 5 (gC S i).length, .c (.slice [] 0 true (some 0))]) := ⟨_, rfl⟩
          rw [← hH6]
          have y4 : H6[4]? = some (.cells 25 [ii S.ins, ii ((mx : Int) + 1), lv 0 5 (gC S i).length, .c (.slice [] 0 true (some 0))]) := by rw [hH6, List.getElem?_set_self (by omega)]
          have yo : ∀ j, j ≠ 4 → H6[j]? = H5[j]? := fun j hj => by rw [hH6, List.getElem?_set_ne (fun e => hj e.symm)]
          have yl : H6.length = H5.length := by rw [hH6, List.length_set]
          have y0 : H6[0]? = some (cdL S i) := by rw [yo 0 (by omega), z0 0 (by omega)]; exact q0
          have yB := zB
          rw [← yo B (by omega)] at yB
          have hap2 := fun (row : AObj) (cs : List IV) => apO_lv (e := 34) (s := 0) (n := (gC S i).length) (m := 1) (sz := 5) (by_ := 40) (cells := encCode (gC S i)) (cs := cs) (H := H6 ++ [row]) (by decide) (Nat.le_trans (Nat.mul_le_mul_right 40 (show (gC S i).length + 1 ≤ 20001 by omega)) (by decide)) (by decide) (gOld y0 row) (encCode_length _)
          have y4' : ∀ (row o : AObj), ((H6 ++ [row]).set 0 o)[4]? = some (.cells 25 [ii S.ins, ii ((mx : Int) + 1), lv 0 5 (gC S i).length, .c (.slice [] 0 true (some 0))]) := fun row o => by rw [List.getElem?_set_ne (by omega)]; exact gOld y4 row
          simp only [c1, c2, c3, c4, c5, c7, c10, c13, y4, yB, hap2, gNew, y4', hw, EVb, EVc, Int.reduceEq, Int.reduceToNat, Int.reduceLE, Int.reduceLT, Int.reduceAdd, Int.reduceMul, Int.reduceSub, Int.reduceNeg, Nat.reduceAdd, Nat.reduceSub, Nat.reduceMul, Nat.reduceLT, Nat.reduceBEq, Nat.reduceEqDiff, Nat.reduceLeDiff, FACTS, TYPES]
          have hfin : ∀ (row o o' : AObj) (j : Nat), j ≠ 0 → j ≠ 4 → j < H6.length → (((H6 ++ [row]).set 0 o).set 4 o')[j]? = H5[j]? := fun row o o' j h0 h4 hlt => by
            rw [List.getElem?_set_ne (fun e => h4 e.symm), List.getElem?_set_ne (fun e => h0 e.symm), List.getElem?_append_left hlt]
            exact yo j h4
          refine .inr ⟨_, _, hc, rfl, _, (by exact c1), (by exact c2), (by exact c3), (by exact c4), (by rfl), (by rfl), .inl ⟨id5, by rw [enow]; rfl, fun _ => ⟨by omega, ?_⟩⟩, ?_, ?_, ?_, ?_, ?_, ?_⟩
          · rw [hfin _ _ _ _ (by omega) (by omega) (by omega), wN, enow]
          · rw [List.length_set, List.length_set, List.length_append]; omega
          · rw [List.getElem?_set_ne (by omega), List.getElem?_set_self (by rw [List.length_append]; omega)]
            simp only [cdL, ecod, eI, List.length_append, List.length_cons, List.length_nil, Nat.zero_add, encCode_append, encCode, enc1, List.append_nil]
          · rw [hfin _ _ _ _ (by omega) (by omega) (by omega), z0 1 (by omega)]; exact q1
          · rw [hfin _ _ _ _ (by omega) (by omega) (by omega), z0 2 (by omega)]; exact q2
          · rw [hfin _ _ _ _ (by omega) (by omega) (by omega), z0 3 (by omega)]; exact q3
          · rw [List.getElem?_set_self (by rw [List.length_set, List.length_append]; omega)]
            simp only [outO, ereg, ecod, List.length_append, List.length_cons, List.length_nil, Nat.zero_add]
        · have ereg : gR S (i + 1) = gR S i := by rw [gR, if_pos hni2, hmxP, if_neg (by omega)]
          simp only [c1, c2, c3, c4, c5, c7, c10, c13, hgt, hwm, EVb, EVc, Int.reduceEq, Int.reduceToNat, Int.reduceLE, Int.reduceLT, Int.reduceAdd, Int.reduceMul, Int.reduceSub, Int.reduceNeg, Nat.reduceAdd, Nat.reduceSub, Nat.reduceMul, Nat.reduceLT, Nat.reduceBEq, Nat.reduceEqDiff, Nat.reduceLeDiff, FACTS, TYPES]
          obtain ⟨H6, hH6⟩ : ∃ H6, H6 = H5 := ⟨_, rfl⟩
          rw [← hH6]
          have y4 : H6[4]? = some (.cells 25 [ii S.ins, ii (gR S i), lv 0 5 (gC S i).length, .c (.slice [] 0 true (some 0))]) := by rw [hH6]; exact z4
          have yo : ∀ j, j ≠ 4 → H6[j]? = H5[j]? := fun j hj => by rw [hH6]
          have yl : H6.length = H5.length := by rw [hH6]
          have y0 : H6[0]? = some (cdL S i) := by rw [yo 0 (by omega), z0 0 (by omega)]; exact q0
          have yB := zB
          rw [← yo B (by omega)] at yB
          have hap2 := fun (row : AObj) (cs : List IV) => apO_lv (e := 34) (s := 0) (n := (gC S i).length) (m := 1) (sz := 5) (by_ := 40) (cells := encCode (gC S i)) (cs := cs) (H := H6 ++ [row]) (by decide) (Nat.le_trans (Nat.mul_le_mul_right 40 (show (gC S i).length + 1 ≤ 20001 by omega)) (by decide)) (by decide) (gOld y0 row) (encCode_length _)
          have y4' : ∀ (row o : AObj), ((H6 ++ [row]).set 0 o)[4]? = some (.cells 25 [ii S.ins, ii (gR S i), lv 0 5 (gC S i).length, .c (.slice [] 0 true (some 0))]) := fun row o => by rw [List.getElem?_set_ne (by omega)]; exact gOld y4 row
          simp only [c1, c2, c3, c4, c5, c7, c10, c13, y4, yB, hap2, gNew, y4', hw, EVb, EVc, Int.reduceEq, Int.reduceToNat, Int.reduceLE, Int.reduceLT, Int.reduceAdd, Int.reduceMul, Int.reduceSub, Int.reduceNeg, Nat.reduceAdd, Nat.reduceSub, Nat.reduceMul, Nat.reduceLT, Nat.reduceBEq, Nat.reduceEqDiff, Nat.reduceLeDiff, FACTS, TYPES]
          have hfin : ∀ (row o o' : AObj) (j : Nat), j ≠ 0 → j ≠ 4 → j < H6.length → (((H6 ++ [row]).set 0 o).set 4 o')[j]? = H5[j]? := fun row o o' j h0 h4 hlt => by
            rw [List.getElem?_set_ne (fun e => h4 e.symm), List.getElem?_set_ne (fun e => h0 e.symm), List.getElem?_append_left hlt]
            exact yo j h4
          refine .inr ⟨_, _, hc, rfl, _, (by exact c1), (by exact c2), (by exact c3), (by exact c4), (by rfl), (by rfl), .inl ⟨id5, by rw [enow]; rfl, fun _ => ⟨by omega, ?_⟩⟩, ?_, ?_, ?_, ?_, ?_, ?_⟩
          · rw [hfin _ _ _ _ (by omega) (by omega) (by omega), wN, enow]
          · rw [List.length_set, List.length_set, List.length_append]; omega
          · rw [List.getElem?_set_ne (by omega), List.getElem?_set_self (by rw [List.length_append]; omega)]
            simp only [cdL, ecod, eI, List.length_append, List.length_cons, List.length_nil, Nat.zero_add, encCode_append, encCode, enc1, List.append_nil]
          · rw [hfin _ _ _ _ (by omega) (by omega) (by omega), z0 1 (by omega)]; exact q1
          · rw [hfin _ _ _ _ (by omega) (by omega) (by omega), z0 2 (by omega)]; exact q2
          · rw [hfin _ _ _ _ (by omega) (by omega) (by omega), z0 3 (by omega)]; exact q3
          · rw [List.getElem?_set_self (by rw [List.length_set, List.length_append]; omega)]
            simp only [outO, ereg, ecod, List.length_append, List.length_cons, List.length_nil, Nat.zero_add]
    · have hni' : need.getD i false = false := by simpa using hni
      rw [hni'] at hnb
      have hni2 : nd S.need i = false := by rw [hS]; exact hni'
      have e1 := nowL_no (S := S) (i := i) (by rw [hSc]; exact hc) hni2
      have e2 : gC S (i + 1) = gC S i := gC_succ_no hni2
      have e3 : gR S (i + 1) = gR S i := by rw [gR, hni2, if_neg (by simp)]
      rw [e1]
      simp only [cdL, outO, e2, e3]
      rw [loopZ_one (t := 5) (by decide) hfz, ht]
      simp only [a1, a2, a3, a4, a5, a7, hc', hc0, hw, hnb, hnl, hnd, q2, loopR_succ, loopOf, findLoop, firstRegion, Option.some_or, Option.none_or, Option.getD_some, Option.some.injEq, Try.f51, EVb, EVc, Int.reduceEq, Int.reduceToNat, Int.reduceLE, Int.reduceLT, Int.reduceAdd, Int.reduceMul, Int.reduceSub, Int.reduceNeg, Nat.reduceAdd, Nat.reduceSub, Nat.reduceMul, Nat.reduceLT, Nat.reduceBEq, Nat.reduceEqDiff, Nat.reduceLeDiff, FACTS, TYPES]
      exact .inr ⟨_, _, hc, rfl, _, (by rfl), (by rfl), (by rfl), (by rfl), (by rfl), (by rfl), .inr rfl, hle', q0, q1, q2, q3, q4⟩
  · refine .inl ?_
    obtain rfl : i = code.length := by omega
    have hc' : ¬ (((code.length : Nat) : Int) < ((code.length : Nat) : Int)) := by omega
    rw [loopZ_one (t := 5) (by decide) hfz, ht]
    simp only [a1, a2, a3, a4, a5, a7, hc', q2, loopR_succ, loopOf, findLoop, firstRegion, Option.some_or, Option.none_or, Option.getD_some, Option.some.injEq, Try.f51, EVb, EVc, Int.reduceEq, Int.reduceToNat, Int.reduceLE, Int.reduceLT, Int.reduceAdd, Int.reduceMul, Int.reduceSub, Int.reduceNeg, Nat.reduceAdd, Nat.reduceSub, Nat.reduceMul, Nat.reduceLT, Nat.reduceBEq, Nat.reduceEqDiff, Nat.reduceLeDiff, FACTS, TYPES]
    exact ⟨_, _, rfl, (by rfl), (by rfl), (by rfl), (by rfl), (by rfl), hle', q0, q1, q2, q3, q4⟩

end Go.Proofs.Sw
