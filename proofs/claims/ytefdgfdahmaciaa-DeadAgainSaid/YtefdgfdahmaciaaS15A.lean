/- A part of the proof: what functions of the program answer, of whatever arguments, reckoned with letters by the interpreter's equations. Its conditions stand in each theorem. -/
import Derived.Test.YtefdgfdahmaciaaS08C
namespace Go.Proofs.Sw
set_option linter.unusedVariables false
set_option linter.unusedSimpArgs false
set_option linter.unusedSectionVars false
open Go.Ab
variable [Globals]
def encB (l : List Bool) : List IV := l.map .bool
theorem encB_length (l : List Bool) : (encB l).length = l.length := by simp [encB]
theorem encB_get {l : List Bool} {r : Int} (h0 : 0 ≤ r) (h : r < l.length) : (encB l)[r.toNat]? = some (.bool (l.getD r.toNat false)) := by
  have h2 : r.toNat < l.length := by omega
  simp [encB, h2]
theorem encB_set {l : List Bool} {r : Nat} {b : Bool} : (encB l).set r (.bool b) = encB (l.set r b) := by
  simp [encB, List.map_set]
theorem encB_rep (n : Nat) : (List.replicate n [IV.bool false]).flatten = encB (List.replicate n false) := by
  induction n with
  | zero => rfl
  | succ n ih => rw [List.replicate_succ, List.flatten_cons, ih]; rfl
/-- All of these registers are marked. -/
def mark (l : List Bool) (b : Bool) : List Int → List Bool
  | [] => l
  | r :: rs => mark (l.set r.toNat b) b rs
theorem mark_length (b : Bool) : ∀ (rs : List Int) (l : List Bool), (mark l b rs).length = l.length
  | [], l => rfl
  | r :: rs, l => by rw [mark, mark_length b rs]; simp
theorem mark_snoc (b : Bool) (r : Int) : ∀ (rs : List Int) (l : List Bool), mark l b (rs ++ [r]) = (mark l b rs).set r.toNat b
  | [], l => rfl
  | x :: rs, l => by rw [List.cons_append, mark, mark_snoc b r rs]; rfl
/-- Going from the last instruction on: what is asked ahead of it, and which are needed. -/
def needL (asked : List Bool) : List Ins → List Bool × List Bool
  | [] => (asked, [])
  | i :: rest =>
    let r := needL asked rest
    if r.1.getD i.to.toNat false = true then (mark (r.1.set i.to.toNat false) true (asks i), true :: r.2) else (r.1, false :: r.2)
def asked0 (regs : Nat) (outs : List Int) : List Bool := mark (List.replicate regs false) true outs
def neededM (p : Pg) : List Bool := (needL (asked0 p.regs.toNat p.outs) p.code).2
abbrev sB (l : List Bool) (nl : Bool) (cap : Option Nat) : AV := .c (.slice (encB l) l.length nl cap)
abbrev rB (l : List Bool) : AObj := .row false 4 (encB l)
/-- Marking what is asked, in a row at place 1. -/
theorem loop_needed_3 (kf : Nat) (pc c64 : AObj) (n : Nat) (outs : List Int) (nl : Bool) (cap : Option Nat) (hlen : outs.length ≤ 4611686018427387904) (hr : ∀ r ∈ outs, 0 ≤ r ∧ r < n) (as0 : List Bool) (ha0 : as0.length = n)
    (k : Nat) (l : Ass) (H : Heap) (z : Option Out) (hz : loopR Try.prog tab kf none LB75_3 75 58 [1, 3, 15, 16, 17] 3 k l H = z) (hk : outs.length < k)
    (h1 : asc l 1 = .ptr 0 0) (h3 : asc l 3 = .ptr 2 0) (h15 : asc l 15 = sI outs nl cap) (h16 : asc l 16 = ii outs.length) (h17 : asc l 17 = ii (0 : Nat)) (hH : H = [pc, rB as0, .cells 64 [.hsl 1 0 n n 1]]) :
    z = some (.exit 0 (fr 58 [(18, bb false), (1, .ptr 0 0), (3, .ptr 2 0), (15, sI outs nl cap), (16, ii outs.length), (17, ii outs.length)]) [pc, rB (mark as0 true outs), .cells 64 [.hsl 1 0 n n 1]]) := by
  subst hH
  subst hz
  refine loop_nat outs.length (fun k l H => loopR Try.prog tab kf none LB75_3 75 58 [1, 3, 15, 16, 17] 3 k l H)
    (fun i l H => asc l 1 = .ptr 0 0 ∧ asc l 3 = .ptr 2 0 ∧ asc l 15 = sI outs nl cap ∧ asc l 16 = ii outs.length ∧ asc l 17 = ii i ∧ H = [pc, rB (mark as0 true (outs.take i)), .cells 64 [.hsl 1 0 n n 1]])
    (fun z => z = some (.exit 0 (fr 58 [(18, bb false), (1, .ptr 0 0), (3, .ptr 2 0), (15, sI outs nl cap), (16, ii outs.length), (17, ii outs.length)]) [pc, rB (mark as0 true outs), .cells 64 [.hsl 1 0 n n 1]])) ?_ outs.length 0 k l _ (by omega) hk ⟨h1, h3, h15, h16, h17, rfl⟩
  clear h1 h3 h15 h16 h17 hk
  rintro i k l H hi ⟨h1, h3, h15, h16, h17, rfl⟩
  have ht : ∀ q : List Bool, trim 3 (fr 58 (keep l [1, 3, 15, 16, 17])) [pc, rB q, .cells 64 [.hsl 1 0 n n 1]] = [pc, rB q, .cells 64 [.hsl 1 0 n n 1]] := fun q => trim_same rfl
  by_cases hc : i < outs.length
  · refine .inr ?_
    have hc' : ((i : Int) < outs.length) := by omega
    have hc0 : (0 : Int) ≤ i := by omega
    have hx := encInts_get hc
    have hw := wrap_succ hc hlen
    obtain ⟨x, hX⟩ : ∃ x, x = outs[i] := ⟨_, rfl⟩
    rw [← hX] at hx
    obtain ⟨x0, x1⟩ := hr x (by rw [hX]; exact List.getElem_mem hc)
    have hm : (mark as0 true (outs.take i)).length = n := by rw [mark_length]; exact ha0
    have hnx : mark as0 true (outs.take (i + 1)) = (mark as0 true (outs.take i)).set x.toNat true := by rw [List.take_succ_eq_append_getElem hc, mark_snoc, ← hX]
    have hxl : x.toNat < n := by omega
    have hel : (encB (mark as0 true (outs.take i))).length = n := by rw [encB_length, hm]
    simp only [loopR_succ, ht]
    simp only [h1, h3, h15, h16, h17, hc', hc0, hx, hw, x0, x1, hel, hxl, encB_set, loopR_succ, loopOf, findLoop, firstRegion, Option.some_or, Option.none_or, Option.getD_some, Option.some.injEq, Try.f75, EVb, EVc, Int.reduceEq, Int.reduceToNat, Int.reduceLE, Int.reduceLT, Int.reduceAdd, Int.reduceMul, Int.reduceSub, Int.reduceNeg, Nat.reduceAdd, Nat.reduceSub, Nat.reduceMul, Nat.reduceLT, Nat.reduceBEq, Nat.reduceEqDiff, Nat.reduceLeDiff, FACTS, TYPES]
    exact ⟨_, _, hc, rfl, (by rfl), (by rfl), (by rfl), (by rfl), (by rfl), by rw [hnx]⟩
  · refine .inl ?_
    have hc' : ¬ ((i : Int) < outs.length) := by omega
    have he : outs.take i = outs := List.take_of_length_le (by omega)
    obtain rfl : i = outs.length := by omega
    simp only [loopR_succ, ht]
    simp only [h1, h3, h15, h16, h17, hc', he, loopR_succ, loopOf, findLoop, firstRegion, Option.some_or, Option.none_or, Option.getD_some, Option.some.injEq, Try.f75, EVb, EVc, Int.reduceEq, Int.reduceToNat, Int.reduceLE, Int.reduceLT, Int.reduceAdd, Int.reduceMul, Int.reduceSub, Int.reduceNeg, Nat.reduceAdd, Nat.reduceSub, Nat.reduceMul, Nat.reduceLT, Nat.reduceBEq, Nat.reduceEqDiff, Nat.reduceLeDiff, FACTS, TYPES]
/-- The same behind an instruction. -/
theorem loop_needed_15 (kf : Nat) (ar : Option Nat) (pc : AObj) (X : Heap) (n : Nat) (rs : List Int) (nl : Bool) (cap : Option Nat) (hlen : rs.length ≤ 4611686018427387904) (hr : ∀ r ∈ rs, 0 ≤ r ∧ r < n) (as0 : List Bool) (ha0 : as0.length = n)
    (k : Nat) (l : Ass) (m : Nat) (z : Option Out) (hz : loopR Try.prog tab kf ar LB75_15 75 58 [3, 47, 48, 49] m k l (pc :: rB as0 :: .cells 64 [.hsl 1 0 n n 1] :: X) = z) (hm : X.length + 3 = m) (hk : rs.length < k)
    (h3 : asc l 3 = .ptr 2 0) (h47 : asc l 47 = sI rs nl cap) (h48 : asc l 48 = ii rs.length) (h49 : asc l 49 = ii (0 : Nat)) :
    z = some (.exit 4 (fr 58 [(50, bb false), (3, .ptr 2 0), (47, sI rs nl cap), (48, ii rs.length), (49, ii rs.length)]) (pc :: rB (mark as0 true rs) :: .cells 64 [.hsl 1 0 n n 1] :: X)) := by
  subst hz
  refine loop_nat rs.length (fun k l H => loopR Try.prog tab kf ar LB75_15 75 58 [3, 47, 48, 49] m k l H)
    (fun i l H => asc l 3 = .ptr 2 0 ∧ asc l 47 = sI rs nl cap ∧ asc l 48 = ii rs.length ∧ asc l 49 = ii i ∧ H = pc :: rB (mark as0 true (rs.take i)) :: .cells 64 [.hsl 1 0 n n 1] :: X)
    (fun z => z = some (.exit 4 (fr 58 [(50, bb false), (3, .ptr 2 0), (47, sI rs nl cap), (48, ii rs.length), (49, ii rs.length)]) (pc :: rB (mark as0 true rs) :: .cells 64 [.hsl 1 0 n n 1] :: X))) ?_ rs.length 0 k l _ (by omega) hk ⟨h3, h47, h48, h49, rfl⟩
  clear h3 h47 h48 h49 hk
  rintro i k l H hi ⟨h3, h47, h48, h49, rfl⟩
  have ht : ∀ q : List Bool, trim m (fr 58 (keep l [3, 47, 48, 49])) (pc :: rB q :: .cells 64 [.hsl 1 0 n n 1] :: X) = pc :: rB q :: .cells 64 [.hsl 1 0 n n 1] :: X := fun q => trim_same (by simp; omega)
  by_cases hc : i < rs.length
  · refine .inr ?_
    have hc' : ((i : Int) < rs.length) := by omega
    have hc0 : (0 : Int) ≤ i := by omega
    have hx := encInts_get hc
    have hw := wrap_succ hc hlen
    obtain ⟨x, hX⟩ : ∃ x, x = rs[i] := ⟨_, rfl⟩
    rw [← hX] at hx
    obtain ⟨x0, x1⟩ := hr x (by rw [hX]; exact List.getElem_mem hc)
    have hm : (mark as0 true (rs.take i)).length = n := by rw [mark_length]; exact ha0
    have hnx : mark as0 true (rs.take (i + 1)) = (mark as0 true (rs.take i)).set x.toNat true := by rw [List.take_succ_eq_append_getElem hc, mark_snoc, ← hX]
    have hxl : x.toNat < n := by omega
    have hel : (encB (mark as0 true (rs.take i))).length = n := by rw [encB_length, hm]
    simp only [loopR_succ, ht]
    simp only [h3, h47, h48, h49, hc', hc0, hx, hw, x0, x1, hel, hxl, encB_set, loopR_succ, loopOf, findLoop, firstRegion, Option.some_or, Option.none_or, Option.getD_some, Option.some.injEq, Try.f75, EVb, EVc, Int.reduceEq, Int.reduceToNat, Int.reduceLE, Int.reduceLT, Int.reduceAdd, Int.reduceMul, Int.reduceSub, Int.reduceNeg, Nat.reduceAdd, Nat.reduceSub, Nat.reduceMul, Nat.reduceLT, Nat.reduceBEq, Nat.reduceEqDiff, Nat.reduceLeDiff, FACTS, TYPES]
    exact ⟨_, _, hc, rfl, (by rfl), (by rfl), (by rfl), (by rfl), by rw [hnx]⟩
  · refine .inl ?_
    have hc' : ¬ ((i : Int) < rs.length) := by omega
    have he : rs.take i = rs := List.take_of_length_le (by omega)
    obtain rfl : i = rs.length := by omega
    simp only [loopR_succ, ht]
    simp only [h3, h47, h48, h49, hc', he, loopR_succ, loopOf, findLoop, firstRegion, Option.some_or, Option.none_or, Option.getD_some, Option.some.injEq, Try.f75, EVb, EVc, Int.reduceEq, Int.reduceToNat, Int.reduceLE, Int.reduceLT, Int.reduceAdd, Int.reduceMul, Int.reduceSub, Int.reduceNeg, Nat.reduceAdd, Nat.reduceSub, Nat.reduceMul, Nat.reduceLT, Nat.reduceBEq, Nat.reduceEqDiff, Nat.reduceLeDiff, FACTS, TYPES]
end Go.Proofs.Sw
