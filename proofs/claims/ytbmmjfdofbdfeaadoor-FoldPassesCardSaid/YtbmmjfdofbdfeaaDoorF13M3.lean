/- A part of the proof: what functions of the program answer, of whatever arguments, reckoned with letters by the interpreter's equations. Its conditions stand in each theorem. -/
import Derived.Test.YtbmmjfdofbdfeaaDoorF13M2

namespace Go.Proofs.F13
set_option linter.unusedVariables false
set_option linter.unusedSimpArgs false
set_option linter.unusedSectionVars false
open Go.Ab
/-- A slice of numbers. -/
abbrev sI (outs : List Int) (nl : Bool) (cap : Option Nat) : AV := .c (.slice (encInts outs) outs.length nl cap)
abbrev sC (code : List Ins) (nl : Bool) (cap : Option Nat) : AV := .c (.slice (encCode code) code.length nl cap)
theorem clone_ev (k : Nat) (outs : List Int) (nl : Bool) (cap : Option Nat) (ho : outs.length ≤ 1000000) : run (k+1) 30 [sI outs nl cap] = some (if nl = true then .c (.slice [] 0 true (some 0)) else sI outs false none) := by
  have hl := encInts_length outs
  have hs : srcOf [.row false 3 []] 1 (sI outs nl cap) = some (encInts outs, outs.length) := srcOf_c (by rw [hl]; omega)
  have ha : apO 3 1 8 (.hsl 0 0 0 0 1) [.row false 3 []] (some (encInts outs, outs.length)) = some (.hsl 0 0 outs.length outs.length 1, [.row false 3 (encInts outs)]) := by
    cases outs with
    | nil => rfl
    | cons o os =>
      have := apO_row (e := 3) (sz := 1) (by_ := 8) (m := (o :: os).length) (len := 0) (id := 0) (H := [.row false 3 []]) (cells := []) (cs := encInts (o :: os)) (by simp) (Nat.le_trans (Nat.mul_le_mul_right 8 (show 0 + (o :: os).length ≤ 1000000 by omega)) (by decide)) (by omega) rfl rfl
      simpa using this
  rw [run, ev30]
  simp only [Tryd.f30, sI, eqs23, hs, ha, EVb, EVc, Int.reduceEq, Int.reduceToNat, Int.reduceLE, Int.reduceLT, Int.reduceAdd, Int.reduceMul, Int.reduceSub, Int.reduceNeg, Nat.reduceAdd, Nat.reduceSub, Nat.reduceMul, Nat.reduceLT, Nat.reduceBEq, Nat.reduceEqDiff, Nat.reduceLeDiff, FACTS, TYPES]
  cases nl
  · simp only [hs, ha, hl, EVb, EVc, Int.reduceEq, Int.reduceToNat, Int.reduceLE, Int.reduceLT, Int.reduceAdd, Int.reduceMul, Int.reduceSub, Int.reduceNeg, Nat.reduceAdd, Nat.reduceSub, Nat.reduceMul, Nat.reduceLT, Nat.reduceBEq, Nat.reduceEqDiff, Nat.reduceLeDiff, FACTS, TYPES]
    simp only [Nat.mul_one, Nat.le_refl, if_true]
    rw [← hl, List.take_length]
  · simp only [EVb, EVc, Int.reduceEq, Int.reduceToNat, Int.reduceLE, Int.reduceLT, Int.reduceAdd, Int.reduceMul, Int.reduceSub, Int.reduceNeg, Nat.reduceAdd, Nat.reduceSub, Nat.reduceMul, Nat.reduceLT, Nat.reduceBEq, Nat.reduceEqDiff, Nat.reduceLeDiff, FACTS, TYPES]

/-! ### the pass -/
def nothing (i : Ins) : Bool := decide (i.op = 1 ∧ i.to = i.a)
/-- An instruction laid upon those that came of the ones ahead (the last one first). -/
def push : List Ins → Ins → List Ins
  | st, b => if nothing b = true then st else match st with
    | [] => [b]
    | x :: st' => match meltM x b with
      | some y => push st' y
      | none => b :: x :: st'
/-- How the list of those that came so far stands in memory. -/
def Stands (H : Heap) (n : Nat) (v : AV) (st : List Ins) : Prop :=
  (v = .c (.slice [] 0 true (some 0)) ∧ st = []) ∨
  ∃ (id j : Nat) (junk : List IV), v = .hsl id 0 st.length (encCode st.reverse ++ junk).length 5 ∧ junk.length = j * 5 ∧ id < n ∧ H[id]? = some (.row false 34 (encCode st.reverse ++ junk))
theorem encCode_top (st : List Ins) (x : Ins) (junk : List IV) : takeCells (encCode (x :: st).reverse ++ junk) (((st.length : Int) + 1 - 1).toNat * 5) 5 = some (enc1 x) := by
  have h := encCode_length st.reverse
  rw [List.length_reverse] at h
  have h2 : ((st.length : Int) + 1 - 1).toNat = st.length := by omega
  rw [takeCells_eq, h2, List.reverse_cons, encCode_append, List.append_assoc, ← h, List.drop_left, if_pos (by simp [encCode, enc1])]
  simp [encCode, enc1]
end Go.Proofs.F13
namespace Go.Proofs.F13
set_option linter.unusedVariables false
set_option linter.unusedSimpArgs false
set_option linter.unusedSectionVars false
open Go.Ab
theorem pow_small {c : Int} (h : powM c ≠ 0) : 1 ≤ powM c ∧ powM c ≤ 64 := by
  rcases pow_cases h with rfl | rfl | rfl | rfl | rfl | rfl | rfl | rfl | rfl <;> decide
theorem may_iff (i : Ins) (regs : Int) : mayM i regs = true ↔ (1 ≤ i.op ∧ i.op ≤ 8 ∧ 0 ≤ i.to ∧ i.to < regs ∧ (i.op = 3 ∨ i.op = 4 ∨ i.b = 0)) ∧ constant i = true ∧ (0 ≤ i.a ∧ i.a < regs) ∧ ((i.op = 3 ∨ i.op = 4) → 0 ≤ i.b ∧ i.b < regs) := by
  simp only [mayM, Bool.and_eq_true, decide_eq_true_eq, and_assoc]
theorem const_iff (i : Ins) : constant i = true ↔ ((i.op = 5 ∨ i.op = 6) → i.c ≠ 0 ∧ -512 ≤ i.c ∧ i.c ≤ 512) ∧ ((i.op = 7 ∨ i.op = 8) → 1 ≤ i.c ∧ i.c ≤ 64) ∧ ((i.op ≠ 5 ∧ i.op ≠ 6 ∧ i.op ≠ 7 ∧ i.op ≠ 8) → i.c = 0) := by
  unfold constant
  split
  · simp only [decide_eq_true_eq]; omega
  · split
    · simp only [decide_eq_true_eq]; omega
    · simp only [decide_eq_true_eq]; omega
theorem plain_may {i : Ins} {regs : Int} (h : mayM i regs = true) : mayM (plainM i) regs = true := by
  have h' := (may_iff _ _).1 h
  obtain ⟨h1, h2, h3, h4⟩ := h'
  unfold plainM
  split
  · split
    · rw [may_iff]; simp [constant]; omega
    · exact h
  · split
    · split
      · rw [may_iff]; simp [constant]; omega
      · split
        · rw [may_iff]; simp [constant]; omega
        · split
          · rename_i hp
            have := pow_small hp
            rw [may_iff]
            split <;> simp [constant] <;> omega
          · exact h
    · exact h
theorem plain_may_of {o t a b c regs : Int} (h : mayM ⟨o, t, a, b, c⟩ regs = true) : mayM (plainM ⟨o, t, a, b, c⟩) regs = true := plain_may h
theorem mul_ne {c d : Int} (h1 : c ≠ 0) (h2 : d ≠ 0) : c * d ≠ 0 := Int.mul_ne_zero h1 h2
theorem div_ne {c d : Int} (h1 : c ≠ 0) (h : c.tmod d = 0) : c.tdiv d ≠ 0 := by
  intro h2
  have := Int.tmod_add_mul_tdiv c d
  rw [h, h2] at this
  simp at this
  exact h1 this.symm
theorem small {regs a o t c : Int} (h1 : 1 ≤ o ∧ o ≤ 8) (ht : 0 ≤ t ∧ t < regs) (ha : 0 ≤ a ∧ a < regs) (ho : o ≠ 3 ∧ o ≠ 4) (hc : constant ⟨o, t, a, 0, c⟩ = true) : mayM ⟨o, t, a, 0, c⟩ regs = true := by
  rw [may_iff]
  exact ⟨⟨h1.1, h1.2, ht.1, ht.2, .inr (.inr rfl)⟩, hc, ha, fun h => by rcases h with h | h <;> (dsimp only at h; omega)⟩
theorem together_const {f c s d o x : Int} (hf : constant ⟨f, 0, 0, 0, c⟩ = true) (hs : constant ⟨s, 0, 0, 0, d⟩ = true) (f1 : 1 ≤ f ∧ f ≤ 8) (s1 : 1 ≤ s ∧ s ≤ 8) (s3 : s ≠ 3) (s4 : s ≠ 4) (h : together f c s d = some (o, x)) :
    (1 ≤ o ∧ o ≤ 8 ∧ o ≠ 3 ∧ o ≠ 4) ∧ ((o = 5 ∨ o = 6) → x ≠ 0 ∧ -512 ≤ x ∧ x ≤ 512) ∧ ((o = 7 ∨ o = 8) → 1 ≤ x ∧ x ≤ 64) ∧ ((o = 1 ∨ o = 2) → x = 0) := by
  have m0 := @mul_ne c d
  have d0 := @div_ne c d
  have d1 := @div_ne d c
  have fo : f = 1 ∨ f = 2 ∨ f = 3 ∨ f = 4 ∨ f = 5 ∨ f = 6 ∨ f = 7 ∨ f = 8 := by omega
  have so : s = 1 ∨ s = 2 ∨ s = 5 ∨ s = 6 ∨ s = 7 ∨ s = 8 := by omega
  unfold together fits at h
  rcases fo with rfl | rfl | rfl | rfl | rfl | rfl | rfl | rfl <;> rcases so with rfl | rfl | rfl | rfl | rfl | rfl <;> simp [constant] at hf hs h
  all_goals (try (repeat' (split at h)))
  all_goals (try simp at h)
  all_goals (try (obtain ⟨rfl, rfl⟩ := h))
  all_goals first
    | omega
    | (have q1 := @small_div c d (by omega) (by omega); have q2 := @small_div d c (by omega) (by omega); have d0' := d0 (by omega); have d1' := d1 (by omega); omega)
    | skip
theorem melt_may {y x z : Ins} {regs : Int} (hy : mayM y regs = true) (hx : mayM x regs = true) (h : meltM y x = some z) : mayM z regs = true := by
  unfold meltM at h
  split at h
  · cases h
  · rename_i hne
    simp only [not_or, ne_eq, Classical.not_not] at hne
    obtain ⟨n1, n2, n3, n4⟩ := hne
    obtain ⟨⟨o, c⟩, ht, rfl⟩ := Option.map_eq_some_iff.1 h
    apply plain_may
    have y' := (may_iff _ _).1 hy
    have x' := (may_iff _ _).1 hx
    obtain ⟨y1, y2, y3, y4⟩ := y'
    obtain ⟨x1, x2, x3, x4⟩ := x'
    obtain ⟨a1, a2, a3, a4⟩ := together_const (f := y.op) (c := y.c) (s := x.op) (d := x.c) y2 x2 ⟨y1.1, y1.2.1⟩ ⟨x1.1, x1.2.1⟩ n1 n2 ht
    refine small ⟨a1.1, a1.2.1⟩ ⟨x1.2.2.1, x1.2.2.2.1⟩ y3 ⟨a1.2.2.1, a1.2.2.2⟩ ?_
    rw [const_iff]
    exact ⟨a2, a3, fun h => a4 (by dsimp only at h; omega)⟩
end Go.Proofs.F13
namespace Go.Proofs.F13
set_option linter.unusedVariables false
set_option linter.unusedSimpArgs false
set_option linter.unusedSectionVars false
open Go.Ab
abbrev cI (x : Ins) : AObj := .cells 34 [ii x.op, ii x.to, ii x.a, ii x.b, ii x.c]
theorem Stands.keep {H H' : Heap} {n : Nat} {v : AV} {st : List Ins} (h : Stands H n v st) (hk : ∀ i, i < n → H'[i]? = H[i]?) : Stands H' n v st := by
  rcases h with h | ⟨id, j, junk, h1, h2, h3, h4⟩
  · exact .inl h
  · exact .inr ⟨id, j, junk, h1, h2, h3, by rw [hk id h3]; exact h4⟩
theorem push_nothing {st : List Ins} {b : Ins} (h : nothing b = true) : push st b = st := by
  unfold push; rw [if_pos h]
theorem push_nil {b : Ins} (h : nothing b = false) : push [] b = [b] := by
  unfold push; rw [if_neg (by rw [h]; simp)]
theorem push_none {st : List Ins} {x b : Ins} (h : nothing b = false) (hm : meltM x b = none) : push (x :: st) b = b :: x :: st := by
  unfold push; rw [if_neg (by rw [h]; simp)]; simp only [hm]
theorem push_some {st : List Ins} {x b y : Ins} (h : nothing b = false) (hm : meltM x b = some y) : push (x :: st) b = push st y := by
  rw [push, if_neg (by rw [h]; simp)]; simp only [hm]
theorem Stands.pop {H : Heap} {id n : Nat} {y : Ins} {st : List Ins} {junk : List IV} {j : Nat} (hj : junk.length = j * 5) (hid : id < n) (h : H[id]? = some (.row false 34 (encCode (y :: st).reverse ++ junk))) :
    Stands H n (.hsl id 0 st.length (encCode (y :: st).reverse ++ junk).length 5) st := by
  have e : encCode (y :: st).reverse ++ junk = encCode st.reverse ++ (enc1 y ++ junk) := by
    rw [List.reverse_cons, encCode_append, List.append_assoc]; simp [encCode]
  rw [e] at h ⊢
  exact .inr ⟨id, j + 1, enc1 y ++ junk, rfl, by simp [enc1, hj]; omega, hid, h⟩
theorem loop11_9 (kf : Nat) (hkf : 7 ≤ kf) (b : Code) (hb : loopOf Tryd.f11 9 = b) (regs : Int) (v1 v2 v22 v23 v24 : AV) (L j : Nat) (o0 o1 : AObj) (hj : j < L) (hj1 : 1 < j) :
    ∀ (st : List Ins) (x : Ins) (k : Nat) (l : Ass) (H : Heap) (v : AV) (z : Option Out), loopL Tryd.prog tab kf 11 b 76 [1, 2, 6, 9, 22, 23, 24] L k l H = z →
    st.length < k → st.length < 1000000 → L ≤ H.length → (∀ i ∈ st, mayM i regs = true) → mayM x regs = true →
    asc l 1 = v1 → asc l 2 = v2 → asc l 22 = v22 → asc l 23 = v23 → asc l 24 = v24 → asc l 6 = v → asc l 9 = .ptr j 0 → Stands H L v st → H[j]? = some (cI x) → H[0]? = some o0 → H[1]? = some o1 →
    ∃ l' H' v' st', L ≤ H'.length ∧ H'[0]? = some o0 ∧ H'[1]? = some o1 ∧ asc l' 1 = v1 ∧ asc l' 2 = v2 ∧ asc l' 22 = v22 ∧ asc l' 23 = v23 ∧ asc l' 24 = v24 ∧ asc l' 6 = v' ∧ Stands H' L v' st' ∧ st'.length ≤ st.length ∧ (∀ i ∈ st', mayM i regs = true) ∧
      ((z = some (.exit 1 (fr 76 l') H') ∧ push st x = st') ∨
       ∃ x', z = some (.exit 2 (fr 76 l') H') ∧ push st x = x' :: st' ∧ asc l' 9 = .ptr j 0 ∧ H'[j]? = some (cI x') ∧ mayM x' regs = true) := by
  have hev : ∀ F H, evalCode Tryd.prog (cxF Tryd.prog (mkHints tab) kf 11) b F H = evalCode Tryd.prog (cxF Tryd.prog (mkHints tab) kf 11) (loopOf Tryd.f11 9) F H := fun _ _ => by rw [hb]
  obtain ⟨kf, rfl⟩ : ∃ j, kf = j + 7 := ⟨kf - 7, by omega⟩
  intro st
  induction st with
  | nil =>
    intro x k l H v z hz hk hk2 hLH hst hx h1 h2 h22 h23 h24 h6 h9 hS gj g0 g1
    obtain ⟨k, rfl⟩ : ∃ j, k = j + 1 := ⟨k - 1, by simp at hk; omega⟩
    obtain ⟨H1, ht, hl1, hold⟩ := trim_old (F := fr 76 (keep l [1, 2, 6, 9, 22, 23, 24])) hLH
    have hS1 := hS.keep hold
    rw [← hold j hj] at gj
    rw [← hold 0 (by omega)] at g0
    rw [← hold 1 (by omega)] at g1
    clear hold hLH hS
    have hlen : lenA Tryd.prog 22 v = some (ii 0) := by
      rcases hS1 with ⟨rfl, _⟩ | ⟨id, j', junk, rfl, _⟩
      · exact ln22 _ _ _ _
      · exact lnh22 _ _ _ _ _
    by_cases hn : nothing x = true
    · have hn' : x.op = 1 ∧ x.to = x.a := by simpa [nothing] using hn
      simp only [loopL_succ, hev, ht] at hz
      simp only [h1, h2, h22, h23, h24, h6, h9, gj, hn'.1, hn'.2, loopL_succ, loopOf, findLoop, firstRegion, Option.some_or, Option.none_or, Option.getD_some, Option.some.injEq, Tryd.f11, EVb, EVc, Int.reduceEq, Int.reduceToNat, Int.reduceLE, Int.reduceLT, Int.reduceAdd, Int.reduceMul, Int.reduceSub, Int.reduceNeg, Nat.reduceAdd, Nat.reduceSub, Nat.reduceMul, Nat.reduceLT, Nat.reduceBEq, Nat.reduceEqDiff, Nat.reduceLeDiff, FACTS] at hz
      exact ⟨_, H1, v, [], hl1, g0, g1, (by rfl), (by rfl), (by rfl), (by rfl), (by rfl), (by rfl), hS1, Nat.le_refl _, (by simp), Or.inl ⟨hz.symm, push_nothing hn⟩⟩
    · have hn2 : nothing x = false := by simpa using hn
      simp only [loopL_succ, hev, ht] at hz
      by_cases hop : x.op = 1
      · have hto : ¬ x.to = x.a := fun h => hn (by simp [nothing, hop, h])
        simp only [h1, h2, h22, h23, h24, h6, h9, gj, hop, hto, hlen, loopL_succ, loopOf, findLoop, firstRegion, Option.some_or, Option.none_or, Option.getD_some, Option.some.injEq, Tryd.f11, EVb, EVc, Int.reduceEq, Int.reduceToNat, Int.reduceLE, Int.reduceLT, Int.reduceAdd, Int.reduceMul, Int.reduceSub, Int.reduceNeg, Nat.reduceAdd, Nat.reduceSub, Nat.reduceMul, Nat.reduceLT, Nat.reduceBEq, Nat.reduceEqDiff, Nat.reduceLeDiff, FACTS] at hz
        exact ⟨_, H1, v, [], hl1, g0, g1, (by rfl), (by rfl), (by rfl), (by rfl), (by rfl), (by rfl), hS1, Nat.le_refl _, (by simp), Or.inr ⟨x, hz.symm, push_nil hn2, (by rfl), gj, hx⟩⟩
      · simp only [h1, h2, h22, h23, h24, h6, h9, gj, hop, hlen, loopL_succ, loopOf, findLoop, firstRegion, Option.some_or, Option.none_or, Option.getD_some, Option.some.injEq, Tryd.f11, EVb, EVc, Int.reduceEq, Int.reduceToNat, Int.reduceLE, Int.reduceLT, Int.reduceAdd, Int.reduceMul, Int.reduceSub, Int.reduceNeg, Nat.reduceAdd, Nat.reduceSub, Nat.reduceMul, Nat.reduceLT, Nat.reduceBEq, Nat.reduceEqDiff, Nat.reduceLeDiff, FACTS] at hz
        exact ⟨_, H1, v, [], hl1, g0, g1, (by rfl), (by rfl), (by rfl), (by rfl), (by rfl), (by rfl), hS1, Nat.le_refl _, (by simp), Or.inr ⟨x, hz.symm, push_nil hn2, (by rfl), gj, hx⟩⟩
  | cons y st ih =>
    intro x k l H v z hz hk hk2 hLH hst hx h1 h2 h22 h23 h24 h6 h9 hS gj g0 g1
    obtain ⟨k, rfl⟩ : ∃ j, k = j + 1 := ⟨k - 1, by simp at hk; omega⟩
    obtain ⟨H1, ht, hl1, hold⟩ := trim_old (F := fr 76 (keep l [1, 2, 6, 9, 22, 23, 24])) hLH
    have hS1 := hS.keep hold
    rw [← hold j hj] at gj
    rw [← hold 0 (by omega)] at g0
    rw [← hold 1 (by omega)] at g1
    clear hold hLH hS
    have hS2 := hS1
    rcases hS1 with ⟨_, hbad⟩ | ⟨id, jj, junk, hv, hjj, hid, gid⟩
    · cases hbad
    have hy := hst y (by simp)
    obtain ⟨N, hN⟩ : ∃ N, N = (y :: st).length := ⟨_, rfl⟩
    obtain ⟨CC, hCC⟩ : ∃ CC, CC = encCode (y :: st).reverse ++ junk := ⟨_, rfl⟩
    rw [← hN, ← hCC] at hv
    rw [← hCC] at gid
    rw [hv] at h6 hS2
    have hN1 : N = st.length + 1 := hN
    have hne : ¬ (N : Int) = 0 := by omega
    by_cases hn : nothing x = true
    · have hn' : x.op = 1 ∧ x.to = x.a := by simpa [nothing] using hn
      simp only [loopL_succ, hev, ht] at hz
      simp only [h1, h2, h22, h23, h24, h6, h9, gj, hn'.1, hn'.2, loopL_succ, loopOf, findLoop, firstRegion, Option.some_or, Option.none_or, Option.getD_some, Option.some.injEq, Tryd.f11, EVb, EVc, Int.reduceEq, Int.reduceToNat, Int.reduceLE, Int.reduceLT, Int.reduceAdd, Int.reduceMul, Int.reduceSub, Int.reduceNeg, Nat.reduceAdd, Nat.reduceSub, Nat.reduceMul, Nat.reduceLT, Nat.reduceBEq, Nat.reduceEqDiff, Nat.reduceLeDiff, FACTS] at hz
      exact ⟨_, H1, _, y :: st, hl1, g0, g1, (by rfl), (by rfl), (by rfl), (by rfl), (by rfl), (by rfl), hS2, Nat.le_refl _, hst, Or.inl ⟨hz.symm, push_nothing hn⟩⟩
    · have hn2 : nothing x = false := by simpa using hn
      have hw : IntKind.wrap .i64 ((N : Int) - 1) = (st.length : Int) := by rw [wrap64 (by omega) (by simp at hk2; omega)]; omega
      have hc1 : (0 : Int) ≤ st.length := by omega
      have hc2 : (st.length : Int) < (N : Int) := by omega
      have htk := encCode_top st y junk
      rw [← hCC, takeCells_eq] at htk
      rw [show ((st.length : Int) + 1 - 1).toNat = (st.length : Int).toNat by omega] at htk
      have gj' : ∀ o, (H1 ++ [o])[j]? = some (cI x) := fun o => concat_old gj
      have gid' : ∀ o, (H1 ++ [o])[id]? = some (.row false 34 CC) := fun o => concat_old gid
      have hM := melt_ev kf y.op y.to y.a y.b y.c x.op x.to x.a x.b x.c (two_of_may hy hx)
      have hnot : ¬ (x.op = 1 ∧ x.to = x.a) := fun h => hn (by simp [nothing, h])
      have hto : x.op = 1 → ¬ x.to = x.a := fun a b => hnot ⟨a, b⟩
      cases hm : meltM y x with
      | none =>
        rw [show meltM ⟨y.op, y.to, y.a, y.b, y.c⟩ ⟨x.op, x.to, x.a, x.b, x.c⟩ = none from hm] at hM
        simp only [duo, run, encI, aI, ii, bb, zI] at hM
        simp only [loopL_succ, hev, ht] at hz
        by_cases hop : x.op = 1 <;>
        · try simp only [hop] at hM
          simp only [h1, h2, h22, h23, h24, h6, h9, gj, hop, hto, hne, loopL_succ, loopOf, findLoop, firstRegion, Option.some_or, Option.none_or, Option.getD_some, Option.some.injEq, Tryd.f11, EVb, EVc, Int.reduceEq, Int.reduceToNat, Int.reduceLE, Int.reduceLT, Int.reduceAdd, Int.reduceMul, Int.reduceSub, Int.reduceNeg, Nat.reduceAdd, Nat.reduceSub, Nat.reduceMul, Nat.reduceLT, Nat.reduceBEq, Nat.reduceEqDiff, Nat.reduceLeDiff, FACTS] at hz
          rw [evalCode_drawn Tryd.f11 11 dr11_11] at hz; rotate_left; rfl
          simp only [gj, gj', gid, gid', hop, hw, hc1, hc2, htk, hM, enc1, concat_at, concat_set, EVd, Nat.reducePow, Nat.reduceDiv, Nat.reduceMod, EVb, EVc, Int.reduceEq, Int.reduceToNat, Int.reduceLE, Int.reduceLT, Int.reduceAdd, Int.reduceMul, Int.reduceSub, Int.reduceNeg, Nat.reduceAdd, Nat.reduceSub, Nat.reduceMul, Nat.reduceLT, Nat.reduceBEq, Nat.reduceEqDiff, Nat.reduceLeDiff, FACTS, TYPES] at hz
          exact ⟨_, _, _, y :: st, (by simp; omega), concat_old g0, concat_old g1, (by rfl), (by rfl), (by rfl), (by rfl), (by rfl), (by rfl), hS2.keep (fun i hi => List.getElem?_append_left (by omega)), Nat.le_refl _, hst, Or.inr ⟨x, hz.symm, push_none hn2 hm, (by rfl), (gj' _), hx⟩⟩
      | some w =>
        rw [show meltM ⟨y.op, y.to, y.a, y.b, y.c⟩ ⟨x.op, x.to, x.a, x.b, x.c⟩ = some w from hm] at hM
        simp only [duo, run, encI, aI, ii, bb] at hM
        have hsl : ∀ o, sliceA Tryd.prog (H1 ++ [o]) 22 (.hsl id 0 N CC.length 5) none (some (.c (.int .i64 (st.length : Int)))) none = some (.hsl id 0 st.length CC.length 5) := by
          intro o
          rw [sl22]
          have h1 : (rowOf (H1 ++ [o]) id CC.length).isSome = true := by
            rw [rowOf_eq (gid' o) rfl]; rfl
          have h2 : 0 + st.length * 5 ≤ CC.length := by
            rw [hCC, List.length_append, encCode_length]; simp; omega
          simp only [sliceO, boundA, hc1, if_true, Option.bind_some, Int.toNat_natCast]
          rw [if_pos ⟨Nat.zero_le _, h2, by omega, trivial, h1⟩]
          simp
        simp only [loopL_succ, hev, ht] at hz
        by_cases hop : x.op = 1 <;>
        · try simp only [hop] at hM
          simp only [h1, h2, h22, h23, h24, h6, h9, gj, hop, hto, hne, loopL_succ, loopOf, findLoop, firstRegion, Option.some_or, Option.none_or, Option.getD_some, Option.some.injEq, Tryd.f11, EVb, EVc, Int.reduceEq, Int.reduceToNat, Int.reduceLE, Int.reduceLT, Int.reduceAdd, Int.reduceMul, Int.reduceSub, Int.reduceNeg, Nat.reduceAdd, Nat.reduceSub, Nat.reduceMul, Nat.reduceLT, Nat.reduceBEq, Nat.reduceEqDiff, Nat.reduceLeDiff, FACTS] at hz
          rw [evalCode_drawn Tryd.f11 11 dr11_11] at hz; rotate_left; rfl
          simp only [gj, gj', gid, gid', hop, hw, hc1, hc2, htk, hM, hsl, enc1, concat_at, concat_set, EVd, Nat.reducePow, Nat.reduceDiv, Nat.reduceMod, EVb, EVc, Int.reduceEq, Int.reduceToNat, Int.reduceLE, Int.reduceLT, Int.reduceAdd, Int.reduceMul, Int.reduceSub, Int.reduceNeg, Nat.reduceAdd, Nat.reduceSub, Nat.reduceMul, Nat.reduceLT, Nat.reduceBEq, Nat.reduceEqDiff, Nat.reduceLeDiff, FACTS, TYPES] at hz
          have hjl : j < (H1 ++ [cI w]).length := by simp; omega
          have hnid : id ≠ j := by intro e; subst e; rw [gj] at gid; cases gid
          have hold2 : ∀ i, i < L → i ≠ j → ((H1 ++ [cI w]).set j (cI w))[i]? = H1[i]? := fun i hi hne => by
            rw [List.getElem?_set_ne (Ne.symm hne)]; exact List.getElem?_append_left (by omega)
          obtain ⟨l', H', v', st', e1, e2, e3, e4, e5, e6, e7, e8, e9, e10, e11, e12, e13⟩ := ih w k _ _ _ z hz (by simp at hk; omega) (by simp at hk2; omega) (by simp; omega) (fun i hi => hst i (by simp [hi])) (melt_may hy hx hm) (by rfl) (by rfl) (by rfl) (by rfl) (by rfl) (by rfl) (by rfl)
            (hCC ▸ Stands.pop (n := L) (y := y) (st := st) (junk := junk) hjj hid (by rw [← hCC, hold2 id hid hnid]; exact gid)) (List.getElem?_set_self hjl) ((hold2 0 (by omega) (by omega)).trans g0) ((hold2 1 (by omega) (by omega)).trans g1)
          refine ⟨l', H', v', st', e1, e2, e3, e4, e5, e6, e7, e8, e9, e10, by simp; omega, e12, ?_⟩
          rw [push_some hn2 hm]
          exact e13
end Go.Proofs.F13
namespace Go.Proofs.F13
set_option linter.unusedVariables false
set_option linter.unusedSimpArgs false
set_option linter.unusedSectionVars false
open Go.Ab
theorem append_stands {H : Heap} {n : Nat} {v : AV} {st : List Ins} {x : Ins} (h : Stands H n v st) (hn : n ≤ H.length) (hlen : st.length < 1000000) :
    ∃ v' H', apO 34 5 40 v H (some (enc1 x, 1)) = some (v', H') ∧ Stands H' H'.length v' (x :: st) ∧ H.length ≤ H'.length ∧ ∀ (i : Nat) (t : TypeId) (cs : List AV), H[i]? = some (AObj.cells t cs) → H'[i]? = some (AObj.cells t cs) := by
  have he : encCode (x :: st).reverse = encCode st.reverse ++ enc1 x := by
    rw [List.reverse_cons, encCode_append]; simp [encCode]
  have hl : (encCode st.reverse).length = st.length * 5 := by rw [encCode_length, List.length_reverse]
  have hb : (st.length + 1) * 40 ≤ roomBytes := by unfold roomBytes; omega
  rcases h with ⟨rfl, rfl⟩ | ⟨id, j, junk, rfl, hj, hid, hr⟩
  · refine ⟨_, _, apO_nil (by omega) (by decide), .inr ⟨H.length, 0, [], ?_, rfl, by simp, ?_⟩, by simp, fun i t cs hi => concat_old hi⟩
    · simp [encCode, enc1]
    · simp [encCode, enc1]
  · have hcl : (encCode st.reverse ++ junk).length = st.length * 5 + j * 5 := by rw [List.length_append, hl, hj]
    have h1 : rowOf H id (encCode st.reverse ++ junk).length = some (34, encCode st.reverse ++ junk) := rowOf_eq hr rfl
    have h2 : rowLive H id = true := by unfold rowLive; rw [hr]
    have htake : (encCode st.reverse ++ junk).take (st.length * 5) = encCode st.reverse := by rw [← hl, List.take_left]
    have hil : id < H.length := by omega
    have hold : ∀ (o : AObj) (i : Nat) (t : TypeId) (cs : List AV), H[i]? = some (.cells t cs) → (H.set id o)[i]? = some (.cells t cs) := by
      intro o i t cs hi
      rw [List.getElem?_set_ne (by intro e; subst e; rw [hr] at hi; cases hi)]
      exact hi
    by_cases hin : (st.length + 1) * 5 ≤ (encCode st.reverse ++ junk).length
    · refine ⟨.hsl id 0 (st.length + 1) (encCode st.reverse ++ junk).length 5, H.set id (.row false 34 (encCode (x :: st).reverse ++ junk.drop 5)), ?_, .inr ⟨id, j - 1, junk.drop 5, ?_, ?_, ?_, ?_⟩, ?_, hold _⟩
      · have hdrop : (encCode st.reverse ++ junk).drop ((st.length + 1) * 5) = junk.drop 5 := by
          rw [show (st.length + 1) * 5 = (encCode st.reverse).length + 5 by rw [hl]; omega, List.drop_append, List.drop_eq_nil_of_le (by omega), List.nil_append, Nat.add_sub_cancel_left]
        simp only [apO, Option.bind_some, h1]
        rw [if_neg (by omega), if_pos ⟨trivial, trivial, by omega, hb, trivial, h2⟩, if_pos hin, htake, hdrop, he]
      · rw [he]; simp [enc1, hj]; simp [hcl] at hin; omega
      · rw [List.length_drop, hj]; omega
      · rw [List.length_set]; exact hil
      · exact List.getElem?_set_self hil
      · rw [List.length_set]; exact Nat.le_refl _
    · have hj0 : j = 0 := by rw [hcl] at hin; omega
      subst hj0
      have hjk : junk = [] := List.eq_nil_of_length_eq_zero (by omega)
      subst hjk
      refine ⟨.hsl id 0 (st.length + 1) ((st.length + 1) * 5) 5, H.set id (.row false 34 (encCode (x :: st).reverse ++ [])), ?_, .inr ⟨id, 0, [], ?_, rfl, ?_, ?_⟩, ?_, hold _⟩
      · simp only [apO, Option.bind_some, h1]
        rw [if_neg (by omega), if_pos ⟨trivial, trivial, by omega, hb, trivial, h2⟩, if_neg hin, htake, he, List.append_nil]
      · rw [List.append_nil, encCode_length]; simp
      · rw [List.length_set]; exact hil
      · exact List.getElem?_set_self hil
      · rw [List.length_set]; exact Nat.le_refl _
theorem outer_trim {H : Heap} {l : Ass} {v : AV} {st : List Ins} {t0 t1 : TypeId} {c0 c1 : List AV} (h6 : asc l 6 = v) (hS : Stands H H.length v st) (g0 : H[0]? = some (.cells t0 c0)) (g1 : H[1]? = some (.cells t1 c1)) :
    ∃ H1, trim 2 (fr 76 l) H = H1 ∧ Stands H1 H1.length v st ∧ H1[0]? = some (.cells t0 c0) ∧ H1[1]? = some (.cells t1 c1) ∧ 2 ≤ H1.length := by
  have hl : 2 ≤ H.length := by have := (List.getElem?_eq_some_iff.1 g1).1; omega
  unfold trim
  split
  · rename_i hc
    refine ⟨_, rfl, ?_, by rw [List.getElem?_take_of_lt (by omega)]; exact g0, by rw [List.getElem?_take_of_lt (by omega)]; exact g1, by simp; omega⟩
    rcases hS with h | ⟨id, j, junk, rfl, hj, hid, hr⟩
    · exact .inl h
    · exfalso
      have h1 := PT.all_get (p := AV.under 2) rfl _ hc.1 6
      have h2 : (fr 76 l).t.get 6 = asc l 6 := get_fr (by omega)
      rw [h2, h6, under_hsl, decide_eq_true_eq] at h1
      rcases (show id = 0 ∨ id = 1 by omega) with rfl | rfl
      · rw [g0] at hr; cases hr
      · rw [g1] at hr; cases hr
  · exact ⟨_, rfl, hS, g0, g1, hl⟩
end Go.Proofs.F13
namespace Go.Proofs.F13
set_option linter.unusedVariables false
set_option linter.unusedSimpArgs false
set_option linter.unusedSectionVars false
open Go.Ab
theorem Stands.mono {H : Heap} {n m : Nat} {v : AV} {st : List Ins} (h : Stands H n v st) (hm : n ≤ m) : Stands H m v st := by
  rcases h with h | ⟨id, j, junk, h1, h2, h3, h4⟩
  · exact .inl h
  · exact .inr ⟨id, j, junk, h1, h2, by omega, h4⟩
theorem loop11_6 (kf : Nat) (b : Code) (hb : loopOf Tryd.f11 6 = b) (regs : Int) (nl : Bool) (cap : Option Nat) (code : List Ins) (hcode : ∀ i ∈ code, mayM i regs = true) (hlen : code.length ≤ 16384) (hkf : code.length + 10 ≤ kf) (c0 c1 : List AV) :
    ∀ (rest pre st : List Ins) (k : Nat) (l : Ass) (H : Heap) (v : AV) (z : Option Out), loopL Tryd.prog tab kf 11 b 76 [1, 2, 6, 22, 23, 24] 2 k l H = z →
    code = pre ++ rest → rest.length < k → st.length ≤ pre.length → (∀ i ∈ st, mayM i regs = true) → asc l 1 = .ptr 0 0 → asc l 2 = .ptr 1 0 → asc l 6 = v → asc l 22 = sC code nl cap → asc l 23 = ii code.length → asc l 24 = ii pre.length →
    Stands H H.length v st → H[0]? = some (.cells 25 c0) → H[1]? = some (.cells 25 c1) →
    ∃ l' H' v', z = some (.exit 0 (fr 76 l') H') ∧ asc l' 1 = .ptr 0 0 ∧ asc l' 2 = .ptr 1 0 ∧ asc l' 6 = v' ∧ Stands H' H'.length v' (rest.foldl (fun st i => push st (plainM i)) st) ∧ H'[0]? = some (.cells 25 c0) ∧ H'[1]? = some (.cells 25 c1) := by
  have hev : ∀ F H, evalCode Tryd.prog (cxF Tryd.prog (mkHints tab) kf 11) b F H = evalCode Tryd.prog (cxF Tryd.prog (mkHints tab) kf 11) (loopOf Tryd.f11 6) F H := fun _ _ => by rw [hb]
  obtain ⟨kf, rfl⟩ : ∃ j, kf = j + 7 := ⟨kf - 7, by omega⟩
  intro rest
  induction rest with
  | nil =>
    intro pre st k l H v z hz he hk hst hms h1 h2 h6 h22 h23 h24 hS g0 g1
    obtain ⟨k, rfl⟩ : ∃ j, k = j + 1 := ⟨k - 1, by simp at hk; omega⟩
    have hc : ¬ ((pre.length : Int) < code.length) := by rw [he]; simp
    obtain ⟨H1, ht, hS1, g0, g1, hl1⟩ := outer_trim (l := keep l [1, 2, 6, 22, 23, 24]) (by rw [keep_asc]; exact h6) hS g0 g1
    simp only [loopL_succ, hev, ht] at hz
    simp only [h1, h2, h6, h22, h23, h24, hc, loopL_succ, loopOf, findLoop, firstRegion, Option.some_or, Option.none_or, Option.getD_some, Option.some.injEq, Tryd.f11, EVb, EVc, Int.reduceEq, Int.reduceToNat, Int.reduceLE, Int.reduceLT, Int.reduceAdd, Int.reduceMul, Int.reduceSub, Int.reduceNeg, Nat.reduceAdd, Nat.reduceSub, Nat.reduceMul, Nat.reduceLT, Nat.reduceBEq, Nat.reduceEqDiff, Nat.reduceLeDiff, FACTS] at hz
    exact ⟨_, H1, v, hz.symm, (by rfl), (by rfl), (by rfl), hS1, g0, g1⟩
  | cons i rest ih =>
    intro pre st k l H v z hz he hk hst hms h1 h2 h6 h22 h23 h24 hS g0 g1
    obtain ⟨k, rfl⟩ : ∃ j, k = j + 1 := ⟨k - 1, by simp at hk; omega⟩
    have hc : ((pre.length : Int) < code.length) := by rw [he]; simp; omega
    have hc0 : (0 : Int) ≤ pre.length := by omega
    have hx := encCode_at pre rest i
    rw [← he, takeCells_eq] at hx
    have hpl : pre.length ≤ 16384 := by rw [he] at hlen; simp at hlen; omega
    have hw : IntKind.wrap .i64 ((pre.length : Int) + 1) = ((pre ++ [i]).length : Int) := by rw [wrap64 (by omega) (by omega)]; simp
    obtain ⟨H1, ht, hS1, g0, g1, hl1⟩ := outer_trim (l := keep l [1, 2, 6, 22, 23, 24]) (by rw [keep_asc]; exact h6) hS g0 g1
    have hi := hcode i (by rw [he]; simp)
    obtain ⟨o, t, a, b', c⟩ := i
    have hp := plain_ev (kf + 1) o t a b' c (may_c hi).1
    simp only [run, encI, aI, ii] at hp
    simp only [loopL_succ, hev, ht] at hz
    simp only [h1, h2, h6, h22, h23, h24, hc, hc0, hx, enc1, hp, concat_at, concat_set, loopL_succ, loopOf, findLoop, firstRegion, Option.some_or, Option.none_or, Option.getD_some, Option.some.injEq, Tryd.f11, EVb, EVc, Int.reduceEq, Int.reduceToNat, Int.reduceLE, Int.reduceLT, Int.reduceAdd, Int.reduceMul, Int.reduceSub, Int.reduceNeg, Nat.reduceAdd, Nat.reduceSub, Nat.reduceMul, Nat.reduceLT, Nat.reduceBEq, Nat.reduceEqDiff, Nat.reduceLeDiff, FACTS, TYPES] at hz
    rw [evalCode_loopOf Tryd.f11 9 lp11_9] at hz; rotate_left; rfl; rfl
    generalize hz2 : loopL _ _ _ _ _ _ _ _ _ _ _ = z2 at hz
    have hi2 := plain_may hi
    obtain ⟨l', H', v', st', e1, e2, e3, e4, e5, e6, e7, e8, e9, e10, e11, e12, e13⟩ := loop11_9 (kf + 7) (by omega) (loopOf Tryd.f11 9) rfl regs _ _ _ _ _ (H1 ++ [cI ⟨o, t, a, b', c⟩] ++ [cI (plainM ⟨o, t, a, b', c⟩)]).length (H1 ++ [cI ⟨o, t, a, b', c⟩]).length _ _ (by simp) (by simp; omega) st (plainM ⟨o, t, a, b', c⟩) _ _ _ v _ hz2 (by omega) (by omega) (Nat.le_refl _) hms hi2
      (by rfl) (by rfl) (by rfl) (by rfl) (by rfl) (by rfl) (by rfl) ((hS1.keep (fun i hi => by rw [List.getElem?_append_left (by simp; omega), List.getElem?_append_left hi])).mono (by simp)) (by rw [concat_at]) (concat_old (concat_old g0)) (concat_old (concat_old g1))
    obtain ⟨L, hL⟩ : ∃ L, L = (H1 ++ [cI ⟨o, t, a, b', c⟩] ++ [cI (plainM ⟨o, t, a, b', c⟩)]).length := ⟨_, rfl⟩
    rw [← hL] at e1 e10
    have hL2 : L = H1.length + 2 := by rw [hL]; simp
    clear hL
    rcases e13 with ⟨rfl, hpush⟩ | ⟨x', rfl, hpush, e14, e15, e16⟩
    · simp only [e4, e5, e6, e7, e8, e9, hw, EVb, EVc, Int.reduceEq, Int.reduceToNat, Int.reduceLE, Int.reduceLT, Int.reduceAdd, Int.reduceMul, Int.reduceSub, Int.reduceNeg, Nat.reduceAdd, Nat.reduceSub, Nat.reduceMul, Nat.reduceLT, Nat.reduceBEq, Nat.reduceEqDiff, Nat.reduceLeDiff, FACTS, TYPES] at hz
      obtain ⟨l2, H2, v2, q1, q2, q3, q4, q5, q6, q7⟩ := ih (pre ++ [⟨o, t, a, b', c⟩]) st' k _ _ v' z hz (by rw [he]; simp) (by simp at hk; omega) (by simp; omega) e12 (by exact e4) (by exact e5) (by exact e9) (by exact e6) (by exact e7) (by rfl) (e10.mono e1) e2 e3
      refine ⟨l2, H2, v2, q1, q2, q3, q4, ?_, q6, q7⟩
      rw [List.foldl_cons, hpush]
      exact q5
    · obtain ⟨v3, H3, ha, hS3, hl3, hold3⟩ := append_stands (x := x') (H := H' ++ [.row false 34 (enc1 x')]) (e10.keep (fun i hi => List.getElem?_append_left (by omega))) (by simp; omega) (by omega)
      have hsrc : srcOf (H' ++ [.row false 34 (enc1 x')]) 5 (.hsl H'.length 0 1 5 5) = some (enc1 x', 1) := srcOf_row (len := 1) concat_at rfl
      simp only [enc1] at ha hsrc
      simp only [e4, e5, e6, e7, e8, e9, e14, e15, hw, hsrc, ha, EVb, EVc, Int.reduceEq, Int.reduceToNat, Int.reduceLE, Int.reduceLT, Int.reduceAdd, Int.reduceMul, Int.reduceSub, Int.reduceNeg, Nat.reduceAdd, Nat.reduceSub, Nat.reduceMul, Nat.reduceLT, Nat.reduceBEq, Nat.reduceEqDiff, Nat.reduceLeDiff, FACTS, TYPES] at hz
      obtain ⟨l2, H2, v2, q1, q2, q3, q4, q5, q6, q7⟩ := ih (pre ++ [⟨o, t, a, b', c⟩]) (x' :: st') k _ _ v3 z hz (by rw [he]; simp) (by simp at hk; omega) (by simp; omega) (by intro i hi; rcases List.mem_cons.1 hi with rfl | hi; exact e16; exact e12 i hi)
        (by exact e4) (by exact e5) (by rfl) (by exact e6) (by exact e7) (by rfl) hS3 (hold3 0 _ _ (concat_old e2)) (hold3 1 _ _ (concat_old e3))
      refine ⟨l2, H2, v2, q1, q2, q3, q4, ?_, q6, q7⟩
      rw [List.foldl_cons, hpush]
      exact q5
end Go.Proofs.F13
namespace Go.Proofs.F13
set_option linter.unusedVariables false
set_option linter.unusedSimpArgs false
set_option linter.unusedSectionVars false
open Go.Ab
def passC (code : List Ins) : List Ins := (code.foldl (fun st i => push st (plainM i)) []).reverse
def passM (p : Pg) : Pg := { p with code := passC p.code }
def zP : Pg := ⟨0, 0, [], []⟩
theorem pass_bad0 (k : Nat) (p : Pg) (nl : Bool) (cap : Option Nat) (nl2 : Bool) (cap2 : Option Nat) (hk : p.outs.length + p.code.length + 20 ≤ k) (hr : rightM p = false) :
    ∃ H, evalT Tryd.prog (mkHints tab) (k+1) (.fn 11) [aP p nl cap nl2 cap2] [] = some (.tup [aP zP true (some 0) true (some 0), ii 80], H) := by
  obtain ⟨k, rfl⟩ : ∃ j, k = j + 1 := ⟨k - 1, by omega⟩
  have hc := check_ev k p nl cap nl2 cap2 (by omega)
  have he : checkE p = 80 := by simp [checkE, hr]
  rw [he] at hc
  simp only [run, aP, ii] at hc
  rw [ev11]
  simp only [Tryd.f11, aP, ii, bb, hc, EVb, EVc, Int.reduceEq, Int.reduceToNat, Int.reduceLE, Int.reduceLT, Int.reduceAdd, Int.reduceMul, Int.reduceSub, Int.reduceNeg, Nat.reduceAdd, Nat.reduceSub, Nat.reduceMul, Nat.reduceLT, Nat.reduceBEq, Nat.reduceEqDiff, Nat.reduceLeDiff, FACTS, TYPES]
  exact ⟨_, rfl⟩
theorem pass_bad (k : Nat) (p : Pg) (nl : Bool) (cap : Option Nat) (nl2 : Bool) (cap2 : Option Nat) (hk : p.outs.length + p.code.length + 20 ≤ k) (hr : rightM p = false) :
    run (k+1) 11 [aP p nl cap nl2 cap2] = some (.tup [aP zP true (some 0) true (some 0), ii 80]) := by
  obtain ⟨H, h⟩ := pass_bad0 k p nl cap nl2 cap2 hk hr
  rw [run, h]
  rfl
theorem clone_raw (k : Nat) (outs : List Int) (cap : Option Nat) (ho : outs.length ≤ 1000000) : evalT Tryd.prog (mkHints tab) (k+1) (.fn 30) [sI outs false cap] [] = some (.hsl 0 0 outs.length outs.length 1, [.row false 3 (encInts outs)]) := by
  have hl := encInts_length outs
  have hs : srcOf [.row false 3 []] 1 (sI outs false cap) = some (encInts outs, outs.length) := srcOf_c (by rw [hl]; omega)
  have ha : apO 3 1 8 (.hsl 0 0 0 0 1) [.row false 3 []] (some (encInts outs, outs.length)) = some (.hsl 0 0 outs.length outs.length 1, [.row false 3 (encInts outs)]) := by
    cases outs with
    | nil => rfl
    | cons o os =>
      have := apO_row (e := 3) (sz := 1) (by_ := 8) (m := (o :: os).length) (len := 0) (id := 0) (H := [.row false 3 []]) (cells := []) (cs := encInts (o :: os)) (by simp) (Nat.le_trans (Nat.mul_le_mul_right 8 (show 0 + (o :: os).length ≤ 1000000 by omega)) (by decide)) (by omega) rfl rfl
      simpa using this
  rw [ev30]
  simp only [Tryd.f30, sI, eqs23, hs, ha, EVb, EVc, Int.reduceEq, Int.reduceToNat, Int.reduceLE, Int.reduceLT, Int.reduceAdd, Int.reduceMul, Int.reduceSub, Int.reduceNeg, Nat.reduceAdd, Nat.reduceSub, Nat.reduceMul, Nat.reduceLT, Nat.reduceBEq, Nat.reduceEqDiff, Nat.reduceLeDiff, FACTS, TYPES]
/-- How the pass's answer stands in hand. -/
structure Held (H : Heap) (p : Pg) (cv : AV) (oid : Nat) : Prop where
  outs : H[oid]? = some (.row false 3 (encInts p.outs))
  code : (cv = .c (.slice [] 0 true (some 0)) ∧ passC p.code = []) ∨ ∃ (id : Nat) (junk : List IV), id ≠ oid ∧ cv = .hsl id 0 (passC p.code).length (encCode (passC p.code) ++ junk).length 5 ∧ H[id]? = some (.row false 34 (encCode (passC p.code) ++ junk))
theorem pass_raw (k : Nat) (p : Pg) (nl : Bool) (cap : Option Nat) (nl2 : Bool) (cap2 : Option Nat) (hk : p.outs.length + p.code.length + 20 ≤ k) (hr : rightM p = true) (hn : nl2 = true → p.outs = []) :
    ∃ H cv oid, Held H p cv oid ∧ evalT Tryd.prog (mkHints tab) (k+1) (.fn 11) [aP p nl cap nl2 cap2] [] = some (.tup [.agg [ii p.ins, ii p.regs, cv, .hsl oid 0 p.outs.length p.outs.length 1], ii 0], H) := by
  obtain ⟨k, rfl⟩ : ∃ j, k = j + 1 := ⟨k - 1, by omega⟩
  have hc := check_ev k p nl cap nl2 cap2 (by omega)
  have he : checkE p = 0 := by simp [checkE, hr]
  rw [he] at hc
  simp only [run, aP, ii] at hc
  obtain ⟨ins, regs, code, outs⟩ := p
  simp only [rightM, Bool.and_eq_true] at hr
  obtain ⟨⟨hr1, hr2⟩, hr3⟩ := hr
  simp only [headM, decide_eq_true_eq] at hr1
  have hcode : ∀ i ∈ code, mayM i regs = true := fun i hi => List.all_eq_true.1 hr3 i hi
  have hn2 : nl2 = false := by
    cases nl2 with
    | false => rfl
    | true => have := hn rfl; simp only at this; subst this; simp at hr1
  subst hn2
  have hcl := clone_raw k outs cap2 (by omega)
  simp only [sI] at hcl
  have hkeep : ∀ H : Heap, keepO (some (.hsl 0 0 outs.length outs.length 1, [.row false 3 (encInts outs)])) H = some (.hsl H.length 0 outs.length outs.length 1, H ++ [.row false 3 (encInts outs)]) := by
    intro H
    simp [keepO, AV.imp, AV.imp1, AV.imp0, rowsOf]
    rfl
  rw [ev11]
  simp only [Tryd.f11, aP, ii, bb, hc, EVb, EVc, Int.reduceEq, Int.reduceToNat, Int.reduceLE, Int.reduceLT, Int.reduceAdd, Int.reduceMul, Int.reduceSub, Int.reduceNeg, Nat.reduceAdd, Nat.reduceSub, Nat.reduceMul, Nat.reduceLT, Nat.reduceBEq, Nat.reduceEqDiff, Nat.reduceLeDiff, FACTS, TYPES]
  rw [evalCode_loopOf Tryd.f11 6 lp11_6]; rotate_left; rfl; rfl
  generalize hz : loopL _ _ _ _ _ _ _ _ _ _ _ = z
  simp only at hk
  obtain ⟨l', H', v', rfl, e1, e2, e3, hS, e5, e6⟩ := loop11_6 (k+1) (loopOf Tryd.f11 6) rfl regs nl cap code hcode (by omega) (by omega) _ _ code [] [] _ _ _ (.c (.slice [] 0 true (some 0))) z hz rfl (by omega) (Nat.le_refl _) (by simp) (by rfl) (by rfl) (by rfl) (by rfl) (by rfl) (by rfl) (.inl ⟨rfl, rfl⟩) (by rfl) (by rfl)
  simp only [e1, e2, e3, e5, e6, EVb, EVc, Int.reduceEq, Int.reduceToNat, Int.reduceLE, Int.reduceLT, Int.reduceAdd, Int.reduceMul, Int.reduceSub, Int.reduceNeg, Nat.reduceAdd, Nat.reduceSub, Nat.reduceMul, Nat.reduceLT, Nat.reduceBEq, Nat.reduceEqDiff, Nat.reduceLeDiff, FACTS, TYPES]
  rw [evalCode_drawn Tryd.f11 17 dr11_17]; rotate_left; rfl
  have hp : passC code = (code.foldl (fun st i => push st (plainM i)) []).reverse := rfl
  have h1l : 1 < H'.length := (List.getElem?_eq_some_iff.1 e6).1
  have h6' : ∀ o : AObj, (H' ++ [o])[1]? = _ := fun o => concat_old e6
  have h5' : ∀ o : AObj, (H' ++ [o])[0]? = _ := fun o => concat_old e5
  have h5'' : ∀ (o o' : AObj), ((H' ++ [o]).set 1 o')[0]? = _ := fun o o' => (List.getElem?_set_ne (by omega)).trans (concat_old e5)
  have hset : ∀ o o', ((H' ++ [o]).set 1 o')[1]? = some o' := fun o o' => List.getElem?_set_self (by simp; omega)
  rcases hS with ⟨rfl, hnil⟩ | ⟨id, j, junk, rfl, hj, hid, hrow⟩
  · simp only [e1, e2, e3, e5, e6, hcl, hkeep, doCall_cxK, hset, h6', h5', h5'', EVd, Nat.reducePow, Nat.reduceDiv, Nat.reduceMod, EVb, EVc, Int.reduceEq, Int.reduceToNat, Int.reduceLE, Int.reduceLT, Int.reduceAdd, Int.reduceMul, Int.reduceSub, Int.reduceNeg, Nat.reduceAdd, Nat.reduceSub, Nat.reduceMul, Nat.reduceLT, Nat.reduceBEq, Nat.reduceEqDiff, Nat.reduceLeDiff, FACTS, TYPES]
    refine ⟨_, _, _, ⟨?_, .inl ⟨rfl, by rw [hp, hnil]; rfl⟩⟩, rfl⟩
    rw [List.getElem?_set_ne (by omega)]
    exact concat_at
  · have hne : id ≠ 1 := by intro e; subst e; rw [e6] at hrow; cases hrow
    simp only [e1, e2, e3, e5, e6, hcl, hkeep, doCall_cxK, hset, h6', h5', h5'', EVd, Nat.reducePow, Nat.reduceDiv, Nat.reduceMod, EVb, EVc, Int.reduceEq, Int.reduceToNat, Int.reduceLE, Int.reduceLT, Int.reduceAdd, Int.reduceMul, Int.reduceSub, Int.reduceNeg, Nat.reduceAdd, Nat.reduceSub, Nat.reduceMul, Nat.reduceLT, Nat.reduceBEq, Nat.reduceEqDiff, Nat.reduceLeDiff, FACTS, TYPES]
    refine ⟨_, _, _, ⟨?_, .inr ⟨id, junk, by omega, by rw [hp, List.length_reverse], ?_⟩⟩, rfl⟩
    · rw [List.getElem?_set_ne (by omega)]
      exact concat_at
    · rw [List.getElem?_set_ne (Ne.symm hne)]
      exact concat_old hrow
theorem pass_good (k : Nat) (p : Pg) (nl : Bool) (cap : Option Nat) (nl2 : Bool) (cap2 : Option Nat) (hk : p.outs.length + p.code.length + 20 ≤ k) (hr : rightM p = true) (hn : nl2 = true → p.outs = []) :
    ∃ nl3 cap3, (nl3 = true → passC p.code = []) ∧ run (k+1) 11 [aP p nl cap nl2 cap2] = some (.tup [aP (passM p) nl3 cap3 false none, ii 0]) := by
  obtain ⟨H, cv, oid, ⟨ho, hcd⟩, he⟩ := pass_raw k p nl cap nl2 cap2 hk hr hn
  have hol := encInts_length p.outs
  have hro : ∀ (H : Heap), H[oid]? = some (.row false 3 (encInts p.outs)) → rowOf H oid p.outs.length = some (3, encInts p.outs) := fun H h => rowOf_eq h hol
  have hto : ((encInts p.outs).drop 0).take (p.outs.length * 1) = encInts p.outs := by rw [List.drop_zero, Nat.mul_one, ← hol, List.take_length]
  have hlo : 0 + p.outs.length * 1 ≤ p.outs.length := by omega
  rcases hcd with ⟨rfl, hnil⟩ | ⟨id, junk, hne, rfl, hrow⟩
  · refine ⟨true, some 0, fun _ => hnil, ?_⟩
    rw [run, he]
    simp only [ans, frzR, frzTup_cons, frzV_agg, frzs_cell, frzs_hsl, frzs_nil, frz_hsl, frz2_some, frzTup_nil, frzV_c, hro H ho, hlo, hto, if_true, Option.bind_some, Option.map_some, List.map_cons, List.map_nil]
    simp only [passM, hnil]
    rfl
  · refine ⟨false, none, (by simp), ?_⟩
    have hl5 := encCode_length (passC p.code)
    have hle : 0 + (passC p.code).length * 5 ≤ (encCode (passC p.code) ++ junk).length := by rw [List.length_append, hl5]; omega
    have htk : ((encCode (passC p.code) ++ junk).drop 0).take ((passC p.code).length * 5) = encCode (passC p.code) := by
      rw [List.drop_zero, ← hl5, List.take_left]
    have hz3 := rowOf_eq hrow rfl
    have ho2 : ∀ o : AObj, (H.set id o)[oid]? = some (.row false 3 (encInts p.outs)) := fun o => by rw [List.getElem?_set_ne hne]; exact ho
    have hro2 : ∀ o : AObj, rowOf (H.set id o) oid p.outs.length = some (3, encInts p.outs) := fun o => hro _ (ho2 o)
    rw [run, he]
    simp only [ans, frzR, frzTup_cons, frzV_agg, frzs_cell, frzs_hsl, frzs_nil, frz_hsl, frz2_some, frzTup_nil, frzV_c, hz3, hro2, hle, htk, hlo, hto, if_true, Option.bind_some, Option.map_some, List.map_cons, List.map_nil]
    simp only [passM]
end Go.Proofs.F13
namespace Go.Proofs.F13
set_option linter.unusedVariables false
set_option linter.unusedSimpArgs false
set_option linter.unusedSectionVars false
open Go.Ab
theorem plain_plain (i : Ins) : plainM (plainM i) = plainM i := by
  obtain ⟨o, t, a, b, c⟩ := i
  by_cases h3 : o = 3
  · by_cases hab : a = b <;> simp [plainM, h3, hab]
  · by_cases h56 : o = 5 ∨ o = 6
    · by_cases h1 : c = 1
      · simp [plainM, h3, h56, h1]
      · by_cases hm1 : c = -1
        · simp [plainM, h3, h56, hm1]
        · by_cases hp : powM c ≠ 0
          · by_cases h5 : o = 5
            · simp [plainM, h1, hm1, hp, h5]
            · have h6 : o = 6 := by omega
              simp [plainM, h1, hm1, hp, h6]
          · have hp' : powM c = 0 := by simpa using hp
            simp [plainM, h3, h56, h1, hm1, hp']
    · simp [plainM, h3, h56]
def GoodR : List Ins → Prop
  | [] => True
  | x :: st => plainM x = x ∧ nothing x = false ∧ (∀ y st', st = y :: st' → meltM y x = none) ∧ GoodR st
theorem melt_plain {y x z : Ins} (h : meltM y x = some z) : plainM z = z := by
  unfold meltM at h
  split at h
  · cases h
  · obtain ⟨w, _, rfl⟩ := Option.map_eq_some_iff.1 h
    exact plain_plain _
theorem push_good : ∀ (st : List Ins) (b : Ins), plainM b = b → GoodR st → GoodR (push st b)
  | [], b, hb, _ => by
    by_cases hn : nothing b = true
    · rw [push_nothing hn]; trivial
    · have hn : nothing b = false := by simpa using hn
      rw [push_nil hn]
      exact ⟨hb, hn, fun y st' h => (by cases h), trivial⟩
  | x :: st, b, hb, hg => by
    by_cases hn : nothing b = true
    · rw [push_nothing hn]; exact hg
    · have hn : nothing b = false := by simpa using hn
      cases hm : meltM x b with
      | none =>
        rw [push_none hn hm]
        exact ⟨hb, hn, fun y st' h => by cases h; exact hm, hg⟩
      | some y =>
        rw [push_some hn hm]
        exact push_good st y (melt_plain hm) hg.2.2.2
theorem pass_goodR : ∀ (code st : List Ins), GoodR st → GoodR (code.foldl (fun st i => push st (plainM i)) st)
  | [], _, h => h
  | i :: code, st, h => pass_goodR code _ (push_good st _ (plain_plain i) h)
theorem pass_same : ∀ (st : List Ins), GoodR st → st.reverse.foldl (fun st i => push st (plainM i)) [] = st
  | [], _ => rfl
  | x :: st, h => by
    rw [List.reverse_cons, List.foldl_append, pass_same st h.2.2.2]
    show push st (plainM x) = x :: st
    rw [h.1]
    cases st with
    | nil => exact push_nil h.2.1
    | cons y st' => exact push_none h.2.1 (h.2.2.1 y st' rfl)
theorem passC_passC (code : List Ins) : passC (passC code) = passC code := by
  unfold passC
  rw [pass_same _ (pass_goodR code [] trivial)]
theorem push_mem {regs : Int} : ∀ (st : List Ins) (b : Ins), (∀ i ∈ st, mayM i regs = true) → mayM b regs = true → ∀ i ∈ push st b, mayM i regs = true
  | [], b, _, hb => by
    by_cases hn : nothing b = true
    · rw [push_nothing hn]; simp
    · rw [push_nil (by simpa using hn)]; simpa using hb
  | x :: st, b, h, hb => by
    by_cases hn : nothing b = true
    · rw [push_nothing hn]; exact h
    · have hn : nothing b = false := by simpa using hn
      cases hm : meltM x b with
      | none =>
        rw [push_none hn hm]
        intro i hi
        rcases List.mem_cons.1 hi with rfl | hi
        · exact hb
        · exact h i hi
      | some y =>
        rw [push_some hn hm]
        exact push_mem st y (fun i hi => h i (by simp [hi])) (melt_may (h x (by simp)) hb hm)
theorem passR_mem {regs : Int} : ∀ (code st : List Ins), (∀ i ∈ code, mayM i regs = true) → (∀ i ∈ st, mayM i regs = true) → ∀ i ∈ code.foldl (fun st i => push st (plainM i)) st, mayM i regs = true
  | [], _, _, h => h
  | i :: code, st, hc, h => passR_mem code _ (fun j hj => hc j (by simp [hj])) (push_mem st _ h (plain_may (hc i (by simp))))
theorem push_len : ∀ (st : List Ins) (b : Ins), (push st b).length ≤ st.length + 1
  | [], b => by
    by_cases hn : nothing b = true
    · rw [push_nothing hn]; simp
    · rw [push_nil (by simpa using hn)]; simp
  | x :: st, b => by
    by_cases hn : nothing b = true
    · rw [push_nothing hn]; simp
    · have hn : nothing b = false := by simpa using hn
      cases hm : meltM x b with
      | none => rw [push_none hn hm]; simp
      | some y =>
        rw [push_some hn hm]
        have := push_len st y
        simp only [List.length_cons]
        omega
theorem passR_len : ∀ (code st : List Ins), (code.foldl (fun st i => push st (plainM i)) st).length ≤ st.length + code.length
  | [], _ => Nat.le_refl _
  | i :: code, st => by
    have h1 := passR_len code (push st (plainM i))
    have h2 := push_len st (plainM i)
    simp only [List.foldl_cons, List.length_cons]
    omega
theorem passC_len (code : List Ins) : (passC code).length ≤ code.length := by
  have := passR_len code []
  unfold passC
  simpa using this
theorem passM_right {p : Pg} (h : rightM p = true) : rightM (passM p) = true := by
  simp only [rightM, Bool.and_eq_true] at h ⊢
  obtain ⟨⟨h1, h2⟩, h3⟩ := h
  have hl := passC_len p.code
  refine ⟨⟨?_, h2⟩, ?_⟩
  · unfold headM at h1 ⊢
    rw [decide_eq_true_eq] at h1 ⊢
    exact ⟨h1.1, h1.2.1, h1.2.2.1, by show (passC p.code).length ≤ 16384; omega, h1.2.2.2.2⟩
  · unfold codeM passM
    rw [List.all_eq_true]
    intro i hi
    exact passR_mem p.code [] (fun j hj => List.all_eq_true.1 h3 j hj) (by simp) i (by simpa [passC] using hi)
/-- How many instructions of an operation there are. -/
def cnt (q : Int) (l : List Ins) : Nat := l.countP fun i => decide (i.op = q)
theorem plain_op {i : Ins} {q : Int} (hq : q = 5 ∨ q = 6) (h : (plainM i).op = q) : i.op = q := by
  revert h
  unfold plainM
  repeat' split
  all_goals (intro h; first | exact h | (simp at h; omega))
  all_goals (simp at h; split at h <;> omega)
theorem melt_op {y x z : Ins} {q : Int} (hq : q = 5 ∨ q = 6) (h : meltM y x = some z) (hz : z.op = q) : y.op = q ∨ x.op = q := by
  unfold meltM at h
  split at h
  · cases h
  · obtain ⟨⟨o, c⟩, ht, rfl⟩ := Option.map_eq_some_iff.1 h
    have ho : o = q := plain_op hq hz
    unfold together at ht
    repeat' (split at ht <;> first | (simp only [Option.some.injEq, Prod.mk.injEq, reduceCtorEq] at ht) | skip)
    all_goals omega
def one1 (q : Int) (b : Ins) : Nat := if b.op = q then 1 else 0
theorem cnt_cons (q : Int) (x : Ins) (l : List Ins) : cnt q (x :: l) = cnt q l + one1 q x := by
  unfold cnt one1
  rw [List.countP_cons]
  simp
theorem push_cnt {q : Int} (hq : q = 5 ∨ q = 6) : ∀ (st : List Ins) (b : Ins), cnt q (push st b) ≤ cnt q st + one1 q b
  | [], b => by
    by_cases hn : nothing b = true
    · rw [push_nothing hn]; omega
    · rw [push_nil (by simpa using hn), cnt_cons]; omega
  | x :: st, b => by
    by_cases hn : nothing b = true
    · rw [push_nothing hn]; omega
    · have hn : nothing b = false := by simpa using hn
      cases hm : meltM x b with
      | none => rw [push_none hn hm, cnt_cons q b]; omega
      | some y =>
        rw [push_some hn hm, cnt_cons]
        have h1 := push_cnt hq st y
        have h2 : one1 q y ≤ one1 q x + one1 q b := by
          unfold one1
          by_cases hy : y.op = q
          · rcases melt_op hq hm hy with h | h <;> simp [h] <;> split <;> omega
          · simp [hy]
        omega
theorem passR_cnt {q : Int} (hq : q = 5 ∨ q = 6) : ∀ (code st : List Ins), cnt q (code.foldl (fun st i => push st (plainM i)) st) ≤ cnt q st + cnt q code
  | [], st => by simp [cnt]
  | i :: code, st => by
    have h1 := passR_cnt hq code (push st (plainM i))
    have h2 := push_cnt hq st (plainM i)
    have h3 : one1 q (plainM i) ≤ one1 q i := by
      unfold one1
      by_cases hy : (plainM i).op = q
      · simp [plain_op hq hy]; split <;> omega
      · simp [hy]
    rw [List.foldl_cons, cnt_cons]
    omega
theorem passC_cnt {q : Int} (hq : q = 5 ∨ q = 6) (code : List Ins) : cnt q (passC code) ≤ cnt q code := by
  have := passR_cnt hq code []
  unfold passC
  have e : ∀ l : List Ins, cnt q l.reverse = cnt q l := fun l => by unfold cnt; simp
  rw [e]
  simpa [cnt] using this
theorem may_mono {i : Ins} {r s : Int} (h : mayM i r = true) (hr : r ≤ s) : mayM i s = true := by
  rw [may_iff] at h ⊢
  obtain ⟨h1, h2, h3, h4⟩ := h
  exact ⟨by omega, h2, by omega, fun h => by have := h4 h; omega⟩
/-- What is true of the instructions that the pass leaves, one after the other. -/
theorem good_at : ∀ (st : List Ins), GoodR st → ∀ (pre rest : List Ins) (i : Ins), st.reverse = pre ++ i :: rest → plainM i = i ∧ nothing i = false ∧ ∀ pre' y, pre = pre' ++ [y] → meltM y i = none := by
  intro st
  induction st with
  | nil => intro _ pre rest i h; simp at h
  | cons x st ih =>
    intro hg pre rest i h
    rw [List.reverse_cons] at h
    rcases List.eq_nil_or_concat rest with rfl | ⟨r', z, rfl⟩
    · have h' : st.reverse ++ [x] = pre ++ [i] := h
      obtain ⟨h1, h2⟩ := List.append_inj' h' rfl
      injection h2 with h2
      subst h2
      refine ⟨hg.1, hg.2.1, fun pre' y hp => ?_⟩
      have h3 : st = y :: pre'.reverse := by
        have := congrArg List.reverse (h1.trans hp)
        simpa using this
      exact hg.2.2.1 y _ h3
    · have h' : st.reverse ++ [x] = (pre ++ i :: r') ++ [z] := by simpa using h
      exact ih hg.2.2.2 pre r' i (List.append_inj' h' rfl).1
end Go.Proofs.F13
namespace Go.Proofs.F13
set_option linter.unusedVariables false
set_option linter.unusedSimpArgs false
set_option linter.unusedSectionVars false
open Go.Ab
theorem long_ev (k : Nat) (p : Pg) (nl : Bool) (cap : Option Nat) (nl2 : Bool) (cap2 : Option Nat) : run (k+1) 9 [aP p nl cap nl2 cap2] = some (bb (decide (300 < p.code.length ∧ p.code.length ≤ 16384))) := by
  rw [run, ev9]
  simp only [Tryd.f9, aP, ii, bb, EVb, EVc, Int.reduceEq, Int.reduceToNat, Int.reduceLE, Int.reduceLT, Int.reduceAdd, Int.reduceMul, Int.reduceSub, Int.reduceNeg, Nat.reduceAdd, Nat.reduceSub, Nat.reduceMul, Nat.reduceLT, Nat.reduceBEq, Nat.reduceEqDiff, Nat.reduceLeDiff, FACTS, TYPES]
  repeat' (first
    | (rw [condO_dec]; split <;> simp only [*, EVb, EVc, Int.reduceEq, Int.reduceToNat, Int.reduceLE, Int.reduceLT, Int.reduceAdd, Int.reduceMul, Int.reduceSub, Int.reduceNeg, Nat.reduceAdd, Nat.reduceSub, Nat.reduceMul, Nat.reduceLT, Nat.reduceBEq, Nat.reduceEqDiff, Nat.reduceLeDiff, FACTS, TYPES])
    | (rw [condO_ite]; split <;> simp only [*, EVb, EVc, Int.reduceEq, Int.reduceToNat, Int.reduceLE, Int.reduceLT, Int.reduceAdd, Int.reduceMul, Int.reduceSub, Int.reduceNeg, Nat.reduceAdd, Nat.reduceSub, Nat.reduceMul, Nat.reduceLT, Nat.reduceBEq, Nat.reduceEqDiff, Nat.reduceLeDiff, FACTS, TYPES])
    | (split <;> simp only [*, EVb, EVc, Int.reduceEq, Int.reduceToNat, Int.reduceLE, Int.reduceLT, Int.reduceAdd, Int.reduceMul, Int.reduceSub, Int.reduceNeg, Nat.reduceAdd, Nat.reduceSub, Nat.reduceMul, Nat.reduceLT, Nat.reduceBEq, Nat.reduceEqDiff, Nat.reduceLeDiff, FACTS, TYPES]))
  all_goals (rw [Option.some.injEq, AV.c.injEq, IV.bool.injEq, Bool.eq_iff_iff]; simp; omega)
theorem right37_ev (k : Nat) (p : Pg) (nl : Bool) (cap : Option Nat) (nl2 : Bool) (cap2 : Option Nat) (hk : p.outs.length + p.code.length + 12 ≤ k) : run (k+1) 37 [aP p nl cap nl2 cap2] = some (bb (rightM p)) := by
  obtain ⟨k, rfl⟩ : ∃ j, k = j + 1 := ⟨k - 1, by omega⟩
  have hc := check_ev k p nl cap nl2 cap2 (by omega)
  simp only [run, aP, ii] at hc
  rw [run, ev37]
  simp only [Tryd.f37, aP, ii, bb, hc, EVb, EVc, Int.reduceEq, Int.reduceToNat, Int.reduceLE, Int.reduceLT, Int.reduceAdd, Int.reduceMul, Int.reduceSub, Int.reduceNeg, Nat.reduceAdd, Nat.reduceSub, Nat.reduceMul, Nat.reduceLT, Nat.reduceBEq, Nat.reduceEqDiff, Nat.reduceLeDiff, FACTS, TYPES]
  unfold checkE
  cases rightM p <;> simp
theorem loop38_4 (kf : Nat) (b : Code) (hb : loopOf Tryd.f38 4 = b) (l0 : List Ins) (nl nl2 : Bool) (cap cap2 : Option Nat) (hlen : l0.length < 1000000) :
    ∀ (rest pre : List Ins) (k : Nat) (l : Ass) (z : Option Out), loopL Tryd.prog tab kf 38 b 26 [0, 1, 12, 13] 0 k l [] = z → l0 = pre ++ rest → rest.length < k → asc l 0 = sC l0 nl cap → asc l 1 = sC l0 nl2 cap2 → asc l 12 = ii l0.length → asc l 13 = ii pre.length →
    ∃ l', z = some (.exit 0 (fr 26 l') []) := by
  have hev : ∀ F H, evalCode Tryd.prog (cxF Tryd.prog (mkHints tab) kf 38) b F H = evalCode Tryd.prog (cxF Tryd.prog (mkHints tab) kf 38) (loopOf Tryd.f38 4) F H := fun _ _ => by rw [hb]
  intro rest
  induction rest with
  | nil =>
    intro pre k l z hz he hk h0 h1 h12 h13
    obtain ⟨k, rfl⟩ : ∃ j, k = j + 1 := ⟨k - 1, by simp at hk; omega⟩
    have hc : ¬ ((pre.length : Int) < l0.length) := by rw [he]; simp
    simp only [loopL_succ, hev] at hz
    simp only [h0, h1, h12, h13, hc, loopL_succ, loopOf, findLoop, firstRegion, Option.some_or, Option.none_or, Option.getD_some, Option.some.injEq, Tryd.f38, EVb, EVc, Int.reduceEq, Int.reduceToNat, Int.reduceLE, Int.reduceLT, Int.reduceAdd, Int.reduceMul, Int.reduceSub, Int.reduceNeg, Nat.reduceAdd, Nat.reduceSub, Nat.reduceMul, Nat.reduceLT, Nat.reduceBEq, Nat.reduceEqDiff, Nat.reduceLeDiff, FACTS] at hz
    exact ⟨_, hz.symm⟩
  | cons i rest ih =>
    intro pre k l z hz he hk h0 h1 h12 h13
    obtain ⟨k, rfl⟩ : ∃ j, k = j + 1 := ⟨k - 1, by simp at hk; omega⟩
    have hc : ((pre.length : Int) < l0.length) := by rw [he]; simp; omega
    have hc0 : (0 : Int) ≤ pre.length := by omega
    have hx := encCode_at pre rest i
    rw [← he, takeCells_eq] at hx
    have hpl : pre.length < 1000000 := by rw [he] at hlen; simp at hlen; omega
    have hw : IntKind.wrap .i64 ((pre.length : Int) + 1) = ((pre ++ [i]).length : Int) := by rw [wrap64 (by omega) (by omega)]; simp
    simp only [loopL_succ, hev] at hz
    simp only [h0, h1, h12, h13, hc, hc0, hx, enc1, loopL_succ, loopOf, findLoop, firstRegion, Option.some_or, Option.none_or, Option.getD_some, Option.some.injEq, Tryd.f38, EVb, EVc, Int.reduceEq, Int.reduceToNat, Int.reduceLE, Int.reduceLT, Int.reduceAdd, Int.reduceMul, Int.reduceSub, Int.reduceNeg, Nat.reduceAdd, Nat.reduceSub, Nat.reduceMul, Nat.reduceLT, Nat.reduceBEq, Nat.reduceEqDiff, Nat.reduceLeDiff, FACTS, TYPES] at hz
    rw [evalCode_drawn Tryd.f38 6 dr38_6] at hz; rotate_left; rfl
    simp only [h0, h1, h12, h13, hc, hc0, hx, hw, enc1, ne_self, EVd, Nat.reducePow, Nat.reduceDiv, Nat.reduceMod, EVb, EVc, Int.reduceEq, Int.reduceToNat, Int.reduceLE, Int.reduceLT, Int.reduceAdd, Int.reduceMul, Int.reduceSub, Int.reduceNeg, Nat.reduceAdd, Nat.reduceSub, Nat.reduceMul, Nat.reduceLT, Nat.reduceBEq, Nat.reduceEqDiff, Nat.reduceLeDiff, FACTS, TYPES] at hz
    exact ih (pre ++ [i]) k _ z hz (by rw [he]; simp) (by simp at hk; omega) (by rfl) (by rfl) (by rfl) (by rfl)
theorem equal38_ev (k : Nat) (l0 : List Ins) (nl nl2 : Bool) (cap cap2 : Option Nat) (hlen : l0.length < 1000000) (hk : l0.length + 5 ≤ k) : run (k+1) 38 [sC l0 nl cap, sC l0 nl2 cap2] = some (bb true) := by
  rw [run, ev38]
  simp only [Tryd.f38, sC, ii, bb, EVb, EVc, Int.reduceEq, Int.reduceToNat, Int.reduceLE, Int.reduceLT, Int.reduceAdd, Int.reduceMul, Int.reduceSub, Int.reduceNeg, Nat.reduceAdd, Nat.reduceSub, Nat.reduceMul, Nat.reduceLT, Nat.reduceBEq, Nat.reduceEqDiff, Nat.reduceLeDiff, FACTS, TYPES]
  rw [evalCode_loopOf Tryd.f38 4 lp38_4]; rotate_left; rfl; rfl
  generalize hz : loopL _ _ _ _ _ _ _ _ _ _ _ = z
  obtain ⟨l', rfl⟩ := loop38_4 k _ rfl l0 nl nl2 cap cap2 hlen l0 [] _ _ z hz rfl (by omega) (by rfl) (by rfl) (by rfl) (by rfl)
  simp only [EVb, EVc, Int.reduceEq, Int.reduceToNat, Int.reduceLE, Int.reduceLT, Int.reduceAdd, Int.reduceMul, Int.reduceSub, Int.reduceNeg, Nat.reduceAdd, Nat.reduceSub, Nat.reduceMul, Nat.reduceLT, Nat.reduceBEq, Nat.reduceEqDiff, Nat.reduceLeDiff, FACTS, TYPES]
theorem loop27_4 (kf : Nat) (b : Code) (hb : loopOf Tryd.f27 4 = b) (l0 : List Int) (nl nl2 : Bool) (cap cap2 : Option Nat) (hlen : l0.length < 1000000) :
    ∀ (rest pre : List Int) (k : Nat) (l : Ass) (z : Option Out), loopL Tryd.prog tab kf 27 b 26 [0, 1, 12, 13] 0 k l [] = z → l0 = pre ++ rest → rest.length < k → asc l 0 = sI l0 nl cap → asc l 1 = sI l0 nl2 cap2 → asc l 12 = ii l0.length → asc l 13 = ii pre.length →
    ∃ l', z = some (.exit 0 (fr 26 l') []) := by
  have hev : ∀ F H, evalCode Tryd.prog (cxF Tryd.prog (mkHints tab) kf 27) b F H = evalCode Tryd.prog (cxF Tryd.prog (mkHints tab) kf 27) (loopOf Tryd.f27 4) F H := fun _ _ => by rw [hb]
  intro rest
  induction rest with
  | nil =>
    intro pre k l z hz he hk h0 h1 h12 h13
    obtain ⟨k, rfl⟩ : ∃ j, k = j + 1 := ⟨k - 1, by simp at hk; omega⟩
    have hc : ¬ ((pre.length : Int) < l0.length) := by rw [he]; simp
    simp only [loopL_succ, hev] at hz
    simp only [h0, h1, h12, h13, hc, loopL_succ, loopOf, findLoop, firstRegion, Option.some_or, Option.none_or, Option.getD_some, Option.some.injEq, Tryd.f27, EVb, EVc, Int.reduceEq, Int.reduceToNat, Int.reduceLE, Int.reduceLT, Int.reduceAdd, Int.reduceMul, Int.reduceSub, Int.reduceNeg, Nat.reduceAdd, Nat.reduceSub, Nat.reduceMul, Nat.reduceLT, Nat.reduceBEq, Nat.reduceEqDiff, Nat.reduceLeDiff, FACTS] at hz
    exact ⟨_, hz.symm⟩
  | cons i rest ih =>
    intro pre k l z hz he hk h0 h1 h12 h13
    obtain ⟨k, rfl⟩ : ∃ j, k = j + 1 := ⟨k - 1, by simp at hk; omega⟩
    have hc : ((pre.length : Int) < l0.length) := by rw [he]; simp; omega
    have hc0 : (0 : Int) ≤ pre.length := by omega
    have hx := encInts_at pre rest i
    rw [← he] at hx
    have hpl : pre.length < 1000000 := by rw [he] at hlen; simp at hlen; omega
    have hw : IntKind.wrap .i64 ((pre.length : Int) + 1) = ((pre ++ [i]).length : Int) := by rw [wrap64 (by omega) (by omega)]; simp
    simp only [loopL_succ, hev] at hz
    simp only [h0, h1, h12, h13, hc, hc0, hx, loopL_succ, loopOf, findLoop, firstRegion, Option.some_or, Option.none_or, Option.getD_some, Option.some.injEq, Tryd.f27, EVb, EVc, Int.reduceEq, Int.reduceToNat, Int.reduceLE, Int.reduceLT, Int.reduceAdd, Int.reduceMul, Int.reduceSub, Int.reduceNeg, Nat.reduceAdd, Nat.reduceSub, Nat.reduceMul, Nat.reduceLT, Nat.reduceBEq, Nat.reduceEqDiff, Nat.reduceLeDiff, FACTS, TYPES] at hz
    rw [evalCode_drawn Tryd.f27 6 dr27_6] at hz; rotate_left; rfl
    simp only [h0, h1, h12, h13, hc, hc0, hx, hw, EVd, Nat.reducePow, Nat.reduceDiv, Nat.reduceMod, EVb, EVc, Int.reduceEq, Int.reduceToNat, Int.reduceLE, Int.reduceLT, Int.reduceAdd, Int.reduceMul, Int.reduceSub, Int.reduceNeg, Nat.reduceAdd, Nat.reduceSub, Nat.reduceMul, Nat.reduceLT, Nat.reduceBEq, Nat.reduceEqDiff, Nat.reduceLeDiff, FACTS, TYPES] at hz
    exact ih (pre ++ [i]) k _ z hz (by rw [he]; simp) (by simp at hk; omega) (by rfl) (by rfl) (by rfl) (by rfl)
theorem equal27_ev (k : Nat) (l0 : List Int) (nl nl2 : Bool) (cap cap2 : Option Nat) (hlen : l0.length < 1000000) (hk : l0.length + 5 ≤ k) : run (k+1) 27 [sI l0 nl cap, sI l0 nl2 cap2] = some (bb true) := by
  rw [run, ev27]
  simp only [Tryd.f27, sI, ii, bb, EVb, EVc, Int.reduceEq, Int.reduceToNat, Int.reduceLE, Int.reduceLT, Int.reduceAdd, Int.reduceMul, Int.reduceSub, Int.reduceNeg, Nat.reduceAdd, Nat.reduceSub, Nat.reduceMul, Nat.reduceLT, Nat.reduceBEq, Nat.reduceEqDiff, Nat.reduceLeDiff, FACTS, TYPES]
  rw [evalCode_loopOf Tryd.f27 4 lp27_4]; rotate_left; rfl; rfl
  generalize hz : loopL _ _ _ _ _ _ _ _ _ _ _ = z
  obtain ⟨l', rfl⟩ := loop27_4 k _ rfl l0 nl nl2 cap cap2 hlen l0 [] _ _ z hz rfl (by omega) (by rfl) (by rfl) (by rfl) (by rfl)
  simp only [EVb, EVc, Int.reduceEq, Int.reduceToNat, Int.reduceLE, Int.reduceLT, Int.reduceAdd, Int.reduceMul, Int.reduceSub, Int.reduceNeg, Nat.reduceAdd, Nat.reduceSub, Nat.reduceMul, Nat.reduceLT, Nat.reduceBEq, Nat.reduceEqDiff, Nat.reduceLeDiff, FACTS, TYPES]
theorem same22_ev (k : Nat) (p : Pg) (a1 a2 b1 b2 : Bool) (c1 c2 d1 d2 : Option Nat) (hlen : p.code.length < 1000000) (hlen2 : p.outs.length < 1000000) (hk : p.code.length + p.outs.length + 10 ≤ k) :
    run (k+1) 22 [aP p a1 c1 a2 c2, aP p b1 d1 b2 d2] = some (bb true) := by
  obtain ⟨k, rfl⟩ : ∃ j, k = j + 1 := ⟨k - 1, by omega⟩
  have h1 := equal38_ev k p.code a1 b1 c1 d1 hlen (by omega)
  have h2 := equal27_ev k p.outs a2 b2 c2 d2 hlen2 (by omega)
  simp only [run, sC, sI, bb] at h1 h2
  rw [run, ev22]
  simp only [Tryd.f22, aP, ii, bb, h1, h2, EVb, EVc, Int.reduceEq, Int.reduceToNat, Int.reduceLE, Int.reduceLT, Int.reduceAdd, Int.reduceMul, Int.reduceSub, Int.reduceNeg, Nat.reduceAdd, Nat.reduceSub, Nat.reduceMul, Nat.reduceLT, Nat.reduceBEq, Nat.reduceEqDiff, Nat.reduceLeDiff, FACTS, TYPES]
end Go.Proofs.F13
namespace Go.Proofs.F13
set_option linter.unusedVariables false
set_option linter.unusedSimpArgs false
set_option linter.unusedSectionVars false
open Go.Ab
theorem loop21_5 (kf : Nat) (b : Code) (hb : loopOf Tryd.f21 5 = b) (l0 : List Ins) (nl : Bool) (cap : Option Nat) (hlen : l0.length < 1000000) (o0 o1 : AObj) (hu : AObj.under 3 o0 = true ∧ AObj.under 3 o1 = true) :
    ∀ (rest pre : List Ins) (m0 m1 m2 m3 m4 : Int) (k : Nat) (l : Ass) (H : Heap) (z : Option Out), loopL Tryd.prog tab kf 21 b 51 [2, 4, 12, 13, 14] 3 k l H = z → l0 = pre ++ rest → rest.length < k → asc l 2 = .ptr 1 0 → asc l 4 = .ptr 2 0 → asc l 12 = sC l0 nl cap → asc l 13 = ii l0.length → asc l 14 = ii pre.length →
    (0 ≤ m0 ∧ m0 ≤ pre.length ∧ 0 ≤ m1 ∧ m1 ≤ pre.length ∧ 0 ≤ m2 ∧ m2 ≤ pre.length ∧ 0 ≤ m3 ∧ m3 ≤ pre.length ∧ 0 ≤ m4 ∧ m4 ≤ pre.length) →
    H.take 3 = [o0, o1, .cells 47 [ii m0, ii m1, ii m2, ii m3, ii m4]] →
    ∃ l' n0 n1 n4, z = some (.exit 0 (fr 51 l') [o0, o1, .cells 47 [ii n0, ii n1, ii (m2 + cnt 5 rest), ii (m3 + cnt 6 rest), ii n4]]) ∧ asc l' 2 = .ptr 1 0 ∧ asc l' 4 = .ptr 2 0 := by
  have hev : ∀ F H, evalCode Tryd.prog (cxF Tryd.prog (mkHints tab) kf 21) b F H = evalCode Tryd.prog (cxF Tryd.prog (mkHints tab) kf 21) (loopOf Tryd.f21 5) F H := fun _ _ => by rw [hb]
  intro rest
  induction rest with
  | nil =>
    intro pre m0 m1 m2 m3 m4 k l H z hz he hk h2 h4 h12 h13 h14 hm hH
    obtain ⟨k, rfl⟩ : ∃ j, k = j + 1 := ⟨k - 1, by simp at hk; omega⟩
    have hc : ¬ ((pre.length : Int) < l0.length) := by rw [he]; simp
    have ht : trim 3 (fr 51 (keep l [2, 4, 12, 13, 14])) H = [o0, o1, .cells 47 [ii m0, ii m1, ii m2, ii m3, ii m4]] := by
      rw [trim_fr (by simp only [h2, h4, h12, h13, h14, EVb, condO_ite, Int.reduceEq, Int.reduceToNat, Int.reduceLE, Int.reduceLT, Int.reduceAdd, Int.reduceMul, Int.reduceSub, Int.reduceNeg, Nat.reduceAdd, Nat.reduceSub, Nat.reduceMul, Nat.reduceLT, Nat.reduceBEq, Nat.reduceEqDiff, Nat.reduceLeDiff]) (by rw [hH]; simp only [hu.1, hu.2, EVb, condO_ite, Int.reduceEq, Int.reduceToNat, Int.reduceLE, Int.reduceLT, Int.reduceAdd, Int.reduceMul, Int.reduceSub, Int.reduceNeg, Nat.reduceAdd, Nat.reduceSub, Nat.reduceMul, Nat.reduceLT, Nat.reduceBEq, Nat.reduceEqDiff, Nat.reduceLeDiff]), hH]
    simp only [loopL_succ, hev, ht] at hz
    simp only [h2, h4, h12, h13, h14, hc, loopL_succ, loopOf, findLoop, firstRegion, Option.some_or, Option.none_or, Option.getD_some, Option.some.injEq, Tryd.f21, EVb, EVc, Int.reduceEq, Int.reduceToNat, Int.reduceLE, Int.reduceLT, Int.reduceAdd, Int.reduceMul, Int.reduceSub, Int.reduceNeg, Nat.reduceAdd, Nat.reduceSub, Nat.reduceMul, Nat.reduceLT, Nat.reduceBEq, Nat.reduceEqDiff, Nat.reduceLeDiff, FACTS] at hz
    have e5 : m2 + ((cnt 5 [] : Nat) : Int) = m2 := by simp [cnt]
    have e6 : m3 + ((cnt 6 [] : Nat) : Int) = m3 := by simp [cnt]
    simp only [e5, e6]
    exact ⟨_, m0, m1, m4, hz.symm, (by rfl), (by rfl)⟩
  | cons i rest ih =>
    intro pre m0 m1 m2 m3 m4 k l H z hz he hk h2 h4 h12 h13 h14 hm hH
    obtain ⟨k, rfl⟩ : ∃ j, k = j + 1 := ⟨k - 1, by simp at hk; omega⟩
    have hc : ((pre.length : Int) < l0.length) := by rw [he]; simp; omega
    have hc0 : (0 : Int) ≤ pre.length := by omega
    have hx := encCode_at pre rest i
    rw [← he, takeCells_eq] at hx
    have hpl : pre.length < 1000000 := by rw [he] at hlen; simp at hlen; omega
    have hw : IntKind.wrap .i64 ((pre.length : Int) + 1) = ((pre ++ [i]).length : Int) := by rw [wrap64 (by omega) (by omega)]; simp
    have w0 : IntKind.wrap .i64 (m0 + 1) = m0 + 1 := wrap64 (by omega) (by omega)
    have w1 : IntKind.wrap .i64 (m1 + 1) = m1 + 1 := wrap64 (by omega) (by omega)
    have w2 : IntKind.wrap .i64 (m2 + 1) = m2 + 1 := wrap64 (by omega) (by omega)
    have w3 : IntKind.wrap .i64 (m3 + 1) = m3 + 1 := wrap64 (by omega) (by omega)
    have w4 : IntKind.wrap .i64 (m4 + 1) = m4 + 1 := wrap64 (by omega) (by omega)
    have ht : trim 3 (fr 51 (keep l [2, 4, 12, 13, 14])) H = [o0, o1, .cells 47 [ii m0, ii m1, ii m2, ii m3, ii m4]] := by
      rw [trim_fr (by simp only [h2, h4, h12, h13, h14, EVb, condO_ite, Int.reduceEq, Int.reduceToNat, Int.reduceLE, Int.reduceLT, Int.reduceAdd, Int.reduceMul, Int.reduceSub, Int.reduceNeg, Nat.reduceAdd, Nat.reduceSub, Nat.reduceMul, Nat.reduceLT, Nat.reduceBEq, Nat.reduceEqDiff, Nat.reduceLeDiff]) (by rw [hH]; simp only [hu.1, hu.2, EVb, condO_ite, Int.reduceEq, Int.reduceToNat, Int.reduceLE, Int.reduceLT, Int.reduceAdd, Int.reduceMul, Int.reduceSub, Int.reduceNeg, Nat.reduceAdd, Nat.reduceSub, Nat.reduceMul, Nat.reduceLT, Nat.reduceBEq, Nat.reduceEqDiff, Nat.reduceLeDiff]), hH]
    simp only [loopL_succ, hev, ht] at hz
    simp only [h2, h4, h12, h13, h14, hc, hc0, hx, enc1, loopL_succ, loopOf, findLoop, firstRegion, Option.some_or, Option.none_or, Option.getD_some, Option.some.injEq, Tryd.f21, EVb, EVc, Int.reduceEq, Int.reduceToNat, Int.reduceLE, Int.reduceLT, Int.reduceAdd, Int.reduceMul, Int.reduceSub, Int.reduceNeg, Nat.reduceAdd, Nat.reduceSub, Nat.reduceMul, Nat.reduceLT, Nat.reduceBEq, Nat.reduceEqDiff, Nat.reduceLeDiff, FACTS, TYPES] at hz
    have c5 := cnt_cons 5 i rest
    have c6 := cnt_cons 6 i rest
    have hpp : ((pre ++ [i]).length : Int) = pre.length + 1 := by simp
    have fin : ∀ (n0 n1 n2 n3 n4 : Int) (k : Nat) (l : Ass) (H : Heap), loopL Tryd.prog tab kf 21 b 51 [2, 4, 12, 13, 14] 3 k l H = z → rest.length < k → asc l 2 = .ptr 1 0 → asc l 4 = .ptr 2 0 → asc l 12 = sC l0 nl cap → asc l 13 = ii l0.length → asc l 14 = ii (pre ++ [i]).length →
        H.take 3 = [o0, o1, .cells 47 [ii n0, ii n1, ii n2, ii n3, ii n4]] →
        (0 ≤ n0 ∧ n0 ≤ (pre.length : Int) + 1 ∧ 0 ≤ n1 ∧ n1 ≤ (pre.length : Int) + 1 ∧ 0 ≤ n2 ∧ n2 ≤ (pre.length : Int) + 1 ∧ 0 ≤ n3 ∧ n3 ≤ (pre.length : Int) + 1 ∧ 0 ≤ n4 ∧ n4 ≤ (pre.length : Int) + 1) → n2 = m2 + one1 5 i → n3 = m3 + one1 6 i →
        ∃ l' n0 n1 n4, z = some (.exit 0 (fr 51 l') [o0, o1, .cells 47 [ii n0, ii n1, ii (m2 + cnt 5 (i :: rest)), ii (m3 + cnt 6 (i :: rest)), ii n4]]) ∧ asc l' 2 = .ptr 1 0 ∧ asc l' 4 = .ptr 2 0 := by
      intro n0 n1 n2 n3 n4 k l H hz hk g2 g4 g12 g13 g14 hH hn e2 e3
      obtain ⟨l', q0, q1, q4, e, e'⟩ := ih (pre ++ [i]) n0 n1 n2 n3 n4 k l H z hz (by rw [he]; simp) hk g2 g4 g12 g13 g14 (by rw [hpp]; exact hn) hH
      refine ⟨l', q0, q1, q4, ?_, e'⟩
      rw [e, c5, c6, e2, e3]
      simp only [Int.natCast_add]
      rw [show m2 + (one1 5 i : Int) + (cnt 5 rest : Int) = m2 + ((cnt 5 rest : Int) + (one1 5 i : Int)) by omega, show m3 + (one1 6 i : Int) + (cnt 6 rest : Int) = m3 + ((cnt 6 rest : Int) + (one1 6 i : Int)) by omega]
    have hkk : rest.length < k := by simp at hk; omega
    by_cases p1 : i.op = 1
    · simp only [p1, hw, w0, EVb, condO_ite, Int.reduceEq, Int.reduceToNat, Int.reduceLE, Int.reduceLT, Int.reduceAdd, Int.reduceMul, Int.reduceSub, Int.reduceNeg, Nat.reduceAdd, Nat.reduceSub, Nat.reduceMul, Nat.reduceLT, Nat.reduceBEq, Nat.reduceEqDiff, Nat.reduceLeDiff, FACTS, TYPES] at hz
      exact fin _ _ _ _ _ _ _ _ hz hkk (by rfl) (by rfl) (by rfl) (by rfl) (by rfl) (by rfl) (by omega) (by simp [one1, p1]) (by simp [one1, p1])
    by_cases p5 : i.op = 5
    · simp only [p1, p5, hw, w2, EVb, condO_ite, Int.reduceEq, Int.reduceToNat, Int.reduceLE, Int.reduceLT, Int.reduceAdd, Int.reduceMul, Int.reduceSub, Int.reduceNeg, Nat.reduceAdd, Nat.reduceSub, Nat.reduceMul, Nat.reduceLT, Nat.reduceBEq, Nat.reduceEqDiff, Nat.reduceLeDiff, FACTS, TYPES] at hz
      exact fin _ _ _ _ _ _ _ _ hz hkk (by rfl) (by rfl) (by rfl) (by rfl) (by rfl) (by rfl) (by omega) (by simp [one1, p5]) (by simp [one1, p5])
    by_cases p6 : i.op = 6
    · simp only [p1, p5, p6, hw, w3, EVb, condO_ite, Int.reduceEq, Int.reduceToNat, Int.reduceLE, Int.reduceLT, Int.reduceAdd, Int.reduceMul, Int.reduceSub, Int.reduceNeg, Nat.reduceAdd, Nat.reduceSub, Nat.reduceMul, Nat.reduceLT, Nat.reduceBEq, Nat.reduceEqDiff, Nat.reduceLeDiff, FACTS, TYPES] at hz
      exact fin _ _ _ _ _ _ _ _ hz hkk (by rfl) (by rfl) (by rfl) (by rfl) (by rfl) (by rfl) (by omega) (by simp [one1, p6]) (by simp [one1, p6])
    by_cases p7 : i.op = 7
    · simp only [p1, p5, p6, p7, hw, w4, EVb, condO_ite, Int.reduceEq, Int.reduceToNat, Int.reduceLE, Int.reduceLT, Int.reduceAdd, Int.reduceMul, Int.reduceSub, Int.reduceNeg, Nat.reduceAdd, Nat.reduceSub, Nat.reduceMul, Nat.reduceLT, Nat.reduceBEq, Nat.reduceEqDiff, Nat.reduceLeDiff, FACTS, TYPES] at hz
      exact fin _ _ _ _ _ _ _ _ hz hkk (by rfl) (by rfl) (by rfl) (by rfl) (by rfl) (by rfl) (by omega) (by simp [one1, p7]) (by simp [one1, p7])
    by_cases p8 : i.op = 8
    · simp only [p1, p5, p6, p7, p8, hw, w4, EVb, condO_ite, Int.reduceEq, Int.reduceToNat, Int.reduceLE, Int.reduceLT, Int.reduceAdd, Int.reduceMul, Int.reduceSub, Int.reduceNeg, Nat.reduceAdd, Nat.reduceSub, Nat.reduceMul, Nat.reduceLT, Nat.reduceBEq, Nat.reduceEqDiff, Nat.reduceLeDiff, FACTS, TYPES] at hz
      exact fin _ _ _ _ _ _ _ _ hz hkk (by rfl) (by rfl) (by rfl) (by rfl) (by rfl) (by rfl) (by omega) (by simp [one1, p8]) (by simp [one1, p8])
    · simp only [p1, p5, p6, p7, p8, hw, w1, EVb, condO_ite, Int.reduceEq, Int.reduceToNat, Int.reduceLE, Int.reduceLT, Int.reduceAdd, Int.reduceMul, Int.reduceSub, Int.reduceNeg, Nat.reduceAdd, Nat.reduceSub, Nat.reduceMul, Nat.reduceLT, Nat.reduceBEq, Nat.reduceEqDiff, Nat.reduceLeDiff, FACTS, TYPES] at hz
      exact fin _ _ _ _ _ _ _ _ hz hkk (by rfl) (by rfl) (by rfl) (by rfl) (by rfl) (by rfl) (by omega) (by simp [one1, p5]) (by simp [one1, p6])
theorem count_ev (k : Nat) (p : Pg) (nl : Bool) (cap : Option Nat) (nl2 : Bool) (cap2 : Option Nat) (hk : p.outs.length + p.code.length + 20 ≤ k) (hr : rightM p = true) :
    ∃ n0 n1 n4, run (k+1) 21 [aP p nl cap nl2 cap2] = some (.tup [.agg [ii n0, ii n1, ii (cnt 5 p.code), ii (cnt 6 p.code), ii n4], ii 0]) := by
  obtain ⟨k, rfl⟩ : ∃ j, k = j + 1 := ⟨k - 1, by omega⟩
  have hc := right37_ev k p nl cap nl2 cap2 (by omega)
  rw [hr] at hc
  simp only [run, aP, ii, bb] at hc
  obtain ⟨ins, regs, code, outs⟩ := p
  simp only [rightM, Bool.and_eq_true] at hr
  obtain ⟨⟨hr1, _⟩, _⟩ := hr
  simp only [headM, decide_eq_true_eq] at hr1
  simp only at hk
  rw [run, ev21]
  simp only [Tryd.f21, aP, ii, bb, hc, EVb, EVc, Int.reduceEq, Int.reduceToNat, Int.reduceLE, Int.reduceLT, Int.reduceAdd, Int.reduceMul, Int.reduceSub, Int.reduceNeg, Nat.reduceAdd, Nat.reduceSub, Nat.reduceMul, Nat.reduceLT, Nat.reduceBEq, Nat.reduceEqDiff, Nat.reduceLeDiff, FACTS, TYPES]
  rw [evalCode_loopOf Tryd.f21 5 lp21_5]; rotate_left; rfl; rfl
  generalize hz : loopL _ _ _ _ _ _ _ _ _ _ _ = z
  obtain ⟨l', n0, n1, n4, rfl, e2, e4⟩ := loop21_5 (k+1) _ rfl code nl cap (by omega) (.cells 25 [ii ins, ii regs, .c (.slice (encCode code) code.length nl cap), .c (.slice (encInts outs) outs.length nl2 cap2)]) (.cells 47 [ii 0, ii 0, ii 0, ii 0, ii 0]) ⟨by rfl, by rfl⟩ code [] 0 0 0 0 0 _ _ _ z hz rfl (by omega) (by rfl) (by rfl) (by rfl) (by rfl) (by rfl) (by simp) (by rfl)
  refine ⟨n0, n1, n4, ?_⟩
  simp only [e2, e4, Int.zero_add, EVb, EVc, Int.reduceEq, Int.reduceToNat, Int.reduceLE, Int.reduceLT, Int.reduceAdd, Int.reduceMul, Int.reduceSub, Int.reduceNeg, Nat.reduceAdd, Nat.reduceSub, Nat.reduceMul, Nat.reduceLT, Nat.reduceBEq, Nat.reduceEqDiff, Nat.reduceLeDiff, FACTS, TYPES]
end Go.Proofs.F13
