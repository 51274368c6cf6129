/- A part of the proof: what functions of the program answer; conditions stand in each theorem. -/
import Derived.Test.YtefdgfdahmaciaaVFacts
import Derived.Test.YtefdgfdahmaciaaAbSim
set_option linter.unusedVariables false
set_option linter.unusedSimpArgs false
set_option linter.unusedSectionVars false
namespace Go.Proofs.Sw
def vd : List Nat → Nat
  | [] => 0
  | d :: l => d + 65536 * vd l
def okD (l : List Nat) : Prop := ∀ d ∈ l, d < 65536
theorem okD_nil : okD [] := fun _ h => by cases h
theorem okD_cons {d : Nat} {l : List Nat} : okD (d :: l) ↔ d < 65536 ∧ okD l := by
  constructor
  · intro h; exact ⟨h d (by simp), fun x hx => h x (by simp [hx])⟩
  · rintro ⟨h1, h2⟩ x hx
    rcases List.mem_cons.1 hx with rfl | hx
    · exact h1
    · exact h2 x hx
theorem vd_append : ∀ (a b : List Nat), vd (a ++ b) = vd a + 65536 ^ a.length * vd b
  | [], b => by simp [vd]
  | d :: a, b => by
    rw [List.cons_append, vd, vd, vd_append a b, List.length_cons, Nat.pow_succ, Nat.mul_add]
    rw [show 65536 * (65536 ^ a.length * vd b) = 65536 ^ a.length * 65536 * vd b by rw [Nat.mul_comm (65536 ^ a.length) 65536, Nat.mul_assoc]]
    omega
theorem vd_lt : ∀ {l : List Nat}, okD l → vd l < 65536 ^ l.length
  | [], _ => by simp [vd]
  | d :: l, h => by
    obtain ⟨h1, h2⟩ := okD_cons.1 h
    have := vd_lt h2
    rw [vd, List.length_cons, Nat.pow_succ]
    have h3 : 65536 * (vd l + 1) ≤ 65536 * 65536 ^ l.length := Nat.mul_le_mul_left _ this
    rw [Nat.mul_comm (65536 ^ l.length) 65536]
    omega
theorem vd_snoc (a : List Nat) (x : Nat) : vd (a ++ [x]) = vd a + 65536 ^ a.length * x := by
  rw [vd_append]; simp [vd]
def trimD : List Nat → List Nat
  | [] => []
  | d :: l => if trimD l = [] ∧ d = 0 then [] else d :: trimD l
theorem vd_trim : ∀ l, vd (trimD l) = vd l
  | [] => rfl
  | d :: l => by
    have ih := vd_trim l
    rw [trimD]
    split
    · rename_i h
      rw [h.1] at ih
      simp only [vd] at ih ⊢
      omega
    · rw [vd, vd, ih]
theorem trim_take : ∀ l, trimD l = l.take (trimD l).length
  | [] => rfl
  | d :: l => by
    have ih := trim_take l
    rw [trimD]
    split
    · rfl
    · rw [List.length_cons, List.take_succ_cons, ← ih]
theorem trim_len (l : List Nat) : (trimD l).length ≤ l.length := by
  rw [trim_take l]; simp; omega
theorem trim_ok {l : List Nat} (h : okD l) : okD (trimD l) := by
  rw [trim_take l]; exact fun d hd => h d (List.mem_of_mem_take hd)
theorem trim_zero : ∀ {l : List Nat} {i : Nat}, (trimD l).length ≤ i → i < l.length → l.getD i 0 = 0
  | [], i, _, h => by simp at h
  | d :: l, i, h1, h2 => by
    rw [trimD] at h1
    split at h1
    · rename_i h
      cases i with
      | zero => simpa using h.2
      | succ i =>
        have := trim_zero (l := l) (i := i) (by rw [h.1]; simp) (by simpa using h2)
        simpa using this
    · cases i with
      | zero => simp at h1
      | succ i =>
        have := trim_zero (l := l) (i := i) (by simpa using h1) (by simpa using h2)
        simpa using this
theorem trim_last : ∀ {l : List Nat}, trimD l ≠ [] → (trimD l).getD ((trimD l).length - 1) 0 ≠ 0
  | [], h => absurd rfl h
  | d :: l, h => by
    rw [trimD] at h ⊢
    split at h
    · exact absurd rfl h
    · rename_i hc
      rw [if_neg hc]
      by_cases hl : trimD l = []
      · rw [hl]
        simpa using fun e => hc ⟨hl, e⟩
      · have ih := trim_last hl
        have hp : 0 < (trimD l).length := List.length_pos_iff.2 hl
        obtain ⟨m, hm⟩ : ∃ m, (trimD l).length = m + 1 := ⟨(trimD l).length - 1, by omega⟩
        rw [List.length_cons, hm]
        rw [hm] at ih
        simpa using ih
theorem trim_app0 : ∀ (l : List Nat), trimD (l ++ [0]) = trimD l
  | [] => rfl
  | d :: l => by rw [List.cons_append, trimD, trimD, trim_app0 l]
theorem trim_trim (l : List Nat) : trimD (trimD l) = trimD l := by
  induction l with
  | nil => rfl
  | cons d l ih =>
    rw [trimD]
    split
    · rfl
    · rename_i h
      rw [trimD, ih, if_neg h]
structure Can (l : List Nat) : Prop where
  ok : okD l
  tr : trimD l = l
theorem can_trim {l : List Nat} (h : okD l) : Can (trimD l) := ⟨trim_ok h, trim_trim l⟩
theorem can_nil : Can [] := ⟨okD_nil, rfl⟩
theorem can_tail {d : Nat} {l : List Nat} (h : Can (d :: l)) : Can l := by
  refine ⟨(okD_cons.1 h.ok).2, ?_⟩
  have := h.tr
  rw [trimD] at this
  split at this
  · cases this
  · exact (List.cons.inj this).2
theorem can_zero {l : List Nat} (h : Can l) (h0 : vd l = 0) : l = [] := by
  induction l with
  | nil => rfl
  | cons d l ih =>
    rw [vd] at h0
    have hl := ih (can_tail h) (by omega)
    have := h.tr
    rw [trimD, hl, if_pos ⟨rfl, by omega⟩] at this
    cases this
theorem can_inj : ∀ {a b : List Nat}, Can a → Can b → vd a = vd b → a = b
  | [], b, _, hb, h => (can_zero hb h.symm).symm
  | x :: a, [], ha, _, h => can_zero ha h
  | x :: a, y :: b, ha, hb, h => by
    have h1 := (okD_cons.1 ha.ok).1
    have h2 := (okD_cons.1 hb.ok).1
    rw [vd, vd] at h
    have e1 : x = y := by omega
    have e2 : vd a = vd b := by omega
    rw [e1, can_inj (can_tail ha) (can_tail hb) e2]
def digF : Nat → Nat → List Nat
  | 0, _ => []
  | f + 1, n => if n = 0 then [] else n % 65536 :: digF f (n / 65536)
def dig (n : Nat) : List Nat := digF n n
theorem digF_spec : ∀ (f n : Nat), n ≤ f → vd (digF f n) = n ∧ Can (digF f n)
  | 0, n, h => by
    have : n = 0 := by omega
    subst this
    exact ⟨rfl, can_nil⟩
  | f + 1, n, h => by
    rw [digF]
    split
    · rename_i h0; subst h0; exact ⟨rfl, can_nil⟩
    · rename_i h0
      obtain ⟨h1, h2⟩ := digF_spec f (n / 65536) (by omega)
      refine ⟨by rw [vd, h1]; omega, okD_cons.2 ⟨by omega, h2.ok⟩, ?_⟩
      rw [trimD, h2.tr, if_neg]
      rintro ⟨h3, h4⟩
      rw [h3] at h1
      simp only [vd] at h1
      omega
theorem vd_dig (n : Nat) : vd (dig n) = n := (digF_spec n n (Nat.le_refl _)).1
theorem can_dig (n : Nat) : Can (dig n) := (digF_spec n n (Nat.le_refl _)).2
theorem dig_of {l : List Nat} (h : okD l) : trimD l = dig (vd l) := can_inj (can_trim h) (can_dig _) (by rw [vd_trim, vd_dig])
theorem dig_zero : dig 0 = [] := rfl
theorem dig_pos {n : Nat} (h : 0 < n) : dig n ≠ [] := fun e => by
  have := vd_dig n
  rw [e] at this
  simp only [vd] at this
  omega
theorem dig_nil {n : Nat} : dig n = [] ↔ n = 0 := by
  constructor
  · intro h
    by_cases h0 : n = 0
    · exact h0
    · exact absurd h (dig_pos (by omega))
  · rintro rfl; rfl
theorem dig_len {n k : Nat} (h : n < 65536 ^ k) : (dig n).length ≤ k := by
  by_cases hk : (dig n).length ≤ k
  · exact hk
  · exfalso
    have hc := can_dig n
    have hv := vd_dig n
    obtain ⟨l, x, hx⟩ : ∃ l x, dig n = l ++ [x] := by
      have hne : dig n ≠ [] := fun e => by rw [e] at hk; simp at hk
      exact ⟨(dig n).dropLast, (dig n).getLast hne, (List.dropLast_concat_getLast hne).symm⟩
    have hx0 : x ≠ 0 := fun e => by
      subst e
      have := hc.tr
      rw [hx, trim_app0] at this
      have h2 := trim_len l
      have h3 := congrArg List.length this
      simp at h3
      omega
    rw [hx] at hv hk
    rw [vd_snoc] at hv
    rw [List.length_append] at hk
    simp only [List.length_cons, List.length_nil] at hk
    have h1 : 65536 ^ k ≤ 65536 ^ l.length := Nat.pow_le_pow_right (by omega) (by omega)
    have h2 : 65536 ^ l.length * 1 ≤ 65536 ^ l.length * x := Nat.mul_le_mul_left _ (by omega)
    omega
theorem dig_step {n : Nat} (h : 0 < n) : dig n = n % 65536 :: dig (n / 65536) := by
  refine can_inj (can_dig _) ⟨okD_cons.2 ⟨by omega, (can_dig _).ok⟩, ?_⟩ ?_
  · rw [trimD, (can_dig _).tr, if_neg]
    rintro ⟨h1, h2⟩
    have := dig_nil.1 h1
    omega
  · rw [vd_dig, vd, vd_dig]; omega
def uS (u : Nat) : Nat → Nat
  | 0 => u
  | i + 1 => uS u i / 65536
theorem dig_drop (u : Nat) : ∀ i, (dig u).drop i = dig (uS u i)
  | 0 => rfl
  | i + 1 => by
    have ih := dig_drop u i
    rw [← List.drop_drop, ih, uS]
    by_cases h : 0 < uS u i
    · rw [dig_step h]; rfl
    · rw [show uS u i = 0 by omega]; rfl
theorem uS_pos {u i : Nat} (h : i < (dig u).length) : 0 < uS u i := by
  have := dig_drop u i
  by_cases h0 : 0 < uS u i
  · exact h0
  · exfalso
    rw [show uS u i = 0 by omega, dig_zero] at this
    have := congrArg List.length this
    simp at this
    omega
theorem uS_end (u : Nat) : uS u (dig u).length = 0 := by
  have := dig_drop u (dig u).length
  rw [List.drop_length] at this
  exact dig_nil.1 this.symm
theorem dig_take {u i : Nat} (h : i < (dig u).length) : (dig u).take (i + 1) = (dig u).take i ++ [uS u i % 65536] := by
  have h1 := dig_drop u i
  rw [dig_step (uS_pos h)] at h1
  have h2 : (dig u)[i]? = some (uS u i % 65536) := by
    have := congrArg (·[0]?) h1
    simpa [List.getElem?_drop] using this
  rw [List.take_add_one, h2]; rfl
theorem uS_le (u : Nat) : ∀ i, uS u i ≤ u
  | 0 => Nat.le_refl _
  | i + 1 => by have := uS_le u i; rw [uS]; omega
end Go.Proofs.Sw
namespace Go.Proofs.Sw
open Go.Ab
variable [Globals]
structure Ins where
  op : Int
  to : Int
  a : Int
  b : Int
  c : Int
  deriving DecidableEq
abbrev ii (n : Int) : AV := .c (.int .i64 n)
abbrev bb (n : Bool) : AV := .c (.bool n)
abbrev aI (o t a b c : Int) : AV := .agg [ii o, ii t, ii a, ii b, ii c]
noncomputable abbrev run (k f : Nat) (args : List AV) : Option AV := ans (evalT Try.prog (mkHints tab) k (.fn f) args [])
abbrev nlE {α : Type} (l : List α) : Bool := decide (l.length = 0)
abbrev cpE {α : Type} (l : List α) : Option Nat := if l.length = 0 then some 0 else none
def two (op : Int) : Bool := decide (op = 3) || decide (op = 4)
theorem two_ev (k : Nat) (op : Int) : run (k+1) 123 [ii op] = some (bb (two op)) := by
  rw [run, ev123, ans_trim]
  simp only [Try.f123, EVb, condO_ite, Int.reduceEq, Int.reduceToNat, Int.reduceLE, Int.reduceLT, Int.reduceAdd, Int.reduceMul, Int.reduceSub, Int.reduceNeg, Nat.reduceAdd, Nat.reduceSub, Nat.reduceMul, Nat.reduceLT, Nat.reduceBEq, Nat.reduceEqDiff, Nat.reduceLeDiff, FACTS, TYPES]
  unfold two
  split <;> simp_all only [EVb, condO_ite, Int.reduceEq, Int.reduceToNat, Int.reduceLE, Int.reduceLT, Int.reduceAdd, Int.reduceMul, Int.reduceSub, Int.reduceNeg, Nat.reduceAdd, Nat.reduceSub, Nat.reduceMul, Nat.reduceLT, Nat.reduceBEq, Nat.reduceEqDiff, Nat.reduceLeDiff] <;> simp
def constant (i : Ins) : Bool :=
  if i.op = 5 ∨ i.op = 6 then decide (i.c ≠ 0 ∧ -512 ≤ i.c ∧ i.c ≤ 512)
  else if i.op = 7 ∨ i.op = 8 then decide (1 ≤ i.c ∧ i.c ≤ 64)
  else decide (i.c = 0)
theorem constant_ev (k : Nat) (o t a b c : Int) : run (k+1) 124 [aI o t a b c] = some (bb (constant ⟨o, t, a, b, c⟩)) := by
  rw [run, ev124, ans_trim]
  simp only [Try.f124, aI, ii, EVb, condO_ite, Int.reduceEq, Int.reduceToNat, Int.reduceLE, Int.reduceLT, Int.reduceAdd, Int.reduceMul, Int.reduceSub, Int.reduceNeg, Nat.reduceAdd, Nat.reduceSub, Nat.reduceMul, Nat.reduceLT, Nat.reduceBEq, Nat.reduceEqDiff, Nat.reduceLeDiff, FACTS, TYPES]
  repeat' (split <;> simp only [*, EVb, condO_ite, Int.reduceEq, Int.reduceToNat, Int.reduceLE, Int.reduceLT, Int.reduceAdd, Int.reduceMul, Int.reduceSub, Int.reduceNeg, Nat.reduceAdd, Nat.reduceSub, Nat.reduceMul, Nat.reduceLT, Nat.reduceBEq, Nat.reduceEqDiff, Nat.reduceLeDiff, FACTS])
  all_goals simp [constant, *]
def asks (i : Ins) : List Int := if i.op = 3 ∨ i.op = 4 then [i.a, i.b] else if 1 ≤ i.op ∧ i.op ≤ 8 then [i.a] else []
def encInts (l : List Int) : List IV := l.map (.int .i64)
abbrev sI (l : List Int) (nl : Bool) (cap : Option Nat) : AV := .c (.slice (encInts l) l.length nl cap)
abbrev sE (l : List Int) : AV := sI l (nlE l) (cpE l)
theorem asks_ev (k : Nat) (o t a b c : Int) : run (k+1) 79 [aI o t a b c] = some (sE (asks ⟨o, t, a, b, c⟩)) := by
  rw [run, ev79, ans_trim]
  simp only [Try.f79, aI, ii, EVb, condO_ite, Int.reduceEq, Int.reduceToNat, Int.reduceLE, Int.reduceLT, Int.reduceAdd, Int.reduceMul, Int.reduceSub, Int.reduceNeg, Nat.reduceAdd, Nat.reduceSub, Nat.reduceMul, Nat.reduceLT, Nat.reduceBEq, Nat.reduceEqDiff, Nat.reduceLeDiff, FACTS, TYPES]
  repeat' (split <;> simp only [*, EVb, condO_ite, Int.reduceEq, Int.reduceToNat, Int.reduceLE, Int.reduceLT, Int.reduceAdd, Int.reduceMul, Int.reduceSub, Int.reduceNeg, Nat.reduceAdd, Nat.reduceSub, Nat.reduceMul, Nat.reduceLT, Nat.reduceBEq, Nat.reduceEqDiff, Nat.reduceLeDiff, FACTS])
  all_goals simp [asks, encInts, *]
  all_goals (have hn : ¬ (1 ≤ o ∧ o ≤ 8) := by omega); (simp only [hn, if_false]; exact ⟨fun _ => by omega, rfl, fun _ => by omega⟩)
def mayM (i : Ins) (regs : Int) : Bool :=
  decide (1 ≤ i.op ∧ i.op ≤ 8 ∧ 0 ≤ i.to ∧ i.to < regs ∧ (i.op = 3 ∨ i.op = 4 ∨ i.b = 0)) && constant i && decide (0 ≤ i.a ∧ i.a < regs) && decide ((i.op = 3 ∨ i.op = 4) → 0 ≤ i.b ∧ i.b < regs)
theorem asks_two {i : Ins} (h : i.op = 3 ∨ i.op = 4) : asks i = [i.a, i.b] := if_pos h
theorem asks_one {i : Ins} (h : ¬ (i.op = 3 ∨ i.op = 4)) (h2 : 1 ≤ i.op ∧ i.op ≤ 8) : asks i = [i.a] := by unfold asks; rw [if_neg h, if_pos h2]
theorem may_ev (k : Nat) (o t a b c regs : Int) : run (k+4) 100 [aI o t a b c, ii regs] = some (bb (mayM ⟨o, t, a, b, c⟩ regs)) := by
  rw [run, ev100, ans_trim]
  simp only [Try.f100, aI, ii, bb, EVb, condO_ite, Int.reduceEq, Int.reduceToNat, Int.reduceLE, Int.reduceLT, Int.reduceAdd, Int.reduceMul, Int.reduceSub, Int.reduceNeg, Nat.reduceAdd, Nat.reduceSub, Nat.reduceMul, Nat.reduceLT, Nat.reduceBEq, Nat.reduceEqDiff, Nat.reduceLeDiff, FACTS, TYPES, two_ev, constant_ev, asks_ev]
  repeat' (split <;> simp only [*, EVb, condO_ite, Int.reduceEq, Int.reduceToNat, Int.reduceLE, Int.reduceLT, Int.reduceAdd, Int.reduceMul, Int.reduceSub, Int.reduceNeg, Nat.reduceAdd, Nat.reduceSub, Nat.reduceMul, Nat.reduceLT, Nat.reduceBEq, Nat.reduceEqDiff, Nat.reduceLeDiff, FACTS, two_ev, constant_ev, asks_ev])
  all_goals first
    | (simp [mayM, two, *] at *; omega)
    | (simp [mayM, two, *] at *; done)
    | skip
  · rw [asks_two (i := ⟨o, t, a, b, c⟩) (by simp [two] at *; simp [*])]
    simp only [sI, encInts, List.map_cons, List.map_nil, EVb, condO_ite, Int.reduceEq, Int.reduceToNat, Int.reduceLE, Int.reduceLT, Int.reduceAdd, Int.reduceMul, Int.reduceSub, Int.reduceNeg, Nat.reduceAdd, Nat.reduceSub, Nat.reduceMul, Nat.reduceLT, Nat.reduceBEq, Nat.reduceEqDiff, Nat.reduceLeDiff, FACTS]
    rw [evalCode_loopB LB100_4 lp100_4]; rotate_left; rfl; rfl; rfl
    simp only [sI, encInts, List.map_cons, List.map_nil, loopR_succ, loopOf, findLoop, firstRegion, Option.some_or, Option.none_or, Option.getD_some, Option.some.injEq, Try.f100, EVb, condO_ite, Int.reduceEq, Int.reduceToNat, Int.reduceLE, Int.reduceLT, Int.reduceAdd, Int.reduceMul, Int.reduceSub, Int.reduceNeg, Nat.reduceAdd, Nat.reduceSub, Nat.reduceMul, Nat.reduceLT, Nat.reduceBEq, Nat.reduceEqDiff, Nat.reduceLeDiff, FACTS]
    repeat' (split <;> simp only [*, sI, encInts, List.map_cons, List.map_nil, loopR_succ, loopOf, findLoop, firstRegion, Option.some_or, Option.none_or, Try.f100, EVb, condO_ite, Int.reduceEq, Int.reduceToNat, Int.reduceLE, Int.reduceLT, Int.reduceAdd, Int.reduceMul, Int.reduceSub, Int.reduceNeg, Nat.reduceAdd, Nat.reduceSub, Nat.reduceMul, Nat.reduceLT, Nat.reduceBEq, Nat.reduceEqDiff, Nat.reduceLeDiff, FACTS])
    all_goals (simp [mayM, two, *] at *; try omega)
  · rw [asks_one (i := ⟨o, t, a, 0, c⟩) (by simp [two] at *; simp [*]) (by simp; omega)]
    simp only [sI, encInts, List.map_cons, List.map_nil, EVb, condO_ite, Int.reduceEq, Int.reduceToNat, Int.reduceLE, Int.reduceLT, Int.reduceAdd, Int.reduceMul, Int.reduceSub, Int.reduceNeg, Nat.reduceAdd, Nat.reduceSub, Nat.reduceMul, Nat.reduceLT, Nat.reduceBEq, Nat.reduceEqDiff, Nat.reduceLeDiff, FACTS]
    rw [evalCode_loopB LB100_4 lp100_4]; rotate_left; rfl; rfl; rfl
    simp only [sI, encInts, List.map_cons, List.map_nil, loopR_succ, loopOf, findLoop, firstRegion, Option.some_or, Option.none_or, Option.getD_some, Option.some.injEq, Try.f100, EVb, condO_ite, Int.reduceEq, Int.reduceToNat, Int.reduceLE, Int.reduceLT, Int.reduceAdd, Int.reduceMul, Int.reduceSub, Int.reduceNeg, Nat.reduceAdd, Nat.reduceSub, Nat.reduceMul, Nat.reduceLT, Nat.reduceBEq, Nat.reduceEqDiff, Nat.reduceLeDiff, FACTS]
    repeat' (split <;> simp only [*, sI, encInts, List.map_cons, List.map_nil, loopR_succ, loopOf, findLoop, firstRegion, Option.some_or, Option.none_or, Try.f100, EVb, condO_ite, Int.reduceEq, Int.reduceToNat, Int.reduceLE, Int.reduceLT, Int.reduceAdd, Int.reduceMul, Int.reduceSub, Int.reduceNeg, Nat.reduceAdd, Nat.reduceSub, Nat.reduceMul, Nat.reduceLT, Nat.reduceBEq, Nat.reduceEqDiff, Nat.reduceLeDiff, FACTS])
    all_goals (simp [mayM, two, *] at *; try omega)
end Go.Proofs.Sw
namespace Go.Proofs.Sw
open Go.Ab
variable [Globals]
abbrev enc1 (i : Ins) : List IV := [.int .i64 i.op, .int .i64 i.to, .int .i64 i.a, .int .i64 i.b, .int .i64 i.c]
def encCode : List Ins → List IV
  | [] => []
  | i :: l => enc1 i ++ encCode l
theorem encInts_length (l : List Int) : (encInts l).length = l.length := by simp [encInts]
theorem encInts_append (l m : List Int) : encInts (l ++ m) = encInts l ++ encInts m := by simp [encInts]
theorem encCode_length : ∀ (l : List Ins), (encCode l).length = l.length * 5
  | [] => rfl
  | i :: l => by rw [encCode, List.length_append, encCode_length l]; simp; omega
theorem encCode_append : ∀ (l m : List Ins), encCode (l ++ m) = encCode l ++ encCode m
  | [], m => rfl
  | i :: l, m => by rw [List.cons_append, encCode, encCode, encCode_append l m, List.append_assoc]
theorem encInts_get {l : List Int} {i : Nat} (h : i < l.length) : (encInts l)[i]? = some (.int .i64 l[i]) := by
  simp [encInts, h]
theorem encCode_drop : ∀ (l : List Ins) (i : Nat), (encCode l).drop (i * 5) = encCode (l.drop i)
  | [], i => by simp [encCode]
  | x :: l, 0 => by simp
  | x :: l, i + 1 => by
    rw [encCode, List.drop_succ_cons, ← encCode_drop l i, show (i + 1) * 5 = (enc1 x).length + i * 5 by simp; omega, List.drop_append]
    simp
theorem encCode_get {l : List Ins} {i : Nat} (h : i < l.length) : (if i * 5 + 5 ≤ (encCode l).length then some (((encCode l).drop (i * 5)).take 5) else none) = some (enc1 l[i]) := by
  rw [encCode_length, if_pos (by omega), encCode_drop]
  have : l.drop i = l[i] :: l.drop (i + 1) := (List.drop_eq_getElem_cons h)
  rw [this, encCode]
  simp
theorem wrap_succ {i n : Nat} (h : i < n) (hn : n ≤ 4611686018427387904) : IntKind.wrap .i64 ((i : Int) + 1) = ((i + 1 : Nat) : Int) := by
  rw [wrap64 (by omega) (by omega)]; simp
structure Pg where
  ins : Int
  regs : Int
  code : List Ins
  outs : List Int
  deriving DecidableEq
abbrev sC (code : List Ins) (nl : Bool) (cap : Option Nat) : AV := .c (.slice (encCode code) code.length nl cap)
abbrev aP (p : Pg) (nl : Bool) (cap : Option Nat) (nl2 : Bool) (cap2 : Option Nat) : AV := .agg [ii p.ins, ii p.regs, sC p.code nl cap, sI p.outs nl2 cap2]
abbrev cP (ins regs : Int) (v ov : AV) : AObj := .cells 25 [ii ins, ii regs, v, ov]
def headM (p : Pg) : Bool := decide (1 ≤ p.ins ∧ p.ins ≤ p.regs ∧ p.regs ≤ 128 ∧ p.code.length ≤ 16384 ∧ 1 ≤ p.outs.length ∧ p.outs.length ≤ 128)
def outsM (p : Pg) : Bool := p.outs.all (fun r => decide (0 ≤ r ∧ r < p.regs))
def codeM (p : Pg) : Bool := p.code.all (fun i => mayM i p.regs)
def rightM (p : Pg) : Bool := headM p && outsM p && codeM p
def checkE (p : Pg) : Int := if rightM p then 0 else 80
section
variable (kf : Nat) (ins regs : Int) (cv ov : AV)
theorem loop_Check_4 (outs : List Int) (nl : Bool) (cap : Option Nat) (hlen : outs.length ≤ 4611686018427387904) (k : Nat) (l : Ass) (H : Heap) (z : Option Out)
    (hz : loopR Try.prog tab kf none LB62_4 62 72 [1, 42, 43, 44] 1 k l H = z) (hk : outs.length < k)
    (h1 : asc l 1 = .ptr 0 0) (h42 : asc l 42 = sI outs nl cap) (h43 : asc l 43 = ii outs.length) (h44 : asc l 44 = ii (0 : Nat)) (hH : H = [cP ins regs cv ov]) :
    ∃ l', (z = some (.exit 0 (fr 72 l') H) ∧ asc l' 1 = .ptr 0 0 ∧ outs.all (fun r => decide (0 ≤ r ∧ r < regs)) = true) ∨
      (z = some (.ret (fr 72 l') H) ∧ asc l' 2 = ii (-1) ∧ asc l' 3 = ii 80 ∧ outs.all (fun r => decide (0 ≤ r ∧ r < regs)) = false) := by
  subst hH
  subst hz
  refine loop_nat outs.length (fun k l H => loopR Try.prog tab kf none LB62_4 62 72 [1, 42, 43, 44] 1 k l H)
    (fun i l H => asc l 1 = .ptr 0 0 ∧ asc l 42 = sI outs nl cap ∧ asc l 43 = ii outs.length ∧ asc l 44 = ii i ∧ (∀ j, (h : j < i) → ∀ h2 : j < outs.length, 0 ≤ outs[j] ∧ outs[j] < regs) ∧ H = [cP ins regs cv ov])
    (fun z => ∃ l', (z = some (.exit 0 (fr 72 l') [cP ins regs cv ov]) ∧ asc l' 1 = .ptr 0 0 ∧ outs.all (fun r => decide (0 ≤ r ∧ r < regs)) = true) ∨
      (z = some (.ret (fr 72 l') [cP ins regs cv ov]) ∧ asc l' 2 = ii (-1) ∧ asc l' 3 = ii 80 ∧ outs.all (fun r => decide (0 ≤ r ∧ r < regs)) = false)) ?_ outs.length 0 k l _ (by omega) hk ⟨h1, h42, h43, h44, fun j h => absurd h (by omega), rfl⟩
  clear h1 h42 h43 h44 hk
  rintro i k l H hi ⟨h1, h42, h43, h44, hp, rfl⟩
  by_cases hc : i < outs.length
  · have hc' : ((i : Int) < outs.length) := by omega
    have hc0 : (0 : Int) ≤ i := by omega
    have hx := encInts_get hc
    have hw := wrap_succ hc hlen
    have hall : ¬ (0 ≤ outs[i] ∧ outs[i] < regs) → outs.all (fun r => decide (0 ≤ r ∧ r < regs)) = false := fun h => by
      rw [List.all_eq_false]; exact ⟨outs[i], List.getElem_mem hc, by simpa using h⟩
    by_cases hr : outs[i] < 0
    · refine .inl ?_
      simp only [h1, h42, h43, h44, hc', hc0, hx, hr, loopR_succ, loopOf, findLoop, firstRegion, Option.some_or, Option.none_or, Option.getD_some, Option.some.injEq, Try.f62, EVb, EVc, Int.reduceEq, Int.reduceToNat, Int.reduceLE, Int.reduceLT, Int.reduceAdd, Int.reduceMul, Int.reduceSub, Int.reduceNeg, Nat.reduceAdd, Nat.reduceSub, Nat.reduceMul, Nat.reduceLT, Nat.reduceBEq, Nat.reduceEqDiff, Nat.reduceLeDiff, FACTS]
      exact ⟨_, .inr ⟨rfl, (by rfl), (by rfl), hall (by omega)⟩⟩
    · by_cases hr2 : regs ≤ outs[i]
      · refine .inl ?_
        simp only [h1, h42, h43, h44, hc', hc0, hx, hr, hr2, loopR_succ, loopOf, findLoop, firstRegion, Option.some_or, Option.none_or, Option.getD_some, Option.some.injEq, Try.f62, EVb, EVc, Int.reduceEq, Int.reduceToNat, Int.reduceLE, Int.reduceLT, Int.reduceAdd, Int.reduceMul, Int.reduceSub, Int.reduceNeg, Nat.reduceAdd, Nat.reduceSub, Nat.reduceMul, Nat.reduceLT, Nat.reduceBEq, Nat.reduceEqDiff, Nat.reduceLeDiff, FACTS]
        exact ⟨_, .inr ⟨rfl, (by rfl), (by rfl), hall (by omega)⟩⟩
      · refine .inr ?_
        simp only [h1, h42, h43, h44, hc', hc0, hx, hr, hr2, hw, loopR_succ, loopOf, findLoop, firstRegion, Option.some_or, Option.none_or, Option.getD_some, Option.some.injEq, Try.f62, EVb, EVc, Int.reduceEq, Int.reduceToNat, Int.reduceLE, Int.reduceLT, Int.reduceAdd, Int.reduceMul, Int.reduceSub, Int.reduceNeg, Nat.reduceAdd, Nat.reduceSub, Nat.reduceMul, Nat.reduceLT, Nat.reduceBEq, Nat.reduceEqDiff, Nat.reduceLeDiff, FACTS]
        refine ⟨_, _, hc, rfl, (by rfl), (by rfl), (by rfl), (by rfl), fun j hj h2 => ?_, rfl⟩
        by_cases e : j = i
        · subst e; omega
        · exact hp j (by omega) h2
  · have hc' : ¬ ((i : Int) < outs.length) := by omega
    refine .inl ?_
    simp only [h1, h42, h43, h44, hc', loopR_succ, loopOf, findLoop, firstRegion, Option.some_or, Option.none_or, Option.getD_some, Option.some.injEq, Try.f62, EVb, EVc, Int.reduceEq, Int.reduceToNat, Int.reduceLE, Int.reduceLT, Int.reduceAdd, Int.reduceMul, Int.reduceSub, Int.reduceNeg, Nat.reduceAdd, Nat.reduceSub, Nat.reduceMul, Nat.reduceLT, Nat.reduceBEq, Nat.reduceEqDiff, Nat.reduceLeDiff, FACTS]
    refine ⟨_, .inl ⟨rfl, (by rfl), ?_⟩⟩
    rw [List.all_eq_true]
    intro x hx
    obtain ⟨j, hj, rfl⟩ := List.getElem_of_mem hx
    simpa using hp j (by omega) hj
end
end Go.Proofs.Sw
namespace Go.Ab
variable [Globals]
theorem scalar_frzs {H : Heap} : ∀ {cs : List AV}, cs.all AV.scalar0 = true → ∃ l, frzs H cs = some (l, H) ∧ l.map AV.c = cs
  | [], _ => ⟨[], rfl, rfl⟩
  | x :: cs, h => by
    rw [List.all_cons, Bool.and_eq_true] at h
    obtain ⟨l, h1, h2⟩ := scalar_frzs (H := H) h.2
    cases x with
    | c x => exact ⟨x :: l, by rw [frzs, frz, Option.bind_some]; simp only [h1, Option.bind_some], by rw [List.map_cons, h2]⟩
    | _ => cases h.1
theorem scalar_frzV {H : Heap} {x : AV} (h : x.scalar1 = true) : frzV H x = some (x, H) := by
  cases x with
  | c x => rfl
  | agg cs =>
    obtain ⟨l, h1, h2⟩ := scalar_frzs (H := H) (cs := cs) h
    rw [frzV_agg, h1, Option.map_some, h2]
  | _ => cases h
theorem scalar_frzTup {H : Heap} : ∀ {cs : List AV}, cs.all AV.scalar1 = true → frzTup H cs = some (cs, H)
  | [], _ => rfl
  | x :: cs, h => by
    rw [List.all_cons, Bool.and_eq_true] at h
    rw [frzTup, scalar_frzV h.1, Option.bind_some]
    simp only [scalar_frzTup (H := H) h.2, Option.bind_some]
theorem scalar_frzR {H : Heap} {x : AV} (h : x.scalar = true) : frzR H x = some (x, H) := by
  cases x with
  | tup vs => rw [frzR, scalar_frzTup h]; rfl
  | c x => exact scalar_frzV (x := .c x) h
  | agg cs => exact scalar_frzV (x := .agg cs) h
  | _ => cases h
theorem doCallS_or {P : Program} {tab : Tab} {kf f r i : Nat} {ar : Option Nat} {g : FuncId} {args bs : List AV} {H H1 : Heap} {v : AV} (hf : inB tab.frames g = false) (hk : keepB tab.keeps f r i = false) (ha : args.all AV.pure = false) (hz : frzTup H args = some (bs, H1)) (hv : ans (evalT P (mkHints tab) kf (.fn g) bs []) = some v) :
    doCallS (cxG P (mkHints tab) kf f ar) r i g args H = some (v, H) ∨ doCallS (cxG P (mkHints tab) kf f ar) r i g args H = some (v, H1) := by
  unfold doCallS doCall pureCall
  rw [if_neg (by rw [show (cxG P (mkHints tab) kf f ar).hints.framed g = false from hf]; simp), if_neg (by rw [show (cxG P (mkHints tab) kf f ar).hints.raw (cxG P (mkHints tab) kf f ar).fn r i = false from rawB_of hk]; simp), if_neg (by rw [show (cxG P (mkHints tab) kf f ar).hints.keep (cxG P (mkHints tab) kf f ar).fn r i = false from hk]; simp), if_neg (by rw [ha]; simp), hz]
  simp only [Option.bind_some]
  rw [show (cxG P (mkHints tab) kf f ar).call g bs [] = evalT P (mkHints tab) kf (.fn g) bs [] from rfl]
  cases he : evalT P (mkHints tab) kf (.fn g) bs [] with
  | none => rw [he] at hv; cases hv
  | some q =>
    rw [he] at hv
    simp only [Option.bind_some]
    by_cases hs : q.1.scalar = true
    · rw [if_pos hs]
      have h1 : (frzR q.2 q.1).map (fun s => s.1) = some v := hv
      rw [scalar_frzR hs] at h1
      injection h1 with h1
      simp only at h1
      rw [h1]
      exact .inl rfl
    · rw [if_neg hs]
      have h1 : (frzR q.2 q.1).map (fun s => s.1) = some v := hv
      obtain ⟨s, h2, h3⟩ := Option.map_eq_some_iff.1 h1
      rw [h2]
      refine .inr ?_
      rw [Option.map_some, h3]
end Go.Ab
namespace Go.Proofs.Sw
open Go.Ab
variable [Globals]
def encD (l : List Nat) : List IV := l.map fun (d : Nat) => .int .u32 (d : Int)
abbrev sD (l : List Nat) (nl : Bool) (cap : Option Nat) : AV := .c (.slice (encD l) l.length nl cap)
abbrev rD (l : List Nat) : AObj := .row false 102 (encD l)
theorem encD_length (l : List Nat) : (encD l).length = l.length := by simp [encD]
theorem encD_get {l : List Nat} {i : Nat} (h : i < l.length) : (encD l)[i]? = some (.int .u32 (l.getD i 0 : Nat)) := by
  simp [encD, h]
theorem encD_append (a b : List Nat) : encD (a ++ b) = encD a ++ encD b := by simp [encD]
theorem encD_take (l : List Nat) (n : Nat) : (encD l).take n = encD (l.take n) := by simp [encD, List.map_take]
theorem encD_set {l : List Nat} {i : Nat} {d : Nat} : (encD l).set i (.int .u32 (d : Int)) = encD (l.set i d) := by simp [encD, List.map_set]
theorem okD_get {l : List Nat} (h : okD l) (i : Nat) : l.getD i 0 < 65536 := by
  by_cases hi : i < l.length
  · rw [List.getD_eq_getElem?_getD, List.getElem?_eq_getElem hi]
    exact h _ (List.getElem_mem hi)
  · rw [List.getD_eq_getElem?_getD, List.getElem?_eq_none (by omega)]; simp
theorem wrap32 {n : Int} (h0 : 0 ≤ n) (h : n < 4294967296) : IntKind.wrap .u32 n = n := by
  have e : IntKind.wrap .u32 n = n % 4294967296 := rfl
  rw [e]
  exact Int.emod_eq_of_lt h0 h
theorem wrapu64 {n : Int} (h0 : 0 ≤ n) (h : n < 18446744073709551616) : IntKind.wrap .u64 n = n := by
  have e : IntKind.wrap .u64 n = n % 18446744073709551616 := rfl
  rw [e]
  exact Int.emod_eq_of_lt h0 h
theorem sliceD {H : Heap} {d : List Nat} {nl : Bool} {cap : Option Nat} {n : Nat} (hn : n ≤ d.length) : sliceO H 1 (sD d nl cap) none (some (ii n)) = some (sD (d.take n) nl cap) := by
  have h1 : (d.take n).length = n := by rw [List.length_take]; omega
  rw [sD, sD, h1, ← encD_take]
  simp only [sliceO, boundA]
  simp [hn, encD_length]
theorem tmod16 (a : Nat) : ((a : Nat) : Int).tmod 65536 = ((a % 65536 : Nat) : Int) := rfl
theorem tdiv16 (a : Nat) : ((a : Nat) : Int).tdiv 65536 = ((a / 65536 : Nat) : Int) := rfl
theorem wr32 {n : Nat} (h : n < 4294967296) : IntKind.wrap .u32 ((n : Nat) : Int) = ((n : Nat) : Int) := wrap32 (by omega) (by omega)
theorem wr64 {n : Nat} (h : n < 18446744073709551616) : IntKind.wrap .u64 ((n : Nat) : Int) = ((n : Nat) : Int) := wrapu64 (by omega) (by omega)
theorem hapD {l : List Nat} {X : Heap} {x : IV} (hb : l.length ≤ 1000000) {i : Nat} (hi : l.length = i) :
    apO 102 1 4 (some 0) (lv 0 1 i) (lo 102 i (encD l) :: X) (some ([x], 1)) = some (lv 0 1 (i + 1), lo 102 (i + 1) (encD l ++ [x]) :: X) := by
  subst hi
  exact lo_length (e := 102) (n := l.length) (sz := 1) (by_ := 4) (cells := encD l) (cs := [x]) (X := X) (Nat.le_trans (Nat.mul_le_mul_right 4 (show l.length + 1 ≤ 1000001 by omega)) (by decide)) (by decide) (by rw [encD_length, Nat.mul_one])
theorem loop_norm (kf : Nat) (neg : Bool) (d : List Nat) (nl : Bool) (cap : Option Nat) (hl : d.length ≤ 1000000) (o0 : AObj) (ho0 : AObj.under 1 o0 = true) (k : Nat) (l : Ass) (z : Option Out) (hz : loopR Try.prog tab kf none LB69_2 69 29 [0, 1, 4, 5] 1 k l ([o0]) = z) (hk : d.length - (trimD d).length < k) (a0 : asc l 0 = bb neg) (a1 : asc l 1 = sD d nl cap) (a4 : asc l 4 = .ptr 0 0) (a5 : asc l 5 = ii ((d.length - 0 : Nat) : Int)) :
    ∃ l', z = some (.exit 0 (fr 29 l') [o0]) ∧ asc l' 0 = bb neg ∧ asc l' 1 = sD d nl cap ∧ asc l' 4 = .ptr 0 0 ∧ asc l' 5 = ii (trimD d).length := by
  subst hz
  refine loop_nat (d.length - (trimD d).length) (fun k l H => loopR Try.prog tab kf none LB69_2 69 29 [0, 1, 4, 5] 1 k l H)
    (fun i l H => asc l 0 = bb neg ∧ asc l 1 = sD d nl cap ∧ asc l 4 = .ptr 0 0 ∧ asc l 5 = ii ((d.length - i : Nat) : Int) ∧ ∃ G, H = ([o0]) ++ G)
    (fun z => ∃ l', z = some (.exit 0 (fr 29 l') [o0]) ∧ asc l' 0 = bb neg ∧ asc l' 1 = sD d nl cap ∧ asc l' 4 = .ptr 0 0 ∧ asc l' 5 = ii (trimD d).length) ?_ (d.length - (trimD d).length) 0 k l _ (by omega) hk ⟨a0, a1, a4, a5, [], by rw [List.append_nil]⟩
  clear hk a0 a1 a4 a5
  rintro i k l H hi ⟨a0, a1, a4, a5, G, rfl⟩
  have ht : trim 1 (fr 29 (keep l [0, 1, 4, 5])) (([o0]) ++ G) = ([o0]) := trim_app (by simp) (by simp only [a0, a1, a4, a5, ho0, EVb, EVc, Int.reduceEq, Int.reduceToNat, Int.reduceLE, Int.reduceLT, Int.reduceAdd, Int.reduceMul, Int.reduceSub, Int.reduceNeg, Nat.reduceAdd, Nat.reduceSub, Nat.reduceMul, Nat.reduceLT, Nat.reduceBEq, Nat.reduceEqDiff, Nat.reduceLeDiff]) (by simp only [ho0, EVb, EVc, Int.reduceEq, Int.reduceToNat, Int.reduceLE, Int.reduceLT, Int.reduceAdd, Int.reduceMul, Int.reduceSub, Int.reduceNeg, Nat.reduceAdd, Nat.reduceSub, Nat.reduceMul, Nat.reduceLT, Nat.reduceBEq, Nat.reduceEqDiff, Nat.reduceLeDiff])
  by_cases hc : i < (d.length - (trimD d).length)
  · have hc' : (i : Int) < ((d.length - (trimD d).length : Nat) : Int) := by omega
    have hc0 : (0 : Int) ≤ i := by omega
    have hw : IntKind.wrap .i64 ((i : Int) + 1) = ((i + 1 : Nat) : Int) := by rw [wrap64 (by omega) (by omega)]; omega
    have htl := trim_len d
    obtain ⟨j, hj⟩ : ∃ j, d.length - i = j + 1 := ⟨d.length - i - 1, by omega⟩
    have e1 : d.length - (i + 1) = j := by omega
    have hz := trim_zero (l := d) (i := j) (by omega) (by omega)
    have hx := encD_get (l := d) (i := j) (by omega)
    rw [hz] at hx
    rw [hj] at a5
    rw [e1]
    have hp1 : (0 : Int) < ((j + 1 : Nat) : Int) := by omega
    have hw1 : IntKind.wrap .i64 (((j + 1 : Nat) : Int) - 1) = (j : Int) := by rw [wrap64 (by omega) (by omega)]; omega
    have hj0 : (0 : Int) ≤ j := by omega
    have hj1 : (j : Int) < d.length := by omega
    simp only [loopR_succ, ht]
    simp only [a0, a1, a4, a5, hc', hc0, hw, hx, hp1, hw1, hj0, hj1, loopR_succ, loopOf, findLoop, firstRegion, Option.some_or, Option.none_or, Option.getD_some, Option.some.injEq, Try.f69, FT, Int.reduceEq, Int.reduceToNat, Int.reduceLE, Int.reduceLT, Int.reduceAdd, Int.reduceMul, Int.reduceSub, Int.reduceNeg, Nat.reduceAdd, Nat.reduceSub, Nat.reduceMul, Nat.reduceLT, Nat.reduceBEq, Nat.reduceEqDiff, Nat.reduceLeDiff]
    exact .inr ⟨_, _, hc, rfl, (by rfl), (by rfl), (by rfl), (by rfl), ⟨[], by rfl⟩⟩
  · refine .inl ?_
    obtain rfl : i = (d.length - (trimD d).length) := by omega
    have hc' : ¬ ((((d.length - (trimD d).length) : Nat) : Int) < (((d.length - (trimD d).length) : Nat) : Int)) := by omega
    have htl := trim_len d
    have e1 : d.length - (d.length - (trimD d).length) = (trimD d).length := by omega
    rw [e1] at a5
    by_cases h0 : (trimD d).length = 0
    · rw [h0] at a5 ⊢
      simp only [loopR_succ, ht]
      simp only [a0, a1, a4, a5, loopR_succ, loopOf, findLoop, firstRegion, Option.some_or, Option.none_or, Option.getD_some, Option.some.injEq, Try.f69, FT, Int.reduceEq, Int.reduceToNat, Int.reduceLE, Int.reduceLT, Int.reduceAdd, Int.reduceMul, Int.reduceSub, Int.reduceNeg, Nat.reduceAdd, Nat.reduceSub, Nat.reduceMul, Nat.reduceLT, Nat.reduceBEq, Nat.reduceEqDiff, Nat.reduceLeDiff]
      exact ⟨_, rfl, (by rfl), (by rfl), (by rfl), (by rfl)⟩
    · obtain ⟨j, hj⟩ : ∃ j, (trimD d).length = j + 1 := ⟨(trimD d).length - 1, by omega⟩
      have hlast := trim_last (l := d) (fun e => h0 (by rw [e]; rfl))
      have hx := encD_get (l := d) (i := j) (by omega)
      have hg : d.getD j 0 = (trimD d).getD j 0 := by
        rw [trim_take d, List.getD_eq_getElem?_getD, List.getD_eq_getElem?_getD, List.getElem?_take, if_pos (by omega)]
      rw [hj, show j + 1 - 1 = j by omega, ← hg] at hlast
      obtain ⟨y, hy⟩ : ∃ y, y = d.getD j 0 := ⟨_, rfl⟩
      rw [← hy] at hlast hx
      have hne : ¬ (y : Int) = 0 := by omega
      rw [hj] at a5 ⊢
      have hp1 : (0 : Int) < ((j + 1 : Nat) : Int) := by omega
      have hw1 : IntKind.wrap .i64 (((j + 1 : Nat) : Int) - 1) = (j : Int) := by rw [wrap64 (by omega) (by omega)]; omega
      have hj0 : (0 : Int) ≤ j := by omega
      have hj1 : (j : Int) < d.length := by omega
      simp only [loopR_succ, ht]
      simp only [a0, a1, a4, a5, hx, hp1, hw1, hj0, hj1, hne, loopR_succ, loopOf, findLoop, firstRegion, Option.some_or, Option.none_or, Option.getD_some, Option.some.injEq, Try.f69, FT, Int.reduceEq, Int.reduceToNat, Int.reduceLE, Int.reduceLT, Int.reduceAdd, Int.reduceMul, Int.reduceSub, Int.reduceNeg, Nat.reduceAdd, Nat.reduceSub, Nat.reduceMul, Nat.reduceLT, Nat.reduceBEq, Nat.reduceEqDiff, Nat.reduceLeDiff]
      exact ⟨_, rfl, (by rfl), (by rfl), (by rfl), (by rfl)⟩
theorem norm_ev (k : Nat) (neg : Bool) (d : List Nat) (nl : Bool) (cap : Option Nat) (hl : d.length ≤ 1000000) (hk : d.length < k) : run (k+1) 69 [bb neg, sD d nl cap] = some (.agg [bb (neg && decide (0 < (trimD d).length)), sD (trimD d) nl cap]) := by
  have htl := trim_len d
  have htk := trim_take d
  rw [run, ev69, ans_trim]
  simp only [Try.f69, bb, FT, Int.reduceEq, Int.reduceToNat, Int.reduceLE, Int.reduceLT, Int.reduceAdd, Int.reduceMul, Int.reduceSub, Int.reduceNeg, Nat.reduceAdd, Nat.reduceSub, Nat.reduceMul, Nat.reduceLT, Nat.reduceBEq, Nat.reduceEqDiff, Nat.reduceLeDiff]
  rw [evalCode_loopB LB69_2 lp69_2]; rotate_left; rfl; rfl; rfl
  generalize hz : loopR _ _ _ _ _ _ _ _ _ _ _ _ = z
  obtain ⟨l', rfl, e0, e1, e4, e5⟩ := loop_norm k neg d nl cap hl _ (by rfl) _ _ z hz (by omega) (by rfl) (by rfl) (by rfl) (by rfl)
  clear hz
  have h0 : (0 : Int) ≤ (trimD d).length := by omega
  have h1 : ((trimD d).length : Int) ≤ d.length := by omega
  have hsl := fun H => sliceD (H := H) (d := d) (nl := nl) (cap := cap) htl
  rw [← htk] at hsl
  cases neg with
  | true =>
    by_cases hp : 0 < (trimD d).length
    · have hp' : (0 : Int) < (trimD d).length := by omega
      simp only [e0, e1, e4, e5, hsl, hp, hp', FT, Int.reduceEq, Int.reduceToNat, Int.reduceLE, Int.reduceLT, Int.reduceAdd, Int.reduceMul, Int.reduceSub, Int.reduceNeg, Nat.reduceAdd, Nat.reduceSub, Nat.reduceMul, Nat.reduceLT, Nat.reduceBEq, Nat.reduceEqDiff, Nat.reduceLeDiff]
    · have hp' : ¬ (0 : Int) < (trimD d).length := by omega
      simp only [e0, e1, e4, e5, hsl, hp, hp', FT, Int.reduceEq, Int.reduceToNat, Int.reduceLE, Int.reduceLT, Int.reduceAdd, Int.reduceMul, Int.reduceSub, Int.reduceNeg, Nat.reduceAdd, Nat.reduceSub, Nat.reduceMul, Nat.reduceLT, Nat.reduceBEq, Nat.reduceEqDiff, Nat.reduceLeDiff]
  | false =>
    simp only [e0, e1, e4, e5, hsl, FT, Int.reduceEq, Int.reduceToNat, Int.reduceLE, Int.reduceLT, Int.reduceAdd, Int.reduceMul, Int.reduceSub, Int.reduceNeg, Nat.reduceAdd, Nat.reduceSub, Nat.reduceMul, Nat.reduceLT, Nat.reduceBEq, Nat.reduceEqDiff, Nat.reduceLeDiff]
theorem loop_Of (kf : Nat) (nn : IV) (u : Nat) (hu : u < 18446744073709551616) (hlen : (dig u).length ≤ 10) (o1 : AObj) (ho1 : AObj.under 2 o1 = true) (k : Nat) (l : Ass) (z : Option Out) (hz : loopR Try.prog tab kf none LB22_5 22 25 [0, 2, 3, 4] 2 k l ([lo 102 0 (encD ((dig u).take 0)), o1]) = z) (hk : (dig u).length < k) (a0 : asc l 0 = .c nn) (a2 : asc l 2 = .ptr 1 0) (a3 : asc l 3 = .c (.int .u64 (uS u 0 : Nat))) (a4 : asc l 4 = lv 0 1 0) :
    ∃ l', z = some (.exit 0 (fr 25 l') ([lo 102 ((dig u).length) (encD ((dig u).take ((dig u).length))), o1])) ∧ asc l' 0 = .c nn ∧ asc l' 2 = .ptr 1 0 ∧ asc l' 3 = .c (.int .u64 (uS u ((dig u).length) : Nat)) ∧ asc l' 4 = lv 0 1 ((dig u).length) := by
  subst hz
  refine loop_nat ((dig u).length) (fun k l H => loopR Try.prog tab kf none LB22_5 22 25 [0, 2, 3, 4] 2 k l H)
    (fun i l H => asc l 0 = .c nn ∧ asc l 2 = .ptr 1 0 ∧ asc l 3 = .c (.int .u64 (uS u i : Nat)) ∧ asc l 4 = lv 0 1 i ∧ ∃ G, H = ([lo 102 i (encD ((dig u).take i)), o1]) ++ G)
    (fun z => ∃ l', z = some (.exit 0 (fr 25 l') ([lo 102 ((dig u).length) (encD ((dig u).take ((dig u).length))), o1])) ∧ asc l' 0 = .c nn ∧ asc l' 2 = .ptr 1 0 ∧ asc l' 3 = .c (.int .u64 (uS u ((dig u).length) : Nat)) ∧ asc l' 4 = lv 0 1 ((dig u).length)) ?_ ((dig u).length) 0 k l _ (by omega) hk ⟨a0, a2, a3, a4, [], by rw [List.append_nil]⟩
  clear hk a0 a2 a3 a4
  rintro i k l H hi ⟨a0, a2, a3, a4, G, rfl⟩
  have ht : trim 2 (fr 25 (keep l [0, 2, 3, 4])) (([lo 102 i (encD ((dig u).take i)), o1]) ++ G) = ([lo 102 i (encD ((dig u).take i)), o1]) := trim_app (by simp) (by simp only [a0, a2, a3, a4, ho1, EVb, EVc, Int.reduceEq, Int.reduceToNat, Int.reduceLE, Int.reduceLT, Int.reduceAdd, Int.reduceMul, Int.reduceSub, Int.reduceNeg, Nat.reduceAdd, Nat.reduceSub, Nat.reduceMul, Nat.reduceLT, Nat.reduceBEq, Nat.reduceEqDiff, Nat.reduceLeDiff]) (by simp only [ho1, EVb, EVc, Int.reduceEq, Int.reduceToNat, Int.reduceLE, Int.reduceLT, Int.reduceAdd, Int.reduceMul, Int.reduceSub, Int.reduceNeg, Nat.reduceAdd, Nat.reduceSub, Nat.reduceMul, Nat.reduceLT, Nat.reduceBEq, Nat.reduceEqDiff, Nat.reduceLeDiff])
  by_cases hc : i < ((dig u).length)
  · have hc' : (i : Int) < (((dig u).length : Nat) : Int) := by omega
    have hc0 : (0 : Int) ≤ i := by omega
    have hw : IntKind.wrap .i64 ((i : Int) + 1) = ((i + 1 : Nat) : Int) := by rw [wrap64 (by omega) (by omega)]; omega
    have hp := uS_pos hc
    have hp1 : (0 : Int) < ((uS u i : Nat) : Int) := by omega
    have hle := uS_le u i
    have htk := dig_take hc
    have hus : uS u (i + 1) = uS u i / 65536 := rfl
    obtain ⟨x, hx⟩ : ∃ x, x = uS u i := ⟨_, rfl⟩
    rw [← hx] at hp1 hle htk hus a3 hp
    rw [hus, htk]
    have hr1 := tmod16 x
    have hr2 := tdiv16 x
    have hr3 := wr32 (n := x % 65536) (by omega)
    have hr4 := wr64 (n := x / 65536) (by omega)
    have hti : ((dig u).take i).length = i := by rw [List.length_take]; omega
    have hap := fun X y => hapD (l := (dig u).take i) (X := X) (x := y) (by omega) hti
    simp only [loopR_succ, ht]
    simp only [a0, a2, a3, a4, hc', hc0, hw, hp1, hr1, hr2, hr3, hr4, hap, loopR_succ, loopOf, findLoop, firstRegion, Option.some_or, Option.none_or, Option.getD_some, Option.some.injEq, Try.f22, FT, Int.reduceEq, Int.reduceToNat, Int.reduceLE, Int.reduceLT, Int.reduceAdd, Int.reduceMul, Int.reduceSub, Int.reduceNeg, Nat.reduceAdd, Nat.reduceSub, Nat.reduceMul, Nat.reduceLT, Nat.reduceBEq, Nat.reduceEqDiff, Nat.reduceLeDiff]
    refine .inr ⟨_, _, hc, rfl, (by rfl), (by rfl), (by rfl), (by rfl), ?_⟩
    rw [encD_append]
    exact ⟨_, by rfl⟩
  · refine .inl ?_
    obtain rfl : i = ((dig u).length) := by omega
    have hc' : ¬ (((((dig u).length) : Nat) : Int) < ((((dig u).length) : Nat) : Int)) := by omega
    have h0 := uS_end u
    rw [h0] at a3
    have hn0 : ¬ (0 : Int) < ((0 : Nat) : Int) := by omega
    rw [List.take_length] at ht ⊢
    simp only [loopR_succ, ht]
    simp only [a0, a2, a3, a4, hc', hn0, loopR_succ, loopOf, findLoop, firstRegion, Option.some_or, Option.none_or, Option.getD_some, Option.some.injEq, Try.f22, FT, Int.reduceEq, Int.reduceToNat, Int.reduceLE, Int.reduceLT, Int.reduceAdd, Int.reduceMul, Int.reduceSub, Int.reduceNeg, Nat.reduceAdd, Nat.reduceSub, Nat.reduceMul, Nat.reduceLT, Nat.reduceBEq, Nat.reduceEqDiff, Nat.reduceLeDiff]
    exact ⟨_, rfl, (by rfl), (by rfl), (by rw [h0]; rfl), (by rfl)⟩
structure RI where
  v : Int
  nl : Bool
  cap : Option Nat
abbrev aN (x : RI) : AV := .agg [bb (decide (x.v < 0)), sD (dig x.v.natAbs) x.nl x.cap]
def sgn (neg : Bool) (n : Nat) : Int := if neg = true then -(n : Int) else n
theorem sgn_abs (neg : Bool) (n : Nat) : (sgn neg n).natAbs = n := by unfold sgn; split <;> omega
theorem norm_num (k : Nat) (neg : Bool) (d : List Nat) (nl : Bool) (cap : Option Nat) (hd : okD d) (hl : d.length ≤ 1000000) (hk : d.length < k) : run (k+1) 69 [bb neg, sD d nl cap] = some (aN ⟨sgn neg (vd d), nl, cap⟩) := by
  rw [norm_ev k neg d nl cap hl hk, aN]
  simp only [sgn_abs, ← dig_of hd]
  have h1 : (neg && decide (0 < (trimD d).length)) = decide (sgn neg (vd d) < 0) := by
    have hv := vd_trim d
    rw [dig_of hd, vd_dig] at hv
    have hz : trimD d = [] ↔ vd d = 0 := by rw [dig_of hd]; exact dig_nil
    have hz2 : 0 < (trimD d).length ↔ vd d ≠ 0 := by rw [List.length_pos_iff]; exact not_congr hz
    unfold sgn
    cases neg
    · simp
    · simp only [Bool.true_and, if_true, hz2, decide_eq_decide]
      omega
  rw [h1]
theorem strict_slice {a : List IV} {b : Nat} {c : Bool} {d : Option Nat} : IV.strict (.slice a b c d) = false := rfl
theorem norm_call {k f r i id : Nat} {neg : Bool} {d : List Nat} {H : Heap} (h : H[id]? = some (rD d)) (hd : okD d) (hl : d.length ≤ 1000000) (hk : d.length < k) (hkp : keepB tab.keeps f r i = false := by rfl) :
    ∃ H2, doCallS (cxG Try.prog (mkHints tab) (k+1) f none) r i 69 [bb neg, .hsl id 0 d.length d.length 1] H = some (aN ⟨sgn neg (vd d), false, none⟩, H2) ∧ H2.length = H.length ∧ ∀ j, j ≠ id → H2[j]? = H[j]? := by
  have hz : frzTup H [bb neg, .hsl id 0 d.length d.length 1] = some ([bb neg, sD d false none], H.set id (.row true 102 (encD d))) := by
    have hr : rowOf H id d.length = some (102, encD d) := by
      unfold rowOf
      rw [h]
      simp [encD_length]
    rw [frzTup, frzV_c, Option.bind_some, frzTup, frzV_hsl, frz_hsl, hr]
    simp only [Option.bind_some, Nat.zero_add, Nat.mul_one, Nat.le_refl, if_true, List.drop_zero, Option.map_some, frzTup]
    rw [List.take_of_length_le (by rw [encD_length]; exact Nat.le_refl _)]
  have hv := norm_num k neg d false none hd hl hk
  rcases doCallS_or (P := Try.prog) (tab := tab) (kf := k + 1) (f := f) (r := r) (i := i) (ar := none) (g := 69) (by rfl) hkp (by rfl) hz hv with e | e
  · exact ⟨_, e, rfl, fun _ _ => rfl⟩
  · exact ⟨_, e, by simp, fun j hj => by rw [List.getElem?_set_ne (fun h => hj h.symm)]⟩
theorem Of_ev (k : Nat) (n : Int) (h0 : -9223372036854775808 ≤ n) (h1 : n ≤ 9223372036854775807) (hk : 20 < k) : ∃ x : RI, x.v = n ∧ run (k+2) 22 [ii n] = some (aN x) := by
  have hu : n.natAbs < 18446744073709551616 := by omega
  have hlen : (dig n.natAbs).length ≤ 10 := Nat.le_trans (dig_len (k := 4) (by omega)) (by omega)
  have hnn := norm_num k (decide (n < 0)) (dig n.natAbs) false none (can_dig _).ok (by omega) (by omega)
  rw [vd_dig] at hnn
  have hsg : sgn (decide (n < 0)) n.natAbs = n := by unfold sgn; by_cases h : n < 0 <;> simp [h] <;> omega
  rw [hsg] at hnn
  simp only [run, bb] at hnn
  by_cases hz0 : n = 0
  · refine ⟨⟨0, true, some 0⟩, hz0.symm, ?_⟩
    subst hz0
    have hn0 := norm_num k false [] true (some 0) okD_nil (by simp) (by simp only [List.length_nil]; omega)
    simp only [run, bb, sD, encD, List.map_nil, List.length_nil] at hn0
    rw [run, ev22, ans_trim]
    have hw0 : IntKind.wrap .u64 0 = 0 := rfl
    simp only [Try.f22, ii, hw0, FT, Int.reduceEq, Int.reduceToNat, Int.reduceLE, Int.reduceLT, Int.reduceAdd, Int.reduceMul, Int.reduceSub, Int.reduceNeg, Nat.reduceAdd, Nat.reduceSub, Nat.reduceMul, Nat.reduceLT, Nat.reduceBEq, Nat.reduceEqDiff, Nat.reduceLeDiff]
    rw [evalCode_loopB LB22_5 lp22_5]; rotate_left; rfl; rfl; rfl
    obtain ⟨k, rfl⟩ : ∃ j, k = j + 1 := ⟨k - 1, by omega⟩
    simp only [loopR_succ, loopOf, findLoop, firstRegion, Option.some_or, Option.none_or, Option.getD_some, Option.some.injEq, Try.f22, hw0, hn0, FT, Int.reduceEq, Int.reduceToNat, Int.reduceLE, Int.reduceLT, Int.reduceAdd, Int.reduceMul, Int.reduceSub, Int.reduceNeg, Nat.reduceAdd, Nat.reduceSub, Nat.reduceMul, Nat.reduceLT, Nat.reduceBEq, Nat.reduceEqDiff, Nat.reduceLeDiff]
    rw [show sgn false (vd []) = 0 from rfl]
  refine ⟨⟨n, false, none⟩, rfl, ?_⟩
  rw [run, ev22, ans_trim]
  by_cases hn : n < 0
  · have hw1 : IntKind.wrap .u64 n = n + 18446744073709551616 := by
      have e : IntKind.wrap .u64 n = n % 18446744073709551616 := rfl
      rw [e]; omega
    have hw2 : IntKind.wrap .u64 (0 - (n + 18446744073709551616)) = ((n.natAbs : Nat) : Int) := by
      have e : ∀ m : Int, IntKind.wrap .u64 m = m % 18446744073709551616 := fun m => rfl
      rw [e]; omega
    simp only [Try.f22, ii, hn, hw1, hw2, FT, Int.reduceEq, Int.reduceToNat, Int.reduceLE, Int.reduceLT, Int.reduceAdd, Int.reduceMul, Int.reduceSub, Int.reduceNeg, Nat.reduceAdd, Nat.reduceSub, Nat.reduceMul, Nat.reduceLT, Nat.reduceBEq, Nat.reduceEqDiff, Nat.reduceLeDiff]
    rw [evalCode_loopB LB22_5 lp22_5]; rotate_left; rfl; rfl; rfl
    generalize hz : loopR _ _ _ _ _ _ _ _ _ _ _ _ = z
    obtain ⟨l', rfl, e0, e2, e3, e4⟩ := loop_Of (k + 1) (.int .i64 n) n.natAbs hu hlen _ (by rfl) _ _ z hz (by omega) (by rfl) (by rfl) (by rfl) (by rfl)
    clear hz
    rw [List.take_length]
    have hN : 0 < (dig n.natAbs).length := List.length_pos_iff.2 (dig_pos (by omega))
    have g1 := lv_pos (s := 0) (sz := 1) hN
    have g2 := lo_pos (e := 102) (cells := encD (dig n.natAbs)) hN
    have hel := encD_length (dig n.natAbs)
    have htk : (encD (dig n.natAbs)).take (dig n.natAbs).length = encD (dig n.natAbs) := List.take_of_length_le (by rw [hel]; exact Nat.le_refl _)
    rw [Nat.mul_one] at g1
    rw [g1] at e4
    rw [g2]
    simp only [hn, decide_true, decide_false] at hnn
    obtain ⟨H2, hds, hl2, hold⟩ := norm_call (k := k) (f := 22) (r := 8) (i := 3) (id := 0) (neg := true) (d := dig n.natAbs) (H := [rD (dig n.natAbs), .cells 43 [.c (.bool false), .c (.slice [] 0 true (some 0))]]) (by rfl) (can_dig _).ok (by omega) (by omega)
    have h21 := hold 1 (by omega)
    simp only [List.getElem?_cons_zero, List.getElem?_cons_succ] at h21
    rw [vd_dig] at hds
    rw [show sgn true n.natAbs = n by unfold sgn; simp; omega] at hds
    have hset : ∀ X : AObj, (H2.set 1 X)[1]? = some X := fun X => List.getElem?_set_self (by rw [hl2]; simp)
    simp only [e0, e2, e3, e4, hn, hel, htk, hnn, hds, h21, hset, strict_slice, strict_c, strict_agg, strict0_c, strict_bool, Nat.le_refl, FT, Int.reduceEq, Int.reduceToNat, Int.reduceLE, Int.reduceLT, Int.reduceAdd, Int.reduceMul, Int.reduceSub, Int.reduceNeg, Nat.reduceAdd, Nat.reduceSub, Nat.reduceMul, Nat.reduceLT, Nat.reduceBEq, Nat.reduceEqDiff, Nat.reduceLeDiff]
    simp only [aN, hn, decide_true, decide_false]
  · have hw1 : IntKind.wrap .u64 n = ((n.natAbs : Nat) : Int) := by
      have e : IntKind.wrap .u64 n = n % 18446744073709551616 := rfl
      rw [e]; omega
    simp only [Try.f22, ii, hn, hw1, FT, Int.reduceEq, Int.reduceToNat, Int.reduceLE, Int.reduceLT, Int.reduceAdd, Int.reduceMul, Int.reduceSub, Int.reduceNeg, Nat.reduceAdd, Nat.reduceSub, Nat.reduceMul, Nat.reduceLT, Nat.reduceBEq, Nat.reduceEqDiff, Nat.reduceLeDiff]
    rw [evalCode_loopB LB22_5 lp22_5]; rotate_left; rfl; rfl; rfl
    generalize hz : loopR _ _ _ _ _ _ _ _ _ _ _ _ = z
    obtain ⟨l', rfl, e0, e2, e3, e4⟩ := loop_Of (k + 1) (.int .i64 n) n.natAbs hu hlen _ (by rfl) _ _ z hz (by omega) (by rfl) (by rfl) (by rfl) (by rfl)
    clear hz
    rw [List.take_length]
    have hN : 0 < (dig n.natAbs).length := List.length_pos_iff.2 (dig_pos (by omega))
    have g1 := lv_pos (s := 0) (sz := 1) hN
    have g2 := lo_pos (e := 102) (cells := encD (dig n.natAbs)) hN
    have hel := encD_length (dig n.natAbs)
    have htk : (encD (dig n.natAbs)).take (dig n.natAbs).length = encD (dig n.natAbs) := List.take_of_length_le (by rw [hel]; exact Nat.le_refl _)
    rw [Nat.mul_one] at g1
    rw [g1] at e4
    rw [g2]
    simp only [hn, decide_true, decide_false] at hnn
    obtain ⟨H2, hds, hl2, hold⟩ := norm_call (k := k) (f := 22) (r := 8) (i := 3) (id := 0) (neg := false) (d := dig n.natAbs) (H := [rD (dig n.natAbs), .cells 43 [.c (.bool false), .c (.slice [] 0 true (some 0))]]) (by rfl) (can_dig _).ok (by omega) (by omega)
    have h21 := hold 1 (by omega)
    simp only [List.getElem?_cons_zero, List.getElem?_cons_succ] at h21
    rw [vd_dig] at hds
    rw [show sgn false n.natAbs = n by unfold sgn; simp; omega] at hds
    have hset : ∀ X : AObj, (H2.set 1 X)[1]? = some X := fun X => List.getElem?_set_self (by rw [hl2]; simp)
    simp only [e0, e2, e3, e4, hn, hel, htk, hnn, hds, h21, hset, strict_slice, strict_c, strict_agg, strict0_c, strict_bool, Nat.le_refl, FT, Int.reduceEq, Int.reduceToNat, Int.reduceLE, Int.reduceLT, Int.reduceAdd, Int.reduceMul, Int.reduceSub, Int.reduceNeg, Nat.reduceAdd, Nat.reduceSub, Nat.reduceMul, Nat.reduceLT, Nat.reduceBEq, Nat.reduceEqDiff, Nat.reduceLeDiff]
    simp only [aN, hn, decide_true, decide_false]
end Go.Proofs.Sw
namespace Go.Proofs.Sw
open Go.Ab
variable [Globals]
def pcD (a b : List Nat) : Nat → Nat
  | 0 => 0
  | i + 1 => (pcD a b i + a.getD i 0 + b.getD i 0) / 65536
def pdD (a b : List Nat) (i : Nat) : Nat := (pcD a b i + a.getD i 0 + b.getD i 0) % 65536
def outP (a b : List Nat) (i : Nat) : List Nat := (List.range i).map (pdD a b)
theorem outP_succ (a b : List Nat) (i : Nat) : outP a b (i + 1) = outP a b i ++ [pdD a b i] := by simp [outP, List.range_succ]
theorem outP_length (a b : List Nat) (i : Nat) : (outP a b i).length = i := by simp [outP]
theorem outP_ok (a b : List Nat) (i : Nat) : okD (outP a b i) := fun d hd => by
  simp only [outP, List.mem_map] at hd
  obtain ⟨j, _, rfl⟩ := hd
  exact Nat.mod_lt _ (by omega)
theorem pcD_le {a b : List Nat} (ha : okD a) (hb : okD b) : ∀ i, pcD a b i ≤ 1
  | 0 => by simp [pcD]
  | i + 1 => by
    have h1 := pcD_le ha hb i
    have h2 := okD_get ha i
    have h3 := okD_get hb i
    rw [pcD]
    omega
theorem vd_take (l : List Nat) (i : Nat) : vd (l.take (i + 1)) = vd (l.take i) + 65536 ^ i * l.getD i 0 := by
  by_cases h : i < l.length
  · rw [List.take_succ_eq_append_getElem h, vd_snoc, List.length_take, List.getD_eq_getElem?_getD, List.getElem?_eq_getElem h]
    rw [show min i l.length = i by omega]; rfl
  · rw [List.take_of_length_le (by omega), List.take_of_length_le (by omega), List.getD_eq_getElem?_getD, List.getElem?_eq_none (by omega)]; simp
theorem outP_vd (a b : List Nat) : ∀ i, vd (outP a b i) + 65536 ^ i * pcD a b i = vd (a.take i) + vd (b.take i)
  | 0 => by simp [outP, vd, pcD]
  | i + 1 => by
    have ih := outP_vd a b i
    rw [outP_succ, vd_snoc, outP_length, vd_take, vd_take, pcD, pdD, Nat.pow_succ]
    have h := Nat.div_add_mod (pcD a b i + a.getD i 0 + b.getD i 0) 65536
    obtain ⟨s, hs⟩ : ∃ s, s = pcD a b i + a.getD i 0 + b.getD i 0 := ⟨_, rfl⟩
    rw [← hs] at h ⊢
    have e1 : 65536 ^ i * (s % 65536) + 65536 ^ i * 65536 * (s / 65536) = 65536 ^ i * s := by
      rw [Nat.mul_assoc, ← Nat.mul_add]
      congr 1
      omega
    have e2 : 65536 ^ i * s = 65536 ^ i * pcD a b i + 65536 ^ i * a.getD i 0 + 65536 ^ i * b.getD i 0 := by
      rw [hs, Nat.mul_add, Nat.mul_add]
    omega
def plN (a b : List Nat) : Nat := max a.length b.length + (if 0 < pcD a b (max a.length b.length) then 1 else 0)
theorem getD_out {l : List Nat} {i : Nat} (h : l.length ≤ i) : l.getD i 0 = 0 := by
  rw [List.getD_eq_getElem?_getD, List.getElem?_eq_none h]; rfl
theorem plN_end {a b : List Nat} (ha : okD a) (hb : okD b) : pcD a b (plN a b) = 0 := by
  unfold plN
  split
  · rename_i h
    have h1 := pcD_le ha hb (max a.length b.length)
    rw [pcD, getD_out (show a.length ≤ max a.length b.length by omega), getD_out (show b.length ≤ max a.length b.length by omega)]
    omega
  · rw [Nat.add_zero]; omega
def plusD (a b : List Nat) : List Nat := outP a b (plN a b)
theorem plusD_vd {a b : List Nat} (ha : okD a) (hb : okD b) : vd (plusD a b) = vd a + vd b := by
  have h := outP_vd a b (plN a b)
  have hn : max a.length b.length ≤ plN a b := by unfold plN; omega
  rw [plN_end ha hb, List.take_of_length_le (by omega), List.take_of_length_le (by omega)] at h
  simpa [plusD] using h
theorem plusD_ok (a b : List Nat) : okD (plusD a b) := outP_ok a b _
theorem plusD_len (a b : List Nat) : (plusD a b).length ≤ max a.length b.length + 1 := by
  rw [plusD, outP_length]; unfold plN; split <;> omega
theorem plusD_ok_len (a b : List Nat) : (plusD a b).length = plN a b := outP_length a b _
theorem encD_append1 (l : List Nat) (d : Nat) : encD (l ++ [d]) = encD l ++ [.int .u32 (d : Int)] := by simp [encD]
theorem loop_plus (kf : Nat) (a b : List Nat) (nl nl2 : Bool) (cap cap2 : Option Nat) (ha : okD a) (hb : okD b) (hla : a.length ≤ 100000) (hlb : b.length ≤ 100000) (k : Nat) (l : Ass) (z : Option Out) (hz : loopR Try.prog tab kf none LB147_4 147 52 [0, 1, 5, 6, 7] 1 k l ([lo 102 0 (encD (outP a b 0))]) = z) (hk : plN a b < k) (a0 : asc l 0 = sD a nl cap) (a1 : asc l 1 = sD b nl2 cap2) (a5 : asc l 5 = lv 0 1 0) (a6 : asc l 6 = .c (.int .u32 (pcD a b 0 : Nat))) (a7 : asc l 7 = ii 0) :
    ∃ l', z = some (.exit 0 (fr 52 l') ([lo 102 (plN a b) (encD (outP a b (plN a b)))])) ∧ asc l' 0 = sD a nl cap ∧ asc l' 1 = sD b nl2 cap2 ∧ asc l' 5 = lv 0 1 (plN a b) ∧ asc l' 6 = .c (.int .u32 (pcD a b (plN a b) : Nat)) ∧ asc l' 7 = ii (plN a b) := by
  subst hz
  have hnb : plN a b ≤ 100001 := by unfold plN; split <;> omega
  refine loop_nat (plN a b) (fun k l H => loopR Try.prog tab kf none LB147_4 147 52 [0, 1, 5, 6, 7] 1 k l H)
    (fun i l H => asc l 0 = sD a nl cap ∧ asc l 1 = sD b nl2 cap2 ∧ asc l 5 = lv 0 1 i ∧ asc l 6 = .c (.int .u32 (pcD a b i : Nat)) ∧ asc l 7 = ii i ∧ ∃ G, H = ([lo 102 i (encD (outP a b i))]) ++ G)
    (fun z => ∃ l', z = some (.exit 0 (fr 52 l') ([lo 102 (plN a b) (encD (outP a b (plN a b)))])) ∧ asc l' 0 = sD a nl cap ∧ asc l' 1 = sD b nl2 cap2 ∧ asc l' 5 = lv 0 1 (plN a b) ∧ asc l' 6 = .c (.int .u32 (pcD a b (plN a b) : Nat)) ∧ asc l' 7 = ii (plN a b)) ?_ (plN a b) 0 k l _ (by omega) hk ⟨a0, a1, a5, a6, a7, [], by rw [List.append_nil]⟩
  clear hk a0 a1 a5 a6 a7
  rintro i k l H hi ⟨a0, a1, a5, a6, a7, G, rfl⟩
  have ht : trim 1 (fr 52 (keep l [0, 1, 5, 6, 7])) (([lo 102 i (encD (outP a b i))]) ++ G) = ([lo 102 i (encD (outP a b i))]) := trim_app (by simp) (by simp only [a0, a1, a5, a6, a7, EVb, EVc, Int.reduceEq, Int.reduceToNat, Int.reduceLE, Int.reduceLT, Int.reduceAdd, Int.reduceMul, Int.reduceSub, Int.reduceNeg, Nat.reduceAdd, Nat.reduceSub, Nat.reduceMul, Nat.reduceLT, Nat.reduceBEq, Nat.reduceEqDiff, Nat.reduceLeDiff]) (by simp only [EVb, EVc, Int.reduceEq, Int.reduceToNat, Int.reduceLE, Int.reduceLT, Int.reduceAdd, Int.reduceMul, Int.reduceSub, Int.reduceNeg, Nat.reduceAdd, Nat.reduceSub, Nat.reduceMul, Nat.reduceLT, Nat.reduceBEq, Nat.reduceEqDiff, Nat.reduceLeDiff])
  by_cases hc : i < (plN a b)
  · have hc' : (i : Int) < ((plN a b : Nat) : Int) := by omega
    have hc0 : (0 : Int) ≤ i := by omega
    have hw : IntKind.wrap .i64 ((i : Int) + 1) = ((i + 1 : Nat) : Int) := by rw [wrap64 (by omega) (by omega)]; omega
    have h1 := pcD_le ha hb i
    have h2 := okD_get ha i
    have h3 := okD_get hb i
    have hol := outP_length a b i
    have hap := fun X y => hapD (l := outP a b i) (X := X) (x := y) (by omega) hol
    rw [outP_succ]
    have hpc : pcD a b (i + 1) = (pcD a b i + a.getD i 0 + b.getD i 0) / 65536 := rfl
    have hpd : pdD a b i = (pcD a b i + a.getD i 0 + b.getD i 0) % 65536 := rfl
    rw [hpc, hpd]
    obtain ⟨c, hc1⟩ : ∃ c, c = pcD a b i := ⟨_, rfl⟩
    have hor : i < a.length ∨ i < b.length ∨ 0 < c := by
      unfold plN at hc
      split at hc
      · rename_i hp
        by_cases e : i = max a.length b.length
        · right; right
          rw [hc1, e]; exact hp
        · omega
      · omega
    rw [← hc1] at h1 a6 ⊢
    by_cases hia : i < a.length
    · have hia' : (i : Int) < a.length := by omega
      have hx := encD_get hia
      obtain ⟨x, hx1⟩ : ∃ x, x = a.getD i 0 := ⟨_, rfl⟩
      rw [← hx1] at hx h2 ⊢
      have w1 : IntKind.wrap .u32 ((c : Int) + (x : Int)) = ((c + x : Nat) : Int) := by rw [wrap32 (by omega) (by omega)]; omega
      by_cases hib : i < b.length
      · have hib' : (i : Int) < b.length := by omega
        have hy := encD_get hib
        obtain ⟨y, hy1⟩ : ∃ y, y = b.getD i 0 := ⟨_, rfl⟩
        rw [← hy1] at hy h3 ⊢
        have w2 : IntKind.wrap .u32 (((c + x : Nat) : Int) + (y : Int)) = ((c + x + y : Nat) : Int) := by rw [wrap32 (by omega) (by omega)]; omega
        have r1 := tmod16 (c + x + y)
        have r2 := tdiv16 (c + x + y)
        have r3 := wr32 (n := (c + x + y) / 65536) (by omega)
        simp only [loopR_succ, ht]
        simp only [a0, a1, a5, a6, a7, hc', hc0, hw, hia', hib', hx, hy, w1, w2, r1, r2, r3, hap, loopR_succ, loopOf, findLoop, firstRegion, Option.some_or, Option.none_or, Option.getD_some, Option.some.injEq, Try.f147, FT, Int.reduceEq, Int.reduceToNat, Int.reduceLE, Int.reduceLT, Int.reduceAdd, Int.reduceMul, Int.reduceSub, Int.reduceNeg, Nat.reduceAdd, Nat.reduceSub, Nat.reduceMul, Nat.reduceLT, Nat.reduceBEq, Nat.reduceEqDiff, Nat.reduceLeDiff]
        refine .inr ⟨_, _, hc, rfl, (by rfl), (by rfl), (by rfl), (by rfl), (by rfl), ?_⟩
        rw [← encD_append1]
        exact ⟨_, by rfl⟩
      · have hib' : ¬ (i : Int) < b.length := by omega
        rw [getD_out (show b.length ≤ i by omega), Nat.add_zero]
        have r1 := tmod16 (c + x)
        have r2 := tdiv16 (c + x)
        have r3 := wr32 (n := (c + x) / 65536) (by omega)
        simp only [loopR_succ, ht]
        simp only [a0, a1, a5, a6, a7, hc', hc0, hw, hia', hib', hx, w1, r1, r2, r3, hap, loopR_succ, loopOf, findLoop, firstRegion, Option.some_or, Option.none_or, Option.getD_some, Option.some.injEq, Try.f147, FT, Int.reduceEq, Int.reduceToNat, Int.reduceLE, Int.reduceLT, Int.reduceAdd, Int.reduceMul, Int.reduceSub, Int.reduceNeg, Nat.reduceAdd, Nat.reduceSub, Nat.reduceMul, Nat.reduceLT, Nat.reduceBEq, Nat.reduceEqDiff, Nat.reduceLeDiff]
        refine .inr ⟨_, _, hc, rfl, (by rfl), (by rfl), (by rfl), (by rfl), (by rfl), ?_⟩
        rw [← encD_append1]
        exact ⟨_, by rfl⟩
    · have hia' : ¬ (i : Int) < a.length := by omega
      rw [getD_out (show a.length ≤ i by omega), Nat.add_zero]
      by_cases hib : i < b.length
      · have hib' : (i : Int) < b.length := by omega
        have hy := encD_get hib
        obtain ⟨y, hy1⟩ : ∃ y, y = b.getD i 0 := ⟨_, rfl⟩
        rw [← hy1] at hy h3 ⊢
        have w2 : IntKind.wrap .u32 ((c : Int) + (y : Int)) = ((c + y : Nat) : Int) := by rw [wrap32 (by omega) (by omega)]; omega
        have r1 := tmod16 (c + y)
        have r2 := tdiv16 (c + y)
        have r3 := wr32 (n := (c + y) / 65536) (by omega)
        simp only [loopR_succ, ht]
        simp only [a0, a1, a5, a6, a7, hc', hc0, hw, hia', hib', hy, w2, r1, r2, r3, hap, loopR_succ, loopOf, findLoop, firstRegion, Option.some_or, Option.none_or, Option.getD_some, Option.some.injEq, Try.f147, FT, Int.reduceEq, Int.reduceToNat, Int.reduceLE, Int.reduceLT, Int.reduceAdd, Int.reduceMul, Int.reduceSub, Int.reduceNeg, Nat.reduceAdd, Nat.reduceSub, Nat.reduceMul, Nat.reduceLT, Nat.reduceBEq, Nat.reduceEqDiff, Nat.reduceLeDiff]
        refine .inr ⟨_, _, hc, rfl, (by rfl), (by rfl), (by rfl), (by rfl), (by rfl), ?_⟩
        rw [← encD_append1]
        exact ⟨_, by rfl⟩
      · have hib' : ¬ (i : Int) < b.length := by omega
        rw [getD_out (show b.length ≤ i by omega), Nat.add_zero]
        have hcp : (0 : Int) < ((c : Nat) : Int) := by omega
        have r1 := tmod16 c
        have r2 := tdiv16 c
        have r3 := wr32 (n := c / 65536) (by omega)
        simp only [loopR_succ, ht]
        simp only [a0, a1, a5, a6, a7, hc', hc0, hw, hia', hib', hcp, r1, r2, r3, hap, loopR_succ, loopOf, findLoop, firstRegion, Option.some_or, Option.none_or, Option.getD_some, Option.some.injEq, Try.f147, FT, Int.reduceEq, Int.reduceToNat, Int.reduceLE, Int.reduceLT, Int.reduceAdd, Int.reduceMul, Int.reduceSub, Int.reduceNeg, Nat.reduceAdd, Nat.reduceSub, Nat.reduceMul, Nat.reduceLT, Nat.reduceBEq, Nat.reduceEqDiff, Nat.reduceLeDiff]
        refine .inr ⟨_, _, hc, rfl, (by rfl), (by rfl), (by rfl), (by rfl), (by rfl), ?_⟩
        rw [← encD_append1]
        exact ⟨_, by rfl⟩
  · refine .inl ?_
    obtain rfl : i = (plN a b) := by omega
    have hc' : ¬ ((((plN a b) : Nat) : Int) < (((plN a b) : Nat) : Int)) := by omega
    have hend := plN_end ha hb
    have hn : max a.length b.length ≤ plN a b := by unfold plN; omega
    have hia' : ¬ ((plN a b : Nat) : Int) < a.length := by omega
    have hib' : ¬ ((plN a b : Nat) : Int) < b.length := by omega
    rw [hend] at a6
    simp only [loopR_succ, ht]
    simp only [a0, a1, a5, a6, a7, hc', hia', hib', loopR_succ, loopOf, findLoop, firstRegion, Option.some_or, Option.none_or, Option.getD_some, Option.some.injEq, Try.f147, FT, Int.reduceEq, Int.reduceToNat, Int.reduceLE, Int.reduceLT, Int.reduceAdd, Int.reduceMul, Int.reduceSub, Int.reduceNeg, Nat.reduceAdd, Nat.reduceSub, Nat.reduceMul, Nat.reduceLT, Nat.reduceBEq, Nat.reduceEqDiff, Nat.reduceLeDiff]
    exact ⟨_, rfl, (by rfl), (by rfl), (by rfl), (by rw [hend]; rfl), (by rfl)⟩
theorem plus_ev (k : Nat) (a b : List Nat) (nl nl2 : Bool) (cap cap2 : Option Nat) (ha : okD a) (hb : okD b) (hla : a.length ≤ 100000) (hlb : b.length ≤ 100000) (hk : a.length + b.length + 2 ≤ k) : ∃ nl3 cap3, run (k+1) 147 [sD a nl cap, sD b nl2 cap2] = some (sD (plusD a b) nl3 cap3) := by
  have hnb : plN a b ≤ a.length + b.length + 1 := by unfold plN; split <;> omega
  have hel : (encD (outP a b (plN a b))).length = plN a b := by rw [encD_length, outP_length]
  refine ⟨decide (plN a b = 0), if plN a b = 0 then some 0 else none, ?_⟩
  rw [run, ev147, ans_trim]
  simp only [Try.f147, FT, Int.reduceEq, Int.reduceToNat, Int.reduceLE, Int.reduceLT, Int.reduceAdd, Int.reduceMul, Int.reduceSub, Int.reduceNeg, Nat.reduceAdd, Nat.reduceSub, Nat.reduceMul, Nat.reduceLT, Nat.reduceBEq, Nat.reduceEqDiff, Nat.reduceLeDiff]
  rw [evalCode_loopB LB147_4 lp147_4]; rotate_left; rfl; rfl; rfl
  generalize hz : loopR _ _ _ _ _ _ _ _ _ _ _ _ = z
  obtain ⟨l', rfl, e0, e1, e5, e6, e7⟩ := loop_plus k a b nl nl2 cap cap2 ha hb hla hlb _ _ z hz (by omega) (by rfl) (by rfl) (by rfl) (by rfl) (by rfl)
  clear hz
  simp only [e0, e1, e5, e6, e7, hel, FT, Int.reduceEq, Int.reduceToNat, Int.reduceLE, Int.reduceLT, Int.reduceAdd, Int.reduceMul, Int.reduceSub, Int.reduceNeg, Nat.reduceAdd, Nat.reduceSub, Nat.reduceMul, Nat.reduceLT, Nat.reduceBEq, Nat.reduceEqDiff, Nat.reduceLeDiff]
  rw [sD, plusD_ok_len]
  rfl
end Go.Proofs.Sw
namespace Go.Proofs.Sw
open Go.Ab
variable [Globals]
def boD (a b : List Nat) : Nat → Nat
  | 0 => 0
  | i + 1 => if a.getD i 0 < boD a b i + b.getD i 0 then 1 else 0
def mdD (a b : List Nat) (i : Nat) : Nat := if a.getD i 0 < boD a b i + b.getD i 0 then a.getD i 0 + 65536 - (boD a b i + b.getD i 0) else a.getD i 0 - (boD a b i + b.getD i 0)
def outM (a b : List Nat) (i : Nat) : List Nat := (List.range i).map (mdD a b)
theorem outM_succ (a b : List Nat) (i : Nat) : outM a b (i + 1) = outM a b i ++ [mdD a b i] := by simp [outM, List.range_succ]
theorem outM_length (a b : List Nat) (i : Nat) : (outM a b i).length = i := by simp [outM]
theorem boD_le (a b : List Nat) : ∀ i, boD a b i ≤ 1
  | 0 => by simp [boD]
  | i + 1 => by rw [boD]; split <;> omega
theorem mdD_lt {a b : List Nat} (ha : okD a) (hb : okD b) (i : Nat) : mdD a b i < 65536 := by
  have h1 := boD_le a b i
  have h2 := okD_get ha i
  have h3 := okD_get hb i
  unfold mdD
  split <;> omega
theorem outM_ok {a b : List Nat} (ha : okD a) (hb : okD b) (i : Nat) : okD (outM a b i) := fun d hd => by
  simp only [outM, List.mem_map] at hd
  obtain ⟨j, _, rfl⟩ := hd
  exact mdD_lt ha hb j
theorem borrow_step (p : Nat) {x y c : Nat} (hc : c ≤ 1) (hx : x < 65536) (hy : y < 65536) :
    p * (if x < c + y then x + 65536 - (c + y) else x - (c + y)) + p * y + p * c = p * x + p * 65536 * (if x < c + y then 1 else 0) := by
  split
  · rw [Nat.mul_one, ← Nat.mul_add, ← Nat.mul_add, ← Nat.mul_add]
    congr 1
    omega
  · rw [Nat.mul_zero, Nat.add_zero, ← Nat.mul_add, ← Nat.mul_add]
    congr 1
    omega
theorem outM_vd {a b : List Nat} (ha : okD a) (hb : okD b) : ∀ i, vd (outM a b i) + vd (b.take i) = vd (a.take i) + 65536 ^ i * boD a b i
  | 0 => by simp [outM, vd, boD]
  | i + 1 => by
    have ih := outM_vd ha hb i
    have h1 := boD_le a b i
    have h2 := okD_get ha i
    have h3 := okD_get hb i
    rw [outM_succ, vd_snoc, outM_length, vd_take, vd_take, boD, mdD, Nat.pow_succ]
    have := borrow_step (65536 ^ i) h1 h2 h3
    omega
def minusD (a b : List Nat) : List Nat := outM a b a.length
theorem minusD_ok {a b : List Nat} (ha : okD a) (hb : okD b) : okD (minusD a b) := outM_ok ha hb _
theorem minusD_len (a b : List Nat) : (minusD a b).length = a.length := outM_length a b _
theorem minusD_vd {a b : List Nat} (ha : okD a) (hb : okD b) (hl : b.length ≤ a.length) (h : vd b ≤ vd a) : vd (minusD a b) = vd a - vd b := by
  have h1 := outM_vd ha hb a.length
  rw [List.take_of_length_le hl, List.take_of_length_le (Nat.le_refl _)] at h1
  have h2 := vd_lt (outM_ok ha hb a.length)
  rw [outM_length] at h2
  have h3 := boD_le a b a.length
  have h4 : boD a b a.length = 0 := by
    by_cases h0 : boD a b a.length = 0
    · exact h0
    · rw [show boD a b a.length = 1 by omega, Nat.mul_one] at h1
      omega
  rw [h4, Nat.mul_zero] at h1
  unfold minusD
  omega
theorem loop_minus (kf : Nat) (a b : List Nat) (nl nl2 : Bool) (cap cap2 : Option Nat) (ha : okD a) (hb : okD b) (hla : a.length ≤ 100000) (hlb : b.length ≤ 100000) (k : Nat) (l : Ass) (z : Option Out) (hz : loopR Try.prog tab kf none LB148_4 148 43 [0, 1, 5, 6, 7] 1 k l ([lo 102 0 (encD (outM a b 0))]) = z) (hk : a.length < k) (a0 : asc l 0 = sD a nl cap) (a1 : asc l 1 = sD b nl2 cap2) (a5 : asc l 5 = lv 0 1 0) (a6 : asc l 6 = .c (.int .u32 (boD a b 0 : Nat))) (a7 : asc l 7 = ii 0) :
    ∃ l', z = some (.exit 0 (fr 43 l') ([lo 102 a.length (encD (outM a b a.length))])) ∧ asc l' 0 = sD a nl cap ∧ asc l' 1 = sD b nl2 cap2 ∧ asc l' 5 = lv 0 1 a.length ∧ asc l' 6 = .c (.int .u32 (boD a b a.length : Nat)) ∧ asc l' 7 = ii a.length := by
  subst hz
  refine loop_nat a.length (fun k l H => loopR Try.prog tab kf none LB148_4 148 43 [0, 1, 5, 6, 7] 1 k l H)
    (fun i l H => asc l 0 = sD a nl cap ∧ asc l 1 = sD b nl2 cap2 ∧ asc l 5 = lv 0 1 i ∧ asc l 6 = .c (.int .u32 (boD a b i : Nat)) ∧ asc l 7 = ii i ∧ ∃ G, H = ([lo 102 i (encD (outM a b i))]) ++ G)
    (fun z => ∃ l', z = some (.exit 0 (fr 43 l') ([lo 102 a.length (encD (outM a b a.length))])) ∧ asc l' 0 = sD a nl cap ∧ asc l' 1 = sD b nl2 cap2 ∧ asc l' 5 = lv 0 1 a.length ∧ asc l' 6 = .c (.int .u32 (boD a b a.length : Nat)) ∧ asc l' 7 = ii a.length) ?_ a.length 0 k l _ (by omega) hk ⟨a0, a1, a5, a6, a7, [], by rw [List.append_nil]⟩
  clear hk a0 a1 a5 a6 a7
  rintro i k l H hi ⟨a0, a1, a5, a6, a7, G, rfl⟩
  have ht : trim 1 (fr 43 (keep l [0, 1, 5, 6, 7])) (([lo 102 i (encD (outM a b i))]) ++ G) = ([lo 102 i (encD (outM a b i))]) := trim_app (by simp) (by simp only [a0, a1, a5, a6, a7, EVb, EVc, Int.reduceEq, Int.reduceToNat, Int.reduceLE, Int.reduceLT, Int.reduceAdd, Int.reduceMul, Int.reduceSub, Int.reduceNeg, Nat.reduceAdd, Nat.reduceSub, Nat.reduceMul, Nat.reduceLT, Nat.reduceBEq, Nat.reduceEqDiff, Nat.reduceLeDiff]) (by simp only [EVb, EVc, Int.reduceEq, Int.reduceToNat, Int.reduceLE, Int.reduceLT, Int.reduceAdd, Int.reduceMul, Int.reduceSub, Int.reduceNeg, Nat.reduceAdd, Nat.reduceSub, Nat.reduceMul, Nat.reduceLT, Nat.reduceBEq, Nat.reduceEqDiff, Nat.reduceLeDiff])
  by_cases hc : i < a.length
  · have hc' : (i : Int) < ((a.length : Nat) : Int) := by omega
    have hc0 : (0 : Int) ≤ i := by omega
    have hw : IntKind.wrap .i64 ((i : Int) + 1) = ((i + 1 : Nat) : Int) := by rw [wrap64 (by omega) (by omega)]; omega
    have h1 := boD_le a b i
    have h2 := okD_get ha i
    have h3 := okD_get hb i
    have hol := outM_length a b i
    have hap := fun X y => hapD (l := outM a b i) (X := X) (x := y) (by omega) hol
    have hpc : boD a b (i + 1) = if a.getD i 0 < boD a b i + b.getD i 0 then 1 else 0 := rfl
    have hpd : mdD a b i = if a.getD i 0 < boD a b i + b.getD i 0 then a.getD i 0 + 65536 - (boD a b i + b.getD i 0) else a.getD i 0 - (boD a b i + b.getD i 0) := rfl
    rw [outM_succ, hpc, hpd]
    obtain ⟨c, hc1⟩ : ∃ c, c = boD a b i := ⟨_, rfl⟩
    rw [← hc1] at h1 a6 ⊢
    have hx := encD_get hc
    obtain ⟨x, hx1⟩ : ∃ x, x = a.getD i 0 := ⟨_, rfl⟩
    rw [← hx1] at hx h2 ⊢
    have w3 : IntKind.wrap .u32 ((x : Int) + 65536) = ((x + 65536 : Nat) : Int) := by rw [wrap32 (by omega) (by omega)]; omega
    by_cases hib : i < b.length
    · have hib' : (i : Int) < b.length := by omega
      have hy := encD_get hib
      obtain ⟨y, hy1⟩ : ∃ y, y = b.getD i 0 := ⟨_, rfl⟩
      rw [← hy1] at hy h3 ⊢
      have w2 : IntKind.wrap .u32 ((c : Int) + (y : Int)) = ((c + y : Nat) : Int) := by rw [wrap32 (by omega) (by omega)]; omega
      by_cases hlt : x < c + y
      · have hlt' : (x : Int) < ((c + y : Nat) : Int) := by omega
        have w4 : IntKind.wrap .u32 (((x + 65536 : Nat) : Int) - ((c + y : Nat) : Int)) = ((x + 65536 - (c + y) : Nat) : Int) := by rw [wrap32 (by omega) (by omega)]; omega
        rw [if_pos hlt, if_pos hlt]
        simp only [loopR_succ, ht]
        simp only [a0, a1, a5, a6, a7, hc', hc0, hw, hib', hx, hy, w2, w3, w4, hlt', hap, loopR_succ, loopOf, findLoop, firstRegion, Option.some_or, Option.none_or, Option.getD_some, Option.some.injEq, Try.f148, FT, Int.reduceEq, Int.reduceToNat, Int.reduceLE, Int.reduceLT, Int.reduceAdd, Int.reduceMul, Int.reduceSub, Int.reduceNeg, Nat.reduceAdd, Nat.reduceSub, Nat.reduceMul, Nat.reduceLT, Nat.reduceBEq, Nat.reduceEqDiff, Nat.reduceLeDiff]
        refine .inr ⟨_, _, hc, rfl, (by rfl), (by rfl), (by rfl), (by rfl), (by rfl), ?_⟩
        rw [encD_append1]
        exact ⟨_, by rfl⟩
      · have hlt' : ¬ (x : Int) < ((c + y : Nat) : Int) := by omega
        have w4 : IntKind.wrap .u32 ((x : Int) - ((c + y : Nat) : Int)) = ((x - (c + y) : Nat) : Int) := by rw [wrap32 (by omega) (by omega)]; omega
        rw [if_neg hlt, if_neg hlt]
        simp only [loopR_succ, ht]
        simp only [a0, a1, a5, a6, a7, hc', hc0, hw, hib', hx, hy, w2, w4, hlt', hap, loopR_succ, loopOf, findLoop, firstRegion, Option.some_or, Option.none_or, Option.getD_some, Option.some.injEq, Try.f148, FT, Int.reduceEq, Int.reduceToNat, Int.reduceLE, Int.reduceLT, Int.reduceAdd, Int.reduceMul, Int.reduceSub, Int.reduceNeg, Nat.reduceAdd, Nat.reduceSub, Nat.reduceMul, Nat.reduceLT, Nat.reduceBEq, Nat.reduceEqDiff, Nat.reduceLeDiff]
        refine .inr ⟨_, _, hc, rfl, (by rfl), (by rfl), (by rfl), (by rfl), (by rfl), ?_⟩
        rw [encD_append1]
        exact ⟨_, by rfl⟩
    · have hib' : ¬ (i : Int) < b.length := by omega
      rw [getD_out (show b.length ≤ i by omega)]
      simp only [Nat.add_zero]
      by_cases hlt : x < c
      · have hlt' : (x : Int) < (c : Int) := by omega
        have w4 : IntKind.wrap .u32 (((x + 65536 : Nat) : Int) - (c : Int)) = ((x + 65536 - c : Nat) : Int) := by rw [wrap32 (by omega) (by omega)]; omega
        rw [if_pos hlt, if_pos hlt]
        simp only [loopR_succ, ht]
        simp only [a0, a1, a5, a6, a7, hc', hc0, hw, hib', hx, w3, w4, hlt', hap, loopR_succ, loopOf, findLoop, firstRegion, Option.some_or, Option.none_or, Option.getD_some, Option.some.injEq, Try.f148, FT, Int.reduceEq, Int.reduceToNat, Int.reduceLE, Int.reduceLT, Int.reduceAdd, Int.reduceMul, Int.reduceSub, Int.reduceNeg, Nat.reduceAdd, Nat.reduceSub, Nat.reduceMul, Nat.reduceLT, Nat.reduceBEq, Nat.reduceEqDiff, Nat.reduceLeDiff]
        refine .inr ⟨_, _, hc, rfl, (by rfl), (by rfl), (by rfl), (by rfl), (by rfl), ?_⟩
        rw [encD_append1]
        exact ⟨_, by rfl⟩
      · have hlt' : ¬ (x : Int) < (c : Int) := by omega
        have w4 : IntKind.wrap .u32 ((x : Int) - (c : Int)) = ((x - c : Nat) : Int) := by rw [wrap32 (by omega) (by omega)]; omega
        rw [if_neg hlt, if_neg hlt]
        simp only [loopR_succ, ht]
        simp only [a0, a1, a5, a6, a7, hc', hc0, hw, hib', hx, w4, hlt', hap, loopR_succ, loopOf, findLoop, firstRegion, Option.some_or, Option.none_or, Option.getD_some, Option.some.injEq, Try.f148, FT, Int.reduceEq, Int.reduceToNat, Int.reduceLE, Int.reduceLT, Int.reduceAdd, Int.reduceMul, Int.reduceSub, Int.reduceNeg, Nat.reduceAdd, Nat.reduceSub, Nat.reduceMul, Nat.reduceLT, Nat.reduceBEq, Nat.reduceEqDiff, Nat.reduceLeDiff]
        refine .inr ⟨_, _, hc, rfl, (by rfl), (by rfl), (by rfl), (by rfl), (by rfl), ?_⟩
        rw [encD_append1]
        exact ⟨_, by rfl⟩
  · refine .inl ?_
    obtain rfl : i = a.length := by omega
    have hc' : ¬ (((a.length : Nat) : Int) < ((a.length : Nat) : Int)) := by omega
    simp only [loopR_succ, ht]
    simp only [a0, a1, a5, a6, a7, hc', loopR_succ, loopOf, findLoop, firstRegion, Option.some_or, Option.none_or, Option.getD_some, Option.some.injEq, Try.f148, FT, Int.reduceEq, Int.reduceToNat, Int.reduceLE, Int.reduceLT, Int.reduceAdd, Int.reduceMul, Int.reduceSub, Int.reduceNeg, Nat.reduceAdd, Nat.reduceSub, Nat.reduceMul, Nat.reduceLT, Nat.reduceBEq, Nat.reduceEqDiff, Nat.reduceLeDiff]
    exact ⟨_, rfl, (by rfl), (by rfl), (by rfl), (by rfl), (by rfl)⟩
theorem minus_ev (k : Nat) (a b : List Nat) (nl nl2 : Bool) (cap cap2 : Option Nat) (ha : okD a) (hb : okD b) (hla : a.length ≤ 100000) (hlb : b.length ≤ 100000) (hk : a.length < k) : ∃ nl3 cap3, run (k+1) 148 [sD a nl cap, sD b nl2 cap2] = some (sD (minusD a b) nl3 cap3) := by
  have hel : (encD (outM a b a.length)).length = a.length := by rw [encD_length, outM_length]
  refine ⟨decide (a.length = 0), if a.length = 0 then some 0 else none, ?_⟩
  rw [run, ev148, ans_trim]
  simp only [Try.f148, FT, Int.reduceEq, Int.reduceToNat, Int.reduceLE, Int.reduceLT, Int.reduceAdd, Int.reduceMul, Int.reduceSub, Int.reduceNeg, Nat.reduceAdd, Nat.reduceSub, Nat.reduceMul, Nat.reduceLT, Nat.reduceBEq, Nat.reduceEqDiff, Nat.reduceLeDiff]
  rw [evalCode_loopB LB148_4 lp148_4]; rotate_left; rfl; rfl; rfl
  generalize hz : loopR _ _ _ _ _ _ _ _ _ _ _ _ = z
  obtain ⟨l', rfl, e0, e1, e5, e6, e7⟩ := loop_minus k a b nl nl2 cap cap2 ha hb hla hlb _ _ z hz (by omega) (by rfl) (by rfl) (by rfl) (by rfl) (by rfl)
  clear hz
  simp only [e0, e1, e5, e6, e7, hel, FT, Int.reduceEq, Int.reduceToNat, Int.reduceLE, Int.reduceLT, Int.reduceAdd, Int.reduceMul, Int.reduceSub, Int.reduceNeg, Nat.reduceAdd, Nat.reduceSub, Nat.reduceMul, Nat.reduceLT, Nat.reduceBEq, Nat.reduceEqDiff, Nat.reduceLeDiff]
  rw [sD, minusD_len]
  rfl
theorem vd_ge {b : List Nat} (hb : Can b) (h : b ≠ []) : 65536 ^ (b.length - 1) ≤ vd b := by
  obtain ⟨l, x, hx⟩ : ∃ l x, b = l ++ [x] := ⟨b.dropLast, b.getLast h, (List.dropLast_concat_getLast h).symm⟩
  have hx0 : x ≠ 0 := fun e => by
    subst e
    have := hb.tr
    rw [hx, trim_app0] at this
    have h2 := trim_len l
    have h3 := congrArg List.length this
    simp at h3
    omega
  rw [hx, vd_snoc, List.length_append]
  simp only [List.length_cons, List.length_nil, Nat.zero_add, Nat.add_sub_cancel]
  have : 65536 ^ l.length * 1 ≤ 65536 ^ l.length * x := Nat.mul_le_mul_left _ (by omega)
  omega
theorem can_len {a b : List Nat} (ha : okD a) (hb : Can b) (h : a.length < b.length) : vd a < vd b := by
  have h1 := vd_lt ha
  have h2 := vd_ge hb (fun e => by rw [e] at h; simp at h)
  have h3 : 65536 ^ a.length ≤ 65536 ^ (b.length - 1) := Nat.pow_le_pow_right (by omega) (by omega)
  omega
theorem vd_split (l : List Nat) (j : Nat) (h : j < l.length) : vd l = vd (l.take j) + 65536 ^ j * (l.getD j 0 + 65536 * vd (l.drop (j + 1))) := by
  have h1 : l = l.take j ++ l.drop j := (List.take_append_drop j l).symm
  have h2 : l.drop j = l.getD j 0 :: l.drop (j + 1) := by
    rw [List.drop_eq_getElem_cons h, List.getD_eq_getElem?_getD, List.getElem?_eq_getElem h]; rfl
  have h3 : (l.take j).length = j := by rw [List.length_take]; omega
  calc vd l = vd (l.take j ++ l.drop j) := by rw [← h1]
    _ = _ := by rw [vd_append, h3, h2, vd]
theorem vd_lt_at {a b : List Nat} (ha : okD a) {j : Nat} (hja : j < a.length) (hjb : j < b.length) (hd : a.drop (j + 1) = b.drop (j + 1)) (h : a.getD j 0 < b.getD j 0) : vd a < vd b := by
  have h1 : vd (a.take j) < 65536 ^ j := by
    have := vd_lt (l := a.take j) (fun d hd => ha d (List.mem_of_mem_take hd))
    rwa [List.length_take, show min j a.length = j by omega] at this
  rw [vd_split a j hja, vd_split b j hjb, hd]
  have h2 : 65536 ^ j * (a.getD j 0 + 65536 * vd (b.drop (j + 1)) + 1) ≤ 65536 ^ j * (b.getD j 0 + 65536 * vd (b.drop (j + 1))) := Nat.mul_le_mul_left _ (by omega)
  rw [Nat.mul_add, Nat.mul_one] at h2
  omega
def cmpN (m n : Nat) : Int := if m < n then -1 else if n < m then 1 else 0
end Go.Proofs.Sw
namespace Go.Proofs.Sw
open Go.Ab
variable [Globals]
theorem loop_size (kf : Nat) (a b : List Nat) (nl nl2 : Bool) (cap cap2 : Option Nat) (ha : okD a) (hb : okD b) (hlab : b.length = a.length) (hla : a.length ≤ 100000) (k : Nat) (l : Ass) (z : Option Out) (hz : loopR Try.prog tab kf none LB109_6 109 41 [0, 1, 5] 0 k l ([]) = z) (hk : a.length < k) (a0 : asc l 0 = sD a nl cap) (a1 : asc l 1 = sD b nl2 cap2) (a5 : asc l 5 = ii ((a.length : Int) - 1 - 0)) :
    ∃ l', (z = some (.exit 0 (fr 41 l') []) ∧ a = b) ∨ (z = some (.ret (fr 41 l') []) ∧ asc l' 4 = ii (cmpN (vd a) (vd b))) := by
  subst hz
  refine loop_nat a.length (fun k l H => loopR Try.prog tab kf none LB109_6 109 41 [0, 1, 5] 0 k l H)
    (fun i l H => asc l 0 = sD a nl cap ∧ asc l 1 = sD b nl2 cap2 ∧ asc l 5 = ii ((a.length : Int) - 1 - i) ∧ (a.drop (a.length - i) = b.drop (a.length - i)) ∧ ∃ G, H = ([]) ++ G)
    (fun z => ∃ l', (z = some (.exit 0 (fr 41 l') []) ∧ a = b) ∨ (z = some (.ret (fr 41 l') []) ∧ asc l' 4 = ii (cmpN (vd a) (vd b)))) ?_ a.length 0 k l _ (by omega) hk ⟨a0, a1, a5, by simp [hlab], [], by rw [List.append_nil]⟩
  clear hk a0 a1 a5
  rintro i k l H hi ⟨a0, a1, a5, hp, G, rfl⟩
  have ht : trim 0 (fr 41 (keep l [0, 1, 5])) (([]) ++ H) = ([]) := trim_app (by simp) (by simp only [a0, a1, a5, EVb, EVc, Int.reduceEq, Int.reduceToNat, Int.reduceLE, Int.reduceLT, Int.reduceAdd, Int.reduceMul, Int.reduceSub, Int.reduceNeg, Nat.reduceAdd, Nat.reduceSub, Nat.reduceMul, Nat.reduceLT, Nat.reduceBEq, Nat.reduceEqDiff, Nat.reduceLeDiff]) (by simp only [EVb, EVc, Int.reduceEq, Int.reduceToNat, Int.reduceLE, Int.reduceLT, Int.reduceAdd, Int.reduceMul, Int.reduceSub, Int.reduceNeg, Nat.reduceAdd, Nat.reduceSub, Nat.reduceMul, Nat.reduceLT, Nat.reduceBEq, Nat.reduceEqDiff, Nat.reduceLeDiff])
  by_cases hc : i < a.length
  · have hc' : (i : Int) < ((a.length : Nat) : Int) := by omega
    have hc0 : (0 : Int) ≤ i := by omega
    have hw : IntKind.wrap .i64 ((i : Int) + 1) = ((i + 1 : Nat) : Int) := by rw [wrap64 (by omega) (by omega)]; omega
    obtain ⟨j, hj⟩ : ∃ j, a.length = j + 1 + i := ⟨a.length - 1 - i, by omega⟩
    have e1 : a.length - i = j + 1 := by omega
    have e2 : a.length - (i + 1) = j := by omega
    have e3 : (a.length : Int) - 1 - (i : Int) = (j : Int) := by omega
    have e4 : (a.length : Int) - 1 - ((i + 1 : Nat) : Int) = (j : Int) - 1 := by omega
    rw [e3] at a5
    rw [e1] at hp
    rw [e2, e4]
    have hj0 : (0 : Int) ≤ j := by omega
    have hj1 : (j : Int) < a.length := by omega
    have hj2 : (j : Int) < b.length := by omega
    have hx := encD_get (l := a) (i := j) (by omega)
    have hy := encD_get (l := b) (i := j) (by omega)
    have hw2 : IntKind.wrap .i64 ((j : Int) - 1) = (j : Int) - 1 := by rw [wrap64 (by omega) (by omega)]
    by_cases h1 : a.getD j 0 < b.getD j 0
    · have h1' : ((a.getD j 0 : Nat) : Int) < ((b.getD j 0 : Nat) : Int) := by omega
      have hv := vd_lt_at ha (show j < a.length by omega) (show j < b.length by omega) hp h1
      have hcm : cmpN (vd a) (vd b) = -1 := if_pos hv
      refine .inl ?_
      simp only [loopR_succ, ht]
      simp only [a0, a1, a5, hc', hc0, hw, hj0, loopR_succ, loopOf, findLoop, firstRegion, Option.some_or, Option.none_or, Option.getD_some, Option.some.injEq, Try.f109, FT, Int.reduceEq, Int.reduceToNat, Int.reduceLE, Int.reduceLT, Int.reduceAdd, Int.reduceMul, Int.reduceSub, Int.reduceNeg, Nat.reduceAdd, Nat.reduceSub, Nat.reduceMul, Nat.reduceLT, Nat.reduceBEq, Nat.reduceEqDiff, Nat.reduceLeDiff]
      rw [evalCode_drawn Try.f109 8 dr109_8]; rotate_left; rfl
      simp only [a0, a1, a5, hc', hc0, hw, hj0, hj1, hj2, hx, hy, h1', EVd, List.getElem?_nil, Nat.reducePow, Nat.reduceDiv, Nat.reduceMod, FT, Int.reduceEq, Int.reduceToNat, Int.reduceLE, Int.reduceLT, Int.reduceAdd, Int.reduceMul, Int.reduceSub, Int.reduceNeg, Nat.reduceAdd, Nat.reduceSub, Nat.reduceMul, Nat.reduceLT, Nat.reduceBEq, Nat.reduceEqDiff, Nat.reduceLeDiff]
      rw [hcm]
      exact ⟨_, .inr ⟨rfl, (by rfl)⟩⟩
    · have h1' : ¬ ((a.getD j 0 : Nat) : Int) < ((b.getD j 0 : Nat) : Int) := by omega
      by_cases h2 : b.getD j 0 < a.getD j 0
      · have h2' : ((b.getD j 0 : Nat) : Int) < ((a.getD j 0 : Nat) : Int) := by omega
        have hv := vd_lt_at hb (show j < b.length by omega) (show j < a.length by omega) hp.symm h2
        have hcm : cmpN (vd a) (vd b) = 1 := by unfold cmpN; rw [if_neg (by omega), if_pos hv]
        refine .inl ?_
        simp only [loopR_succ, ht]
        simp only [a0, a1, a5, hc', hc0, hw, hj0, loopR_succ, loopOf, findLoop, firstRegion, Option.some_or, Option.none_or, Option.getD_some, Option.some.injEq, Try.f109, FT, Int.reduceEq, Int.reduceToNat, Int.reduceLE, Int.reduceLT, Int.reduceAdd, Int.reduceMul, Int.reduceSub, Int.reduceNeg, Nat.reduceAdd, Nat.reduceSub, Nat.reduceMul, Nat.reduceLT, Nat.reduceBEq, Nat.reduceEqDiff, Nat.reduceLeDiff]
        rw [evalCode_drawn Try.f109 8 dr109_8]; rotate_left; rfl
        simp only [a0, a1, a5, hc', hc0, hw, hj0, hj1, hj2, hx, hy, h1', EVd, List.getElem?_nil, Nat.reducePow, Nat.reduceDiv, Nat.reduceMod, FT, Int.reduceEq, Int.reduceToNat, Int.reduceLE, Int.reduceLT, Int.reduceAdd, Int.reduceMul, Int.reduceSub, Int.reduceNeg, Nat.reduceAdd, Nat.reduceSub, Nat.reduceMul, Nat.reduceLT, Nat.reduceBEq, Nat.reduceEqDiff, Nat.reduceLeDiff]
        rw [evalCode_drawn Try.f109 10 dr109_10]; rotate_left; rfl
        simp only [a0, a1, a5, hc', hc0, hw, hj0, hj1, hj2, hx, hy, h2', EVd, List.getElem?_nil, Nat.reducePow, Nat.reduceDiv, Nat.reduceMod, FT, Int.reduceEq, Int.reduceToNat, Int.reduceLE, Int.reduceLT, Int.reduceAdd, Int.reduceMul, Int.reduceSub, Int.reduceNeg, Nat.reduceAdd, Nat.reduceSub, Nat.reduceMul, Nat.reduceLT, Nat.reduceBEq, Nat.reduceEqDiff, Nat.reduceLeDiff]
        rw [hcm]
        exact ⟨_, .inr ⟨rfl, (by rfl)⟩⟩
      · have h2' : ¬ ((b.getD j 0 : Nat) : Int) < ((a.getD j 0 : Nat) : Int) := by omega
        have hp2 : a.drop j = b.drop j := by
          rw [List.drop_eq_getElem_cons (show j < a.length by omega), List.drop_eq_getElem_cons (show j < b.length by omega), hp]
          have e5 : a.getD j 0 = a[j] := by rw [List.getD_eq_getElem?_getD, List.getElem?_eq_getElem (show j < a.length by omega)]; rfl
          have e6 : b.getD j 0 = b[j] := by rw [List.getD_eq_getElem?_getD, List.getElem?_eq_getElem (show j < b.length by omega)]; rfl
          congr 1
          omega
        simp only [loopR_succ, ht]
        simp only [a0, a1, a5, hc', hc0, hw, hj0, loopR_succ, loopOf, findLoop, firstRegion, Option.some_or, Option.none_or, Option.getD_some, Option.some.injEq, Try.f109, FT, Int.reduceEq, Int.reduceToNat, Int.reduceLE, Int.reduceLT, Int.reduceAdd, Int.reduceMul, Int.reduceSub, Int.reduceNeg, Nat.reduceAdd, Nat.reduceSub, Nat.reduceMul, Nat.reduceLT, Nat.reduceBEq, Nat.reduceEqDiff, Nat.reduceLeDiff]
        rw [evalCode_drawn Try.f109 8 dr109_8]; rotate_left; rfl
        simp only [a0, a1, a5, hc', hc0, hw, hj0, hj1, hj2, hx, hy, h1', EVd, List.getElem?_nil, Nat.reducePow, Nat.reduceDiv, Nat.reduceMod, FT, Int.reduceEq, Int.reduceToNat, Int.reduceLE, Int.reduceLT, Int.reduceAdd, Int.reduceMul, Int.reduceSub, Int.reduceNeg, Nat.reduceAdd, Nat.reduceSub, Nat.reduceMul, Nat.reduceLT, Nat.reduceBEq, Nat.reduceEqDiff, Nat.reduceLeDiff]
        rw [evalCode_drawn Try.f109 10 dr109_10]; rotate_left; rfl
        simp only [a0, a1, a5, hc', hc0, hw, hj0, hj1, hj2, hx, hy, h2', hw2, EVd, List.getElem?_nil, Nat.reducePow, Nat.reduceDiv, Nat.reduceMod, FT, Int.reduceEq, Int.reduceToNat, Int.reduceLE, Int.reduceLT, Int.reduceAdd, Int.reduceMul, Int.reduceSub, Int.reduceNeg, Nat.reduceAdd, Nat.reduceSub, Nat.reduceMul, Nat.reduceLT, Nat.reduceBEq, Nat.reduceEqDiff, Nat.reduceLeDiff]
        exact .inr ⟨_, _, hc, rfl, (by rfl), (by rfl), (by rfl), hp2, ⟨_, by rfl⟩⟩
  · refine .inl ?_
    obtain rfl : i = a.length := by omega
    have hc' : ¬ (((a.length : Nat) : Int) < ((a.length : Nat) : Int)) := by omega
    have hlt : ¬ ((0 : Int) ≤ (a.length : Int) - 1 - a.length) := by omega
    rw [Nat.sub_self, List.drop_zero, List.drop_zero] at hp
    simp only [loopR_succ, ht]
    simp only [a0, a1, a5, hlt, loopR_succ, loopOf, findLoop, firstRegion, Option.some_or, Option.none_or, Option.getD_some, Option.some.injEq, Try.f109, FT, Int.reduceEq, Int.reduceToNat, Int.reduceLE, Int.reduceLT, Int.reduceAdd, Int.reduceMul, Int.reduceSub, Int.reduceNeg, Nat.reduceAdd, Nat.reduceSub, Nat.reduceMul, Nat.reduceLT, Nat.reduceBEq, Nat.reduceEqDiff, Nat.reduceLeDiff]
    exact ⟨_, .inl ⟨rfl, hp⟩⟩
theorem size_ev (k : Nat) (a b : List Nat) (nl nl2 : Bool) (cap cap2 : Option Nat) (ha : Can a) (hb : Can b) (hla : a.length ≤ 100000) (hk : a.length < k) : run (k+1) 109 [sD a nl cap, sD b nl2 cap2] = some (ii (cmpN (vd a) (vd b))) := by
  rw [run, ev109, ans_trim]
  by_cases h1 : a.length < b.length
  · have h1' : (a.length : Int) < b.length := by omega
    have h0 : ¬ (a.length : Int) = b.length := by omega
    have hcm : cmpN (vd a) (vd b) = -1 := if_pos (can_len ha.ok hb h1)
    rw [hcm]
    simp only [Try.f109, ii, h0, h1', FT, Int.reduceEq, Int.reduceToNat, Int.reduceLE, Int.reduceLT, Int.reduceAdd, Int.reduceMul, Int.reduceSub, Int.reduceNeg, Nat.reduceAdd, Nat.reduceSub, Nat.reduceMul, Nat.reduceLT, Nat.reduceBEq, Nat.reduceEqDiff, Nat.reduceLeDiff]
  · have h1' : ¬ (a.length : Int) < b.length := by omega
    by_cases h2 : b.length < a.length
    · have h0 : ¬ (a.length : Int) = b.length := by omega
      have hcm : cmpN (vd a) (vd b) = 1 := by
        have := can_len hb.ok ha h2
        unfold cmpN
        rw [if_neg (by omega), if_pos this]
      rw [hcm]
      simp only [Try.f109, ii, h0, h1', FT, Int.reduceEq, Int.reduceToNat, Int.reduceLE, Int.reduceLT, Int.reduceAdd, Int.reduceMul, Int.reduceSub, Int.reduceNeg, Nat.reduceAdd, Nat.reduceSub, Nat.reduceMul, Nat.reduceLT, Nat.reduceBEq, Nat.reduceEqDiff, Nat.reduceLeDiff]
    · have h0 : (a.length : Int) = b.length := by omega
      have hw1 : IntKind.wrap .i64 ((a.length : Int) - 1) = (a.length : Int) - 1 := by rw [wrap64 (by omega) (by omega)]
      have h00 : (b.length : Int) = a.length := by omega
      simp only [Try.f109, ii, h00, hw1, FT, Int.reduceEq, Int.reduceToNat, Int.reduceLE, Int.reduceLT, Int.reduceAdd, Int.reduceMul, Int.reduceSub, Int.reduceNeg, Nat.reduceAdd, Nat.reduceSub, Nat.reduceMul, Nat.reduceLT, Nat.reduceBEq, Nat.reduceEqDiff, Nat.reduceLeDiff]
      rw [evalCode_loopB LB109_6 lp109_6]; rotate_left; rfl; rfl; rfl
      generalize hz : loopR _ _ _ _ _ _ _ _ _ _ _ _ = z
      obtain ⟨l', ⟨rfl, he⟩ | ⟨rfl, he⟩⟩ := loop_size k a b nl nl2 cap cap2 ha.ok hb.ok (by omega) hla _ _ z hz hk (by rfl) (by rfl) (by rw [show (a.length : Int) - 1 - 0 = (a.length : Int) - 1 by omega]; rfl)
      · clear hz
        have hcm : cmpN (vd a) (vd b) = 0 := by
          rw [he]
          unfold cmpN
          rw [if_neg (by omega), if_neg (by omega)]
        rw [hcm]
        simp only [FT, Int.reduceEq, Int.reduceToNat, Int.reduceLE, Int.reduceLT, Int.reduceAdd, Int.reduceMul, Int.reduceSub, Int.reduceNeg, Nat.reduceAdd, Nat.reduceSub, Nat.reduceMul, Nat.reduceLT, Nat.reduceBEq, Nat.reduceEqDiff, Nat.reduceLeDiff]
      · clear hz
        simp only [he, FT, Int.reduceEq, Int.reduceToNat, Int.reduceLE, Int.reduceLT, Int.reduceAdd, Int.reduceMul, Int.reduceSub, Int.reduceNeg, Nat.reduceAdd, Nat.reduceSub, Nat.reduceMul, Nat.reduceLT, Nat.reduceBEq, Nat.reduceEqDiff, Nat.reduceLeDiff]
def sgI (n : Int) : Int := if n < 0 then -1 else if 0 < n then 1 else 0
theorem Sign_ev (k : Nat) (x : RI) : run (k+1) 108 [aN x] = some (ii (sgI x.v)) := by
  rw [run, ev108, ans_trim]
  by_cases h0 : x.v = 0
  · have hd : dig x.v.natAbs = [] := by rw [h0]; rfl
    have hs : sgI x.v = 0 := by unfold sgI; rw [if_neg (by omega), if_neg (by omega)]
    rw [aN, hd, hs]
    simp only [Try.f108, ii, bb, encD, List.map_nil, FT, Int.reduceEq, Int.reduceToNat, Int.reduceLE, Int.reduceLT, Int.reduceAdd, Int.reduceMul, Int.reduceSub, Int.reduceNeg, Nat.reduceAdd, Nat.reduceSub, Nat.reduceMul, Nat.reduceLT, Nat.reduceBEq, Nat.reduceEqDiff, Nat.reduceLeDiff]
  · have hp : 0 < (dig x.v.natAbs).length := List.length_pos_iff.2 (dig_pos (by omega))
    have hp' : ¬ ((dig x.v.natAbs).length : Int) = 0 := by omega
    by_cases hn : x.v < 0
    · have hs : sgI x.v = -1 := if_pos hn
      rw [hs]
      simp only [Try.f108, ii, bb, aN, hp', hn, FT, Int.reduceEq, Int.reduceToNat, Int.reduceLE, Int.reduceLT, Int.reduceAdd, Int.reduceMul, Int.reduceSub, Int.reduceNeg, Nat.reduceAdd, Nat.reduceSub, Nat.reduceMul, Nat.reduceLT, Nat.reduceBEq, Nat.reduceEqDiff, Nat.reduceLeDiff]
    · have hs : sgI x.v = 1 := by unfold sgI; rw [if_neg hn, if_pos (by omega)]
      rw [hs]
      simp only [Try.f108, ii, bb, aN, hp', hn, FT, Int.reduceEq, Int.reduceToNat, Int.reduceLE, Int.reduceLT, Int.reduceAdd, Int.reduceMul, Int.reduceSub, Int.reduceNeg, Nat.reduceAdd, Nat.reduceSub, Nat.reduceMul, Nat.reduceLT, Nat.reduceBEq, Nat.reduceEqDiff, Nat.reduceLeDiff]
theorem sg_cases (n : Int) : (sgI n = -1 ∧ n < 0) ∨ (sgI n = 0 ∧ n = 0) ∨ (sgI n = 1 ∧ 0 < n) := by
  unfold sgI
  split
  · exact .inl ⟨rfl, by assumption⟩
  · split
    · exact .inr (.inr ⟨rfl, by assumption⟩)
    · exact .inr (.inl ⟨rfl, by omega⟩)
def cmpI (m n : Int) : Int := if m < n then -1 else if n < m then 1 else 0
theorem Cmp_ev (k : Nat) (x y : RI) (hx : (dig x.v.natAbs).length ≤ 100000) (hy : (dig y.v.natAbs).length ≤ 100000) (hk : (dig x.v.natAbs).length < k ∧ (dig y.v.natAbs).length < k) : run (k+2) 72 [aN x, aN y] = some (ii (cmpI x.v y.v)) := by
  have h1 := Sign_ev k x
  have h2 := Sign_ev k y
  have h3 := size_ev k (dig x.v.natAbs) (dig y.v.natAbs) x.nl y.nl x.cap y.cap (can_dig _) (can_dig _) hx hk.1
  have h4 := size_ev k (dig y.v.natAbs) (dig x.v.natAbs) y.nl x.nl y.cap x.cap (can_dig _) (can_dig _) hy hk.2
  rw [vd_dig, vd_dig] at h3 h4
  simp only [run, ii, aN, bb] at h1 h2 h3 h4
  rw [run, ev72, ans_trim]
  simp only [Try.f72, aN, bb, FT, Int.reduceEq, Int.reduceToNat, Int.reduceLE, Int.reduceLT, Int.reduceAdd, Int.reduceMul, Int.reduceSub, Int.reduceNeg, Nat.reduceAdd, Nat.reduceSub, Nat.reduceMul, Nat.reduceLT, Nat.reduceBEq, Nat.reduceEqDiff, Nat.reduceLeDiff]
  rw [evalCode_drawn Try.f72 1 dr72_1]; rotate_left; rfl
  by_cases e : sgI x.v = sgI y.v
  · by_cases hn : sgI y.v < 0
    · have hcm : cmpI x.v y.v = cmpN y.v.natAbs x.v.natAbs := by
        rcases sg_cases x.v with ⟨s1, q1⟩ | ⟨s1, q1⟩ | ⟨s1, q1⟩ <;> rcases sg_cases y.v with ⟨s2, q2⟩ | ⟨s2, q2⟩ | ⟨s2, q2⟩ <;> (try omega) <;> (unfold cmpI cmpN; (repeat' split) <;> omega)
      rw [hcm]
      simp only [h1, h2, e, hn, EVd, List.getElem?_nil, Nat.reducePow, Nat.reduceDiv, Nat.reduceMod, FT, Int.reduceEq, Int.reduceToNat, Int.reduceLE, Int.reduceLT, Int.reduceAdd, Int.reduceMul, Int.reduceSub, Int.reduceNeg, Nat.reduceAdd, Nat.reduceSub, Nat.reduceMul, Nat.reduceLT, Nat.reduceBEq, Nat.reduceEqDiff, Nat.reduceLeDiff]
      simp only [h4, FT, Int.reduceEq, Int.reduceToNat, Int.reduceLE, Int.reduceLT, Int.reduceAdd, Int.reduceMul, Int.reduceSub, Int.reduceNeg, Nat.reduceAdd, Nat.reduceSub, Nat.reduceMul, Nat.reduceLT, Nat.reduceBEq, Nat.reduceEqDiff, Nat.reduceLeDiff]
    · have hcm : cmpI x.v y.v = cmpN x.v.natAbs y.v.natAbs := by
        rcases sg_cases x.v with ⟨s1, q1⟩ | ⟨s1, q1⟩ | ⟨s1, q1⟩ <;> rcases sg_cases y.v with ⟨s2, q2⟩ | ⟨s2, q2⟩ | ⟨s2, q2⟩ <;> (try omega) <;> (unfold cmpI cmpN; (repeat' split) <;> omega)
      rw [hcm]
      simp only [h1, h2, e, hn, EVd, List.getElem?_nil, Nat.reducePow, Nat.reduceDiv, Nat.reduceMod, FT, Int.reduceEq, Int.reduceToNat, Int.reduceLE, Int.reduceLT, Int.reduceAdd, Int.reduceMul, Int.reduceSub, Int.reduceNeg, Nat.reduceAdd, Nat.reduceSub, Nat.reduceMul, Nat.reduceLT, Nat.reduceBEq, Nat.reduceEqDiff, Nat.reduceLeDiff]
      simp only [h3, FT, Int.reduceEq, Int.reduceToNat, Int.reduceLE, Int.reduceLT, Int.reduceAdd, Int.reduceMul, Int.reduceSub, Int.reduceNeg, Nat.reduceAdd, Nat.reduceSub, Nat.reduceMul, Nat.reduceLT, Nat.reduceBEq, Nat.reduceEqDiff, Nat.reduceLeDiff]
  · by_cases hlt : sgI x.v < sgI y.v
    · have hcm : cmpI x.v y.v = -1 := by
        rcases sg_cases x.v with ⟨s1, q1⟩ | ⟨s1, q1⟩ | ⟨s1, q1⟩ <;> rcases sg_cases y.v with ⟨s2, q2⟩ | ⟨s2, q2⟩ | ⟨s2, q2⟩ <;> (try omega) <;> (unfold cmpI; (repeat' split) <;> omega)
      rw [hcm]
      simp only [h1, h2, e, hlt, EVd, List.getElem?_nil, Nat.reducePow, Nat.reduceDiv, Nat.reduceMod, FT, Int.reduceEq, Int.reduceToNat, Int.reduceLE, Int.reduceLT, Int.reduceAdd, Int.reduceMul, Int.reduceSub, Int.reduceNeg, Nat.reduceAdd, Nat.reduceSub, Nat.reduceMul, Nat.reduceLT, Nat.reduceBEq, Nat.reduceEqDiff, Nat.reduceLeDiff]
    · have hcm : cmpI x.v y.v = 1 := by
        rcases sg_cases x.v with ⟨s1, q1⟩ | ⟨s1, q1⟩ | ⟨s1, q1⟩ <;> rcases sg_cases y.v with ⟨s2, q2⟩ | ⟨s2, q2⟩ | ⟨s2, q2⟩ <;> (try omega) <;> (unfold cmpI; (repeat' split) <;> omega)
      rw [hcm]
      simp only [h1, h2, e, hlt, EVd, List.getElem?_nil, Nat.reducePow, Nat.reduceDiv, Nat.reduceMod, FT, Int.reduceEq, Int.reduceToNat, Int.reduceLE, Int.reduceLT, Int.reduceAdd, Int.reduceMul, Int.reduceSub, Int.reduceNeg, Nat.reduceAdd, Nat.reduceSub, Nat.reduceMul, Nat.reduceLT, Nat.reduceBEq, Nat.reduceEqDiff, Nat.reduceLeDiff]
end Go.Proofs.Sw
