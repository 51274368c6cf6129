/- A part of the proof: what functions of the program answer, of whatever arguments, reckoned with letters by the interpreter's equations. Its conditions stand in each theorem. -/
import Derived.Test.YtbmmjfdofbdfeaaDoorF13N


namespace Go.Proofs.F13
set_option linter.unusedVariables false
set_option linter.unusedSimpArgs false
set_option linter.unusedSectionVars false
open Go.Ab
theorem pow_small {c : Int} (h : powM c ≠ 0) : 1 ≤ powM c ∧ powM c ≤ 64 := by
  rcases pow_cases h with rfl | rfl | rfl | rfl | rfl | rfl | rfl | rfl | rfl <;> decide
theorem may_iff (i : Ins) (regs : Int) : mayM i regs = true ↔ (1 ≤ i.op ∧ i.op ≤ 8 ∧ 0 ≤ i.to ∧ i.to < regs ∧ (i.op = 3 ∨ i.op = 4 ∨ i.b = 0)) ∧ constant i = true ∧ (0 ≤ i.a ∧ i.a < regs) ∧ ((i.op = 3 ∨ i.op = 4) → 0 ≤ i.b ∧ i.b < regs) := by
  simp only [mayM, Bool.and_eq_true, decide_eq_true_eq, and_assoc]
theorem const_iff (i : Ins) : constant i = true ↔ ((i.op = 5 ∨ i.op = 6) → i.c ≠ 0 ∧ -512 ≤ i.c ∧ i.c ≤ 512) ∧ ((i.op = 7 ∨ i.op = 8) → 1 ≤ i.c ∧ i.c ≤ 64) ∧ ((i.op ≠ 5 ∧ i.op ≠ 6 ∧ i.op ≠ 7 ∧ i.op ≠ 8) → i.c = 0) := by
  unfold constant
  split
  · simp only [decide_eq_true_eq]; omega
  · split
    · simp only [decide_eq_true_eq]; omega
    · simp only [decide_eq_true_eq]; omega
theorem plain_may {i : Ins} {regs : Int} (h : mayM i regs = true) : mayM (plainM i) regs = true := by
  have h' := (may_iff _ _).1 h
  obtain ⟨h1, h2, h3, h4⟩ := h'
  unfold plainM
  split
  · split
    · rw [may_iff]; simp [constant]; omega
    · exact h
  · split
    · split
      · rw [may_iff]; simp [constant]; omega
      · split
        · rw [may_iff]; simp [constant]; omega
        · split
          · rename_i hp
            have := pow_small hp
            rw [may_iff]
            split <;> simp [constant] <;> omega
          · exact h
    · exact h
theorem plain_may_of {o t a b c regs : Int} (h : mayM ⟨o, t, a, b, c⟩ regs = true) : mayM (plainM ⟨o, t, a, b, c⟩) regs = true := plain_may h
theorem mul_ne {c d : Int} (h1 : c ≠ 0) (h2 : d ≠ 0) : c * d ≠ 0 := Int.mul_ne_zero h1 h2
theorem div_ne {c d : Int} (h1 : c ≠ 0) (h : c.tmod d = 0) : c.tdiv d ≠ 0 := by
  intro h2
  have := Int.tmod_add_mul_tdiv c d
  rw [h, h2] at this
  simp at this
  exact h1 this.symm
theorem small {regs a o t c : Int} (h1 : 1 ≤ o ∧ o ≤ 8) (ht : 0 ≤ t ∧ t < regs) (ha : 0 ≤ a ∧ a < regs) (ho : o ≠ 3 ∧ o ≠ 4) (hc : constant ⟨o, t, a, 0, c⟩ = true) : mayM ⟨o, t, a, 0, c⟩ regs = true := by
  rw [may_iff]
  exact ⟨⟨h1.1, h1.2, ht.1, ht.2, .inr (.inr rfl)⟩, hc, ha, fun h => by rcases h with h | h <;> (dsimp only at h; omega)⟩
theorem together_const {f c s d o x : Int} (hf : constant ⟨f, 0, 0, 0, c⟩ = true) (hs : constant ⟨s, 0, 0, 0, d⟩ = true) (f1 : 1 ≤ f ∧ f ≤ 8) (s1 : 1 ≤ s ∧ s ≤ 8) (s3 : s ≠ 3) (s4 : s ≠ 4) (h : together f c s d = some (o, x)) :
    (1 ≤ o ∧ o ≤ 8 ∧ o ≠ 3 ∧ o ≠ 4) ∧ ((o = 5 ∨ o = 6) → x ≠ 0 ∧ -512 ≤ x ∧ x ≤ 512) ∧ ((o = 7 ∨ o = 8) → 1 ≤ x ∧ x ≤ 64) ∧ ((o = 1 ∨ o = 2) → x = 0) := by
  have m0 := @mul_ne c d
  have d0 := @div_ne c d
  have d1 := @div_ne d c
  have fo : f = 1 ∨ f = 2 ∨ f = 3 ∨ f = 4 ∨ f = 5 ∨ f = 6 ∨ f = 7 ∨ f = 8 := by omega
  have so : s = 1 ∨ s = 2 ∨ s = 5 ∨ s = 6 ∨ s = 7 ∨ s = 8 := by omega
  unfold together fits at h
  rcases fo with rfl | rfl | rfl | rfl | rfl | rfl | rfl | rfl <;> rcases so with rfl | rfl | rfl | rfl | rfl | rfl <;> simp [constant] at hf hs h
  all_goals (try (repeat' (split at h)))
  all_goals (try simp at h)
  all_goals (try (obtain ⟨rfl, rfl⟩ := h))
  all_goals first
    | omega
    | (have q1 := @small_div c d (by omega) (by omega); have q2 := @small_div d c (by omega) (by omega); have d0' := d0 (by omega); have d1' := d1 (by omega); omega)
    | skip
theorem melt_may {y x z : Ins} {regs : Int} (hy : mayM y regs = true) (hx : mayM x regs = true) (h : meltM y x = some z) : mayM z regs = true := by
  unfold meltM at h
  split at h
  · cases h
  · rename_i hne
    simp only [not_or, ne_eq, Classical.not_not] at hne
    obtain ⟨n1, n2, n3, n4⟩ := hne
    obtain ⟨⟨o, c⟩, ht, rfl⟩ := Option.map_eq_some_iff.1 h
    apply plain_may
    have y' := (may_iff _ _).1 hy
    have x' := (may_iff _ _).1 hx
    obtain ⟨y1, y2, y3, y4⟩ := y'
    obtain ⟨x1, x2, x3, x4⟩ := x'
    obtain ⟨a1, a2, a3, a4⟩ := together_const (f := y.op) (c := y.c) (s := x.op) (d := x.c) y2 x2 ⟨y1.1, y1.2.1⟩ ⟨x1.1, x1.2.1⟩ n1 n2 ht
    refine small ⟨a1.1, a1.2.1⟩ ⟨x1.2.2.1, x1.2.2.2.1⟩ y3 ⟨a1.2.2.1, a1.2.2.2⟩ ?_
    rw [const_iff]
    exact ⟨a2, a3, fun h => a4 (by dsimp only at h; omega)⟩
end Go.Proofs.F13
