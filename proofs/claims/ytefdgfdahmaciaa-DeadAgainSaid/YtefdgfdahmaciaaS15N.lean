/- A part of the proof: what functions of the program answer, of whatever arguments, reckoned with letters by the interpreter's equations. Its conditions stand in each theorem. -/
import Derived.Test.YtefdgfdahmaciaaS15M
namespace Go.Proofs.Sw
set_option linter.unusedVariables false
set_option linter.unusedSimpArgs false
set_option linter.unusedSectionVars false
open Go.Ab
variable [Globals]
/-! ### the plain law -/
theorem mark_getD (b : Bool) : ∀ (rs : List Int) (l : List Bool) (j : Nat), j < l.length → (mark l b rs).getD j false = if (rs.any fun r => r.toNat == j) = true then b else l.getD j false
  | [], l, j, _ => by simp [mark]
  | r :: rs, l, j, h => by
    rw [mark, mark_getD b rs _ j (by simpa using h)]
    by_cases hr : r.toNat = j
    · subst hr
      simp [h]
    · simp only [List.any_cons, beq_iff_eq, hr, decide_false, Bool.false_or, show (r.toNat == j) = false by simpa using hr]
      split
      · rfl
      · simp [List.getElem?_set_ne hr]
theorem set_self {l : List Bool} {j : Nat} (h : l.getD j false = true) : l.set j true = l := by
  by_cases hj : j < l.length
  · apply List.ext_getElem?
    intro i
    rw [List.getElem?_set]
    split
    · rename_i e; subst e
      simp [hj] at h ⊢
      try rw [h]
    · rfl
  · rw [List.set_eq_of_length_le (by omega)]
/-- An instruction that does nothing asks what it sets. -/
theorem nothing_mark {l : List Bool} {i : Ins} (hn : nothing i = true) (h : l.getD i.to.toNat false = true) : mark (l.set i.to.toNat false) true (asks i) = l := by
  simp only [nothing, decide_eq_true_eq] at hn
  have ha : asks i = [i.a] := asks_one (by omega) (by omega)
  rw [ha]
  simp only [mark]
  rw [← hn.2, List.set_set]
  exact set_self h
theorem needL_keep (base : List Bool) : ∀ code : List Ins, needL base (keepL code (needL base code).2) = ((needL base code).1, List.replicate (keepL code (needL base code).2).length true)
  | [] => rfl
  | i :: rest => by
    have ih := needL_keep base rest
    by_cases hq : (needL base rest).1.getD i.to.toNat false = true
    · have e : needL base (i :: rest) = (mark ((needL base rest).1.set i.to.toNat false) true (asks i), true :: (needL base rest).2) := by simp only [needL]; rw [if_pos hq]
      rw [e]
      by_cases hn : nothing i = true
      · have hk : keepL (i :: rest) (true :: (needL base rest).2) = keepL rest (needL base rest).2 := by simp [keepL, hn]
        rw [hk, ih, nothing_mark hn hq]
      · have hk : keepL (i :: rest) (true :: (needL base rest).2) = i :: keepL rest (needL base rest).2 := by simp [keepL, hn]
        rw [hk, needL, ih]
        simp only [hq, if_true, List.length_cons, List.replicate_succ]
    · have e : needL base (i :: rest) = ((needL base rest).1, false :: (needL base rest).2) := by simp only [needL]; rw [if_neg hq]
      have hk : keepL (i :: rest) (false :: (needL base rest).2) = keepL rest (needL base rest).2 := by simp [keepL]
      rw [e, hk, ih]
theorem needed_keep (p : Pg) : neededM (deadP p) = List.replicate (deadP p).code.length true := by
  have := needL_keep (asked0 p.regs.toNat p.outs) p.code
  unfold neededM deadP neededM
  rw [this]
theorem keepL_all : ∀ (code : List Ins), (∀ i ∈ code, nothing i = false) → keepL code (List.replicate code.length true) = code
  | [], _ => rfl
  | i :: rest, h => by
    rw [List.length_cons, List.replicate_succ]
    simp only [keepL, h i (by simp), Bool.not_false, Bool.and_self, if_true]
    rw [keepL_all rest fun j hj => h j (by simp [hj])]
theorem keepL_not : ∀ (c : List Ins) (fl : List Bool), ∀ x ∈ keepL c fl, nothing x = false
  | [], _, x, h => by simp [keepL] at h
  | i :: c, [], x, h => by simp [keepL] at h
  | i :: c, f :: fl, x, h => by
    simp only [keepL] at h
    split at h
    · rename_i hc
      rcases List.mem_cons.1 h with rfl | h
      · simp at hc; exact hc.2
      · exact keepL_not c fl x h
    · exact keepL_not c fl x h
theorem deadP_idem (p : Pg) : deadP (deadP p) = deadP p := by
  have h := needed_keep p
  have h2 := keepL_all (deadP p).code (keepL_not p.code (neededM p))
  show Pg.mk p.ins p.regs (keepL (deadP p).code (neededM (deadP p))) p.outs = deadP p
  rw [h, h2]
  rfl
end Go.Proofs.Sw
