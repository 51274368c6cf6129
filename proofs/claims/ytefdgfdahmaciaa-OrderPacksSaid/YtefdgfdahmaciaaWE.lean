/- A part of the proof: what functions of the program answer, of whatever arguments, reckoned with letters by the interpreter's equations. Its conditions stand in each theorem. -/
import Derived.Test.YtefdgfdahmaciaaWC
import Derived.Test.YtefdgfdahmaciaaWD
namespace Go.Proofs.Sw
set_option linter.unusedVariables false
set_option linter.unusedSimpArgs false
set_option linter.unusedSectionVars false
/-! ### the plain law of order: values, how long they live, registers given anew -/
abbrev zI : Ins := ⟨0, 0, 0, 0, 0⟩
def nth (code : List Ins) (k : Nat) : Ins := code.getD k zI
def nd (need : List Bool) (k : Nat) : Bool := need.getD k false
structure Sv where
  ins : Int
  need : List Bool
  code : List Ins
  outs : List Int
/-- The value in a register ahead of an instruction. -/
def heldR (S : Sv) : Nat → Int → Int
  | 0, r => if r < S.ins then -1 - r else -1000
  | k + 1, r => if nd S.need k = true ∧ (nth S.code k).to = r then (k : Int) else heldR S k r
def askV (S : Sv) (k : Nat) (v : Int) : Bool := nd S.need k && (asks (nth S.code k)).any fun r => decide (heldR S k r = v)
def lastR (S : Sv) : Nat → Int → Int
  | 0, _ => -2000
  | k + 1, v => if askV S k v = true then (k : Int) else lastR S k v
def outV (S : Sv) (v : Int) : Bool := S.outs.any fun r => decide (heldR S S.code.length r = v)
def untilR (S : Sv) (v : Int) : Int := if outV S v = true then (S.code.length : Int) else lastR S S.code.length v
def valsO (S : Sv) (k : Nat) : List Int := ((List.range S.ins.toNat).map fun (r : Nat) => -1 - (r : Int)) ++ (-1000 :: ((List.range k).filter fun j => nd S.need j).map fun (j : Nat) => (j : Int))
def aliveR (S : Sv) (k : Nat) : List Int := (valsO S k).filter fun w => decide ((k : Int) ≤ untilR S w)
def restR (S : Sv) (k : Nat) : List Int := (aliveR S k).filter fun w => decide (untilR S w ≠ k)
theorem lastR_lt (S : Sv) (v : Int) : ∀ k : Nat, lastR S k v < k
  | 0 => by simp [lastR]
  | k + 1 => by
    rw [lastR]
    have := lastR_lt S v k
    split <;> omega
theorem lastR_ask {S : Sv} {v : Int} {j : Nat} (h : askV S j v = true) : ∀ {k : Nat}, j < k → (j : Int) ≤ lastR S k v
  | 0, hj => by omega
  | k + 1, hj => by
    rw [lastR]
    by_cases e : j = k
    · subst e; rw [if_pos h]; exact Int.le_refl _
    · have := lastR_ask h (k := k) (by omega)
      split <;> omega
theorem lastR_eq {S : Sv} {v : Int} {j : Nat} : ∀ {k : Nat}, lastR S k v = j → askV S j v = true ∧ j < k
  | 0, h => by rw [lastR] at h; omega
  | k + 1, h => by
    rw [lastR] at h
    split at h
    · rename_i ha
      have : j = k := by omega
      subst this
      exact ⟨ha, by omega⟩
    · have := lastR_eq h
      exact ⟨this.1, by omega⟩
theorem until_le (S : Sv) (v : Int) : untilR S v ≤ S.code.length := by
  unfold untilR
  have := lastR_lt S v S.code.length
  split <;> omega
theorem until_ask {S : Sv} {v : Int} {j : Nat} (h : askV S j v = true) (hj : j < S.code.length) : (j : Int) ≤ untilR S v := by
  unfold untilR
  have := lastR_ask h hj
  split <;> omega
theorem until_out {S : Sv} {r : Int} (h : r ∈ S.outs) : untilR S (heldR S S.code.length r) = S.code.length := by
  unfold untilR
  rw [if_pos]
  unfold outV
  rw [List.any_eq_true]
  exact ⟨r, h, by simp⟩
theorem ask_of_until {S : Sv} {v : Int} {j : Nat} (hj : j < S.code.length) (h : untilR S v = j) : askV S j v = true := by
  unfold untilR at h
  split at h
  · omega
  · exact (lastR_eq h).1
theorem out_of_until {S : Sv} {v : Int} (h : untilR S v = S.code.length) : outV S v = true := by
  unfold untilR at h
  split at h
  · assumption
  · have := lastR_lt S v S.code.length; omega
theorem mem_valsO {S : Sv} {k : Nat} {w : Int} : w ∈ valsO S k ↔ (∃ r : Nat, r < S.ins.toNat ∧ w = -1 - (r : Int)) ∨ w = -1000 ∨ (∃ j : Nat, j < k ∧ nd S.need j = true ∧ w = j) := by
  simp only [valsO, List.mem_append, List.mem_map, List.mem_range, List.mem_cons, List.mem_filter]
  constructor
  · rintro (⟨r, h, rfl⟩ | h | ⟨j, ⟨h1, h2⟩, rfl⟩)
    · exact .inl ⟨r, h, rfl⟩
    · exact .inr (.inl h)
    · exact .inr (.inr ⟨j, h1, h2, rfl⟩)
  · rintro (⟨r, h, rfl⟩ | h | ⟨j, h1, h2, rfl⟩)
    · exact .inl ⟨r, h, rfl⟩
    · exact .inr (.inl h)
    · exact .inr (.inr ⟨j, ⟨h1, h2⟩, rfl⟩)
theorem vals_lt {S : Sv} {k : Nat} {w : Int} (h : w ∈ valsO S k) : w < k := by
  rcases mem_valsO.1 h with ⟨r, h, rfl⟩ | h | ⟨j, h1, h2, rfl⟩ <;> omega
theorem vals_mono {S : Sv} {k j : Nat} {w : Int} (h : w ∈ valsO S k) (hj : k ≤ j) : w ∈ valsO S j := by
  rw [mem_valsO] at h ⊢
  rcases h with h | h | ⟨i, h1, h2, rfl⟩
  · exact .inl h
  · exact .inr (.inl h)
  · exact .inr (.inr ⟨i, by omega, h2, rfl⟩)
theorem held_mem {S : Sv} {r : Int} (hr : 0 ≤ r) : ∀ k, heldR S k r ∈ valsO S k
  | 0 => by
    rw [heldR, mem_valsO]
    split
    · exact .inl ⟨r.toNat, by omega, by omega⟩
    · exact .inr (.inl rfl)
  | k + 1 => by
    rw [heldR]
    split
    · rename_i h
      exact mem_valsO.2 (.inr (.inr ⟨k, by omega, h.1, rfl⟩))
    · exact vals_mono (held_mem hr k) (by omega)
theorem vals_succ_no {S : Sv} {k : Nat} (hn : nd S.need k = false) : valsO S (k + 1) = valsO S k := by
  simp [valsO, List.range_succ, List.filter_append, hn]
theorem vals_succ {S : Sv} {k : Nat} (hn : nd S.need k = true) : valsO S (k + 1) = valsO S k ++ [(k : Int)] := by
  simp [valsO, List.range_succ, List.filter_append, hn]
theorem alive_succ_no {S : Sv} {k : Nat} (hk : k < S.code.length) (hn : nd S.need k = false) : aliveR S (k + 1) = aliveR S k := by
  unfold aliveR
  rw [vals_succ_no hn]
  apply List.filter_congr
  intro w _
  have : untilR S w ≠ k := fun h => by
    have := ask_of_until hk h
    simp [askV, hn] at this
  rw [decide_eq_decide]
  omega
theorem alive_succ {S : Sv} {k : Nat} (hn : nd S.need k = true) (hu : (k : Int) < untilR S k) : aliveR S (k + 1) = restR S k ++ [(k : Int)] := by
  unfold restR aliveR
  rw [vals_succ hn, List.filter_append, List.filter_filter]
  congr 1
  · apply List.filter_congr
    intro w _
    rw [Bool.eq_iff_iff, Bool.and_eq_true, decide_eq_true_eq, decide_eq_true_eq, decide_eq_true_eq]
    omega
  · rw [List.filter_cons, if_pos (by simp; omega)]; rfl
theorem mem_alive {S : Sv} {k : Nat} {w : Int} : w ∈ aliveR S k ↔ w ∈ valsO S k ∧ (k : Int) ≤ untilR S w := by simp [aliveR]
theorem mem_rest {S : Sv} {k : Nat} {w : Int} : w ∈ restR S k ↔ w ∈ valsO S k ∧ (k : Int) < untilR S w := by
  simp only [restR, List.mem_filter, mem_alive, decide_eq_true_eq]
  constructor
  · rintro ⟨⟨a, b⟩, c⟩; exact ⟨a, by omega⟩
  · rintro ⟨a, b⟩; exact ⟨⟨a, by omega⟩, by omega⟩
/-! #### the least register -/
def mexF (l : List Int) : Nat → Nat → Nat
  | 0, r => r
  | f + 1, r => if (r : Int) ∈ l then mexF l f (r + 1) else r
def mex (l : List Int) : Nat := mexF l l.length 0
theorem all_len : ∀ (r : Nat) (l : List Int), (∀ i : Nat, i < r → (i : Int) ∈ l) → r ≤ l.length
  | 0, _, _ => Nat.zero_le _
  | r + 1, l, h => by
    have hm := h r (by omega)
    have h1 := all_len r (l.erase (r : Int)) fun i hi => (List.mem_erase_of_ne (by omega)).2 (h i (by omega))
    rw [List.length_erase_of_mem hm] at h1
    have := List.length_pos_of_mem hm
    omega
theorem mexF_spec (l : List Int) : ∀ (f r : Nat), (∀ i : Nat, i < r → (i : Int) ∈ l) → l.length ≤ r + f → ((mexF l f r : Nat) : Int) ∉ l ∧ ∀ i : Nat, i < mexF l f r → (i : Int) ∈ l
  | 0, r, h, hl => by
    refine ⟨fun hm => ?_, h⟩
    have := all_len (r + 1) l fun i hi => by
      by_cases e : i = r
      · subst e; exact hm
      · exact h i (by omega)
    omega
  | f + 1, r, h, hl => by
    rw [mexF]
    split
    · rename_i hm
      exact mexF_spec l f (r + 1) (fun i hi => by
        by_cases e : i = r
        · subst e; exact hm
        · exact h i (by omega)) (by omega)
    · rename_i hm
      exact ⟨hm, h⟩
theorem mex_not (l : List Int) : ((mex l : Nat) : Int) ∉ l := (mexF_spec l l.length 0 (fun i hi => by omega) (by omega)).1
theorem mex_all (l : List Int) {i : Nat} (h : i < mex l) : (i : Int) ∈ l := (mexF_spec l l.length 0 (fun i hi => by omega) (by omega)).2 i h
theorem mex_le (l : List Int) : mex l ≤ l.length := all_len _ l fun _ h => mex_all l h
theorem mex_unique {l : List Int} {m : Nat} (h1 : (m : Int) ∉ l) (h2 : ∀ i : Nat, i < m → (i : Int) ∈ l) : mex l = m := by
  by_cases h : mex l < m
  · exact absurd (h2 _ h) (mex_not l)
  · by_cases h' : m < mex l
    · exact absurd (mex_all l h') h1
    · omega
/-! #### registers given anew -/
def gP (S : Sv) : Nat → Int → Int
  | 0, w => if w = -1000 then S.ins else -1 - w
  | k + 1, w => if nd S.need k = true ∧ w = k then ((mex ((restR S k).map (gP S k)) : Nat) : Int) else gP S k w
theorem gP0_none (S : Sv) : gP S 0 (-1000) = S.ins := if_pos rfl
theorem gP0_in {S : Sv} (h : S.ins ≤ 900) {r : Nat} (hr : r < S.ins.toNat) : gP S 0 (-1 - (r : Int)) = r := by
  rw [gP, if_neg (by omega)]; omega
theorem gP_new {S : Sv} {k : Nat} (hn : nd S.need k = true) : gP S (k + 1) k = ((mex ((restR S k).map (gP S k)) : Nat) : Int) := by rw [gP, if_pos ⟨hn, rfl⟩]
theorem gP_old {S : Sv} {k : Nat} {w : Int} (h : w ≠ k) : gP S (k + 1) w = gP S k w := by rw [gP, if_neg fun x => h x.2]
theorem gP_stable {S : Sv} {k : Nat} {w : Int} (hw : w ∈ valsO S k) : ∀ j, k ≤ j → gP S j w = gP S k w
  | 0, h => by rw [show k = 0 by omega]
  | j + 1, h => by
    by_cases e : k = j + 1
    · rw [e]
    · have := vals_lt hw
      rw [gP_old (by omega), gP_stable hw j (by omega)]
def gI (S : Sv) (k : Nat) : Ins :=
  ⟨(nth S.code k).op, gP S (k + 1) k, gP S k (heldR S k (nth S.code k).a), if (nth S.code k).op = 3 ∨ (nth S.code k).op = 4 then gP S k (heldR S k (nth S.code k).b) else (nth S.code k).b, (nth S.code k).c⟩
def gC (S : Sv) : Nat → List Ins
  | 0 => []
  | k + 1 => if nd S.need k = true then gC S k ++ [gI S k] else gC S k
def gR (S : Sv) : Nat → Int
  | 0 => if 0 ≤ untilR S (-1000) then S.ins + 1 else S.ins
  | k + 1 => if nd S.need k = true then (if gP S (k + 1) k + 1 > gR S k then gP S (k + 1) k + 1 else gR S k) else gR S k
def gOuts (S : Sv) : List Int := S.outs.map fun r => gP S S.code.length (heldR S S.code.length r)
/-- The program whose registers are given anew. -/
def greedy (S : Sv) : Pg := ⟨S.ins, gR S S.code.length, gC S S.code.length, gOuts S⟩
/-- What is asked of a program here: each needed value is asked later. -/
structure SvOk (S : Sv) : Prop where
  ins : 0 ≤ S.ins
  use : ∀ k : Nat, k < S.code.length → nd S.need k = true → (k : Int) < untilR S k
  small : S.ins ≤ 900
theorem gP_nonneg {S : Sv} (h : SvOk S) : ∀ (k : Nat) {w : Int}, w ∈ valsO S k → 0 ≤ gP S k w
  | 0, w, hw => by
    have := h.ins
    rw [gP]
    rcases mem_valsO.1 hw with ⟨r, hr, rfl⟩ | rfl | ⟨j, hj, _⟩
    · split <;> omega
    · rw [if_pos rfl]; omega
    · omega
  | k + 1, w, hw => by
    rw [gP]
    split
    · omega
    · rename_i hne
      refine gP_nonneg h k ?_
      rw [mem_valsO] at hw ⊢
      rcases hw with hw | hw | ⟨j, h1, h2, rfl⟩
      · exact .inl hw
      · exact .inr (.inl hw)
      · by_cases e : j = k
        · subst e; exact absurd ⟨h2, rfl⟩ hne
        · exact .inr (.inr ⟨j, by omega, h2, rfl⟩)
theorem rest_alive {S : Sv} {k : Nat} {w : Int} (h : w ∈ restR S k) : w ∈ aliveR S k := (List.mem_filter.1 h).1
theorem alive_vals {S : Sv} {k : Nat} {w : Int} (h : w ∈ aliveR S k) : w ∈ valsO S k := (mem_alive.1 h).1
/-- Two values that are asked later stand in two registers. -/
theorem gP_inj {S : Sv} (h : SvOk S) : ∀ (k : Nat), k ≤ S.code.length → ∀ {w v : Int}, w ∈ aliveR S k → v ∈ aliveR S k → gP S k w = gP S k v → w = v
  | 0, _, w, v, hw, hv, e => by
    have hs := h.small
    have h1 := mem_valsO.1 (alive_vals hw)
    have h2 := mem_valsO.1 (alive_vals hv)
    rcases h1 with ⟨r, hr, rfl⟩ | rfl | ⟨j, hj, _⟩
    · rw [gP0_in hs hr] at e
      rcases h2 with ⟨q, hq, rfl⟩ | rfl | ⟨j, hj, _⟩
      · rw [gP0_in hs hq] at e; omega
      · rw [gP0_none] at e; omega
      · omega
    · rw [gP0_none] at e
      rcases h2 with ⟨q, hq, rfl⟩ | rfl | ⟨j, hj, _⟩
      · rw [gP0_in hs hq] at e; omega
      · rfl
      · omega
    · omega
  | k + 1, hk, w, v, hw, hv, e => by
    by_cases hn : nd S.need k = true
    · rw [alive_succ hn (h.use k (by omega) hn), List.mem_append, List.mem_singleton] at hw hv
      have hnot := mex_not ((restR S k).map (gP S k))
      have key : ∀ {x : Int}, x ∈ restR S k → gP S (k + 1) x = gP S k x := fun {x} hx => gP_old (by have := vals_lt (alive_vals (rest_alive hx)); omega)
      rcases hw with hw | rfl
      · rcases hv with hv | rfl
        · rw [key hw, key hv] at e
          exact gP_inj h k (by omega) (rest_alive hw) (rest_alive hv) e
        · rw [key hw, gP_new hn] at e
          exact absurd (List.mem_map.2 ⟨w, hw, e⟩) hnot
      · rcases hv with hv | rfl
        · rw [key hv, gP_new hn] at e
          exact absurd (List.mem_map.2 ⟨v, hv, e.symm⟩) hnot
        · rfl
    · have hn' : nd S.need k = false := by simpa using hn
      rw [alive_succ_no (by omega) hn'] at hw hv
      have key : ∀ {x : Int}, x ∈ aliveR S k → gP S (k + 1) x = gP S k x := fun {x} hx => gP_old (by have := vals_lt (alive_vals hx); omega)
      rw [key hw, key hv] at e
      exact gP_inj h k (by omega) hw hv e
end Go.Proofs.Sw
namespace Go.Proofs.Sw
set_option linter.unusedVariables false
set_option linter.unusedSimpArgs false
set_option linter.unusedSectionVars false
def cnt (S : Sv) (k : Nat) : Nat := ((List.range k).filter fun j => nd S.need j).length
theorem cnt_succ {S : Sv} {k : Nat} (hn : nd S.need k = true) : cnt S (k + 1) = cnt S k + 1 := by simp [cnt, List.range_succ, List.filter_append, hn]
theorem cnt_succ_no {S : Sv} {k : Nat} (hn : nd S.need k = false) : cnt S (k + 1) = cnt S k := by simp [cnt, List.range_succ, List.filter_append, hn]
theorem cnt_step (S : Sv) (k : Nat) : cnt S k ≤ cnt S (k + 1) := by
  cases hn : nd S.need k
  · rw [cnt_succ_no hn]; exact Nat.le_refl _
  · rw [cnt_succ hn]; omega
theorem cnt_mono {S : Sv} {j : Nat} : ∀ k, j ≤ k → cnt S j ≤ cnt S k
  | 0, h => by rw [show j = 0 by omega]; exact Nat.le_refl _
  | k + 1, h => by
    by_cases e : j = k + 1
    · rw [e]; exact Nat.le_refl _
    · exact Nat.le_trans (cnt_mono k (by omega)) (cnt_step S k)
theorem cnt_lt {S : Sv} {j k : Nat} (hn : nd S.need j = true) (h : j < k) : cnt S j < cnt S k := by
  have := cnt_mono (S := S) (j := j + 1) k h
  rw [cnt_succ hn] at this
  omega
theorem cnt_le (S : Sv) (k : Nat) : cnt S k ≤ k := by
  unfold cnt
  have := List.length_filter_le (fun j => nd S.need j) (List.range k)
  simpa using this
theorem gC_succ {S : Sv} {k : Nat} (hn : nd S.need k = true) : gC S (k + 1) = gC S k ++ [gI S k] := by rw [gC, if_pos hn]
theorem gC_succ_no {S : Sv} {k : Nat} (hn : nd S.need k = false) : gC S (k + 1) = gC S k := by rw [gC, hn, if_neg (by simp)]
theorem gC_length (S : Sv) : ∀ k, (gC S k).length = cnt S k
  | 0 => rfl
  | k + 1 => by
    cases hn : nd S.need k
    · rw [gC_succ_no hn, cnt_succ_no hn, gC_length S k]
    · rw [gC_succ hn, cnt_succ hn, List.length_append, gC_length S k]; rfl
theorem gC_get {S : Sv} {k : Nat} (hn : nd S.need k = true) : ∀ j, k < j → (gC S j)[cnt S k]? = some (gI S k)
  | 0, h => by omega
  | j + 1, h => by
    by_cases e : k = j
    · subst e
      rw [gC_succ hn, List.getElem?_append_right (by rw [gC_length]; exact Nat.le_refl _), gC_length, Nat.sub_self]; rfl
    · have ih := gC_get hn j (by omega)
      cases hj : nd S.need j
      · rw [gC_succ_no hj]; exact ih
      · rw [gC_succ hj, List.getElem?_append_left (by rw [gC_length]; exact cnt_lt hn (by omega))]; exact ih
theorem gC_nth {S : Sv} {k : Nat} (hn : nd S.need k = true) {j : Nat} (h : k < j) : nth (gC S j) (cnt S k) = gI S k := by
  rw [nth, List.getD_eq_getElem?_getD, gC_get hn j h]; rfl
theorem gC_mem {S : Sv} {x : Ins} : ∀ k, x ∈ gC S k → ∃ j, j < k ∧ nd S.need j = true ∧ x = gI S j
  | 0, h => by simp [gC] at h
  | k + 1, h => by
    cases hn : nd S.need k
    · rw [gC_succ_no hn] at h
      obtain ⟨j, h1, h2⟩ := gC_mem k h
      exact ⟨j, by omega, h2⟩
    · rw [gC_succ hn, List.mem_append, List.mem_singleton] at h
      rcases h with h | rfl
      · obtain ⟨j, h1, h2⟩ := gC_mem k h
        exact ⟨j, by omega, h2⟩
      · exact ⟨k, by omega, hn, rfl⟩
theorem asks_gI (S : Sv) (k : Nat) : asks (gI S k) = (asks (nth S.code k)).map fun r => gP S k (heldR S k r) := by
  unfold asks gI
  simp only
  by_cases h : (nth S.code k).op = 3 ∨ (nth S.code k).op = 4
  · simp only [h, if_true]; rfl
  · simp only [h, if_false]
    split <;> rfl
theorem gR_step (S : Sv) (k : Nat) : gR S k ≤ gR S (k + 1) := by
  rw [gR]
  split
  · split <;> omega
  · exact Int.le_refl _
theorem gR_mono {S : Sv} {j : Nat} : ∀ k, j ≤ k → gR S j ≤ gR S k
  | 0, h => by rw [show j = 0 by omega]; exact Int.le_refl _
  | k + 1, h => by
    by_cases e : j = k + 1
    · rw [e]; exact Int.le_refl _
    · exact Int.le_trans (gR_mono k (by omega)) (gR_step S k)
theorem gR_new {S : Sv} {k : Nat} (hn : nd S.need k = true) : gP S (k + 1) k < gR S (k + 1) := by
  rw [gR, if_pos hn]
  split <;> omega
theorem gP_lt {S : Sv} (h : SvOk S) : ∀ (k : Nat), k ≤ S.code.length → ∀ {w : Int}, w ∈ aliveR S k → gP S k w < gR S k
  | 0, _, w, hw => by
    have hs := h.small
    obtain ⟨hv, hu⟩ := mem_alive.1 hw
    rw [gR]
    rcases mem_valsO.1 hv with ⟨r, hr, rfl⟩ | rfl | ⟨j, hj, _⟩
    · rw [gP0_in hs hr]
      split <;> omega
    · rw [gP0_none, if_pos (by exact hu)]; omega
    · omega
  | k + 1, hk, w, hw => by
    cases hn : nd S.need k
    · rw [alive_succ_no (by omega) hn] at hw
      have := gP_lt h k (by omega) hw
      have h2 := gR_step S k
      rw [gP_old (by have := vals_lt (alive_vals hw); omega)]
      omega
    · rw [alive_succ hn (h.use k (by omega) hn), List.mem_append, List.mem_singleton] at hw
      rcases hw with hw | rfl
      · have := gP_lt h k (by omega) (rest_alive hw)
        have h2 := gR_step S k
        rw [gP_old (by have := vals_lt (alive_vals (rest_alive hw)); omega)]
        omega
      · exact gR_new hn
/-! #### not more registers than there were -/
theorem nodup_len : ∀ (l m : List Int), l.Nodup → (∀ x ∈ l, x ∈ m) → l.length ≤ m.length
  | [], _, _, _ => Nat.zero_le _
  | x :: l, m, hn, h => by
    obtain ⟨h1, h2⟩ := List.nodup_cons.1 hn
    have hm := h x (by simp)
    have ih := nodup_len l (m.erase x) h2 fun y hy => (List.mem_erase_of_ne (fun e => h1 (by rw [← e]; exact hy))).2 (h y (by simp [hy]))
    rw [List.length_erase_of_mem hm] at ih
    have := List.length_pos_of_mem hm
    rw [List.length_cons]
    omega
theorem vals_nodup {S : Sv} (h : SvOk S) (k : Nat) : (valsO S k).Nodup := by
  have hs := h.small
  have h1 : ((List.range S.ins.toNat).map fun (r : Nat) => -1 - (r : Int)).Nodup := List.Pairwise.map _ (fun a b hab => by omega) List.nodup_range
  have h2 : (((List.range k).filter fun j => nd S.need j).map fun (j : Nat) => (j : Int)).Nodup := List.Pairwise.map _ (fun a b hab => by omega) (List.Pairwise.filter _ List.nodup_range)
  unfold valsO
  rw [List.nodup_append]
  refine ⟨h1, List.nodup_cons.2 ⟨fun hm => ?_, h2⟩, fun a ha b hb => ?_⟩
  · simp only [List.mem_map] at hm
    obtain ⟨j, _, hj⟩ := hm
    omega
  · simp only [List.mem_map, List.mem_range, List.mem_cons] at ha hb
    obtain ⟨r, hr, rfl⟩ := ha
    rcases hb with rfl | ⟨j, _, rfl⟩ <;> omega
/-- All registers that are asked are there. -/
structure SvIn (S : Sv) (n : Nat) : Prop where
  asks : ∀ k : Nat, k < S.code.length → nd S.need k = true → ∀ r ∈ asks (nth S.code k), 0 ≤ r ∧ r < (n : Int)
  outs : ∀ r ∈ S.outs, 0 ≤ r ∧ r < (n : Int)
  ins : S.ins ≤ n
theorem held_back {S : Sv} {k : Nat} {r w : Int} (hw : w < k) : ∀ j, k ≤ j → heldR S j r = w → heldR S k r = w
  | 0, h, e => by rw [show k = 0 by omega]; exact e
  | j + 1, h, e => by
    by_cases hk : k = j + 1
    · rw [hk]; exact e
    · rw [heldR] at e
      split at e
      · omega
      · exact held_back hw j (by omega) e
theorem alive_held {S : Sv} {n : Nat} (hi : SvIn S n) {k : Nat} {w : Int} (hw : w ∈ aliveR S k) : ∃ r : Nat, r < n ∧ heldR S k r = w := by
  obtain ⟨hv, hu⟩ := mem_alive.1 hw
  have hlt := vals_lt hv
  have hle := until_le S w
  by_cases e : untilR S w = S.code.length
  · have ho := out_of_until e
    unfold outV at ho
    rw [List.any_eq_true] at ho
    obtain ⟨r, hr, he⟩ := ho
    have := hi.outs r hr
    refine ⟨r.toNat, by omega, ?_⟩
    rw [Int.toNat_of_nonneg this.1]
    exact held_back hlt S.code.length (by omega) (by simpa using he)
  · obtain ⟨u, hU⟩ : ∃ u : Nat, untilR S w = u := ⟨(untilR S w).toNat, by omega⟩
    have ha := ask_of_until (by omega) hU
    unfold askV at ha
    rw [Bool.and_eq_true, List.any_eq_true] at ha
    obtain ⟨hn, r, hr, he⟩ := ha
    have := hi.asks u (by omega) hn r hr
    refine ⟨r.toNat, by omega, ?_⟩
    rw [Int.toNat_of_nonneg this.1]
    exact held_back hlt u (by omega) (by simpa using he)
theorem alive_le {S : Sv} (h : SvOk S) {n : Nat} (hi : SvIn S n) (k : Nat) : (aliveR S k).length ≤ n := by
  have := nodup_len (aliveR S k) ((List.range n).map fun (r : Nat) => heldR S k r) (List.Pairwise.filter _ (vals_nodup h k)) fun w hw => by
    obtain ⟨r, h1, h2⟩ := alive_held hi hw
    exact List.mem_map.2 ⟨r, List.mem_range.2 h1, h2⟩
  simpa using this
theorem gP_new_le {S : Sv} (h : SvOk S) {k : Nat} (hk : k < S.code.length) (hn : nd S.need k = true) : gP S (k + 1) k + 1 ≤ (aliveR S (k + 1)).length := by
  rw [gP_new hn, alive_succ hn (h.use k hk hn), List.length_append]
  have := mex_le ((restR S k).map (gP S k))
  rw [List.length_map] at this
  simp only [List.length_cons, List.length_nil]
  omega
theorem gR_zero {S : Sv} (h : SvOk S) {n : Nat} (hi : SvIn S n) : S.ins ≤ gR S 0 ∧ gR S 0 ≤ n ∧ gR S 0 ≤ S.ins + 1 := by
  have := hi.ins
  have hs := h.small
  rw [gR]
  split
  · rename_i hu
    obtain ⟨r, h1, h2⟩ := alive_held hi (k := 0) (w := -1000) (mem_alive.2 ⟨mem_valsO.2 (.inr (.inl rfl)), hu⟩)
    rw [heldR] at h2
    split at h2 <;> omega
  · omega
theorem gR_le {S : Sv} (h : SvOk S) {n : Nat} (hi : SvIn S n) : ∀ k, k ≤ S.code.length → gR S k ≤ n
  | 0, _ => (gR_zero h hi).2.1
  | k + 1, hk => by
    have ih := gR_le h hi k (by omega)
    rw [gR]
    split
    · rename_i hn
      have h1 := gP_new_le h (by omega) hn
      have h2 := alive_le h hi (k + 1)
      split <;> omega
    · exact ih
/-- The most values that are alive at once. -/
def rA (S : Sv) : Nat → Int
  | 0 => 0
  | k + 1 => if k < S.code.length ∧ nd S.need k = false then rA S k else (if ((aliveR S k).length : Int) > rA S k then ((aliveR S k).length : Int) else rA S k)
def mA (S : Sv) : Nat → Int
  | 0 => (aliveR S 0).length
  | k + 1 => if nd S.need k = true then (if ((aliveR S (k + 1)).length : Int) > mA S k then ((aliveR S (k + 1)).length : Int) else mA S k) else mA S k
theorem rA_step (S : Sv) (k : Nat) : rA S k ≤ rA S (k + 1) := by
  rw [rA]
  split
  · exact Int.le_refl _
  · split <;> omega
theorem rA_mono {S : Sv} {j : Nat} : ∀ k, j ≤ k → rA S j ≤ rA S k
  | 0, h => by rw [show j = 0 by omega]; exact Int.le_refl _
  | k + 1, h => by
    by_cases e : j = k + 1
    · rw [e]; exact Int.le_refl _
    · exact Int.le_trans (rA_mono k (by omega)) (rA_step S k)
theorem len_rA {S : Sv} : ∀ (d k : Nat), k + d = S.code.length → ((aliveR S k).length : Int) ≤ rA S (S.code.length + 1)
  | 0, k, h => by
    have := rA_mono (S := S) (j := k + 1) (S.code.length + 1) (by omega)
    rw [rA, if_neg (by omega)] at this
    split at this <;> omega
  | d + 1, k, h => by
    cases hn : nd S.need k
    · have := len_rA (S := S) d (k + 1) (by omega)
      rw [alive_succ_no (by omega) hn] at this
      exact this
    · have := rA_mono (S := S) (j := k + 1) (S.code.length + 1) (by omega)
      rw [rA, if_neg (by simp [hn])] at this
      split at this <;> omega
theorem mA_step (S : Sv) (k : Nat) : mA S k ≤ mA S (k + 1) := by
  rw [mA]
  split
  · split <;> omega
  · exact Int.le_refl _
theorem len_mA {S : Sv} : ∀ k, k ≤ S.code.length → ((aliveR S k).length : Int) ≤ mA S k
  | 0, _ => Int.le_refl _
  | k + 1, hk => by
    cases hn : nd S.need k
    · have := len_mA (S := S) k (by omega)
      rw [alive_succ_no (by omega) hn]
      exact Int.le_trans this (mA_step S k)
    · rw [mA, if_pos hn]
      split <;> omega
theorem mA_le {S : Sv} : ∀ k, k ≤ S.code.length → mA S k ≤ rA S (S.code.length + 1)
  | 0, _ => len_rA S.code.length 0 (by omega)
  | k + 1, hk => by
    have ih := mA_le (S := S) k (by omega)
    have := len_rA (S := S) (S.code.length - (k + 1)) (k + 1) (by omega)
    rw [mA]
    split
    · split <;> omega
    · exact ih
theorem rA_le {S : Sv} : ∀ k, k ≤ S.code.length + 1 → rA S k ≤ mA S S.code.length
  | 0, _ => by
    have := len_mA (S := S) S.code.length (Nat.le_refl _)
    rw [rA]
    omega
  | k + 1, hk => by
    have ih := rA_le (S := S) k (by omega)
    rw [rA]
    split
    · exact ih
    · have h1 := len_mA (S := S) k (by omega)
      have h2 : ∀ d, mA S k ≤ mA S (k + d) := fun d => by
        induction d with
        | zero => exact Int.le_refl _
        | succ d ih => exact Int.le_trans ih (mA_step S _)
      have h3 := h2 (S.code.length - k)
      rw [show k + (S.code.length - k) = S.code.length by omega] at h3
      split <;> omega
theorem rA_mA (S : Sv) : rA S (S.code.length + 1) = mA S S.code.length := Int.le_antisymm (rA_le _ (Nat.le_refl _)) (mA_le _ (Nat.le_refl _))
/-- The registers are no more than the values alive at once, or the inputs and one. -/
theorem gR_alive {S : Sv} (h : SvOk S) {n : Nat} (hi : SvIn S n) : ∀ k, k ≤ S.code.length → gR S k ≤ S.ins + 1 ∨ gR S k ≤ mA S S.code.length
  | 0, _ => .inl (gR_zero h hi).2.2
  | k + 1, hk => by
    have ih := gR_alive h hi k (by omega)
    rw [gR]
    split
    · rename_i hn
      have h1 := gP_new_le h (by omega) hn
      have h2 := len_rA (S := S) (S.code.length - (k + 1)) (k + 1) (by omega)
      rw [rA_mA] at h2
      split
      · exact .inr (by omega)
      · exact ih
    · exact ih
/-! #### all is needed -/
theorem needR_drop (outs : List Int) : ∀ (code : List Ins) (j : Nat), (needR outs code).drop j = needR outs (code.drop j)
  | [], j => by simp [needR]
  | i :: rest, 0 => rfl
  | i :: rest, j + 1 => by rw [needR, List.drop_succ_cons, List.drop_succ_cons, needR_drop outs rest j]
theorem need_get (outs : List Int) : ∀ (code : List Ins) (k : Nat), k < code.length → nd (needR outs code) k = needF outs (nth code k).to (code.drop (k + 1)) (needR outs (code.drop (k + 1)))
  | [], k, h => by simp at h
  | i :: rest, 0, h => rfl
  | i :: rest, k + 1, h => by
    have := need_get outs rest k (by simpa using h)
    exact this
theorem any_mem {l : List Int} {r : Int} : (l.any (· == r)) = true ↔ r ∈ l := by
  rw [List.any_eq_true]
  constructor
  · rintro ⟨x, h1, h2⟩
    have : x = r := by simpa using h2
    exact this ▸ h1
  · intro h
    exact ⟨r, h, by simp⟩
theorem drop_nth {code : List Ins} {k : Nat} (h : k < code.length) : code.drop k = nth code k :: code.drop (k + 1) := by
  rw [List.drop_eq_getElem_cons h]
  congr 1
  rw [nth, List.getD_eq_getElem?_getD, List.getElem?_eq_getElem h]; rfl
theorem use_aux {S : Sv} (hS : S.need = needR S.outs S.code) : ∀ (d j : Nat), j + d = S.code.length → ∀ (r : Int), needF S.outs r (S.code.drop j) (needR S.outs (S.code.drop j)) = true → (j : Int) ≤ untilR S (heldR S j r)
  | 0, j, h, r, hf => by
    have : j = S.code.length := by omega
    subst this
    rw [List.drop_length, needR, needF] at hf
    rw [until_out (any_mem.1 hf)]
    exact Int.le_refl _
    all_goals simp
  | d + 1, j, h, r, hf => by
    have hj : j < S.code.length := by omega
    rw [drop_nth hj, needR, needF, Bool.or_eq_true, Bool.and_eq_true, Bool.and_eq_true] at hf
    rcases hf with ⟨h1, h2⟩ | ⟨h1, h2⟩
    · refine until_ask ?_ hj
      unfold askV
      rw [Bool.and_eq_true, hS, need_get _ _ _ hj]
      refine ⟨h1, ?_⟩
      rw [List.any_eq_true]
      exact ⟨r, any_mem.1 h2, by simp⟩
    · have ih := use_aux hS d (j + 1) (by omega) r h2
      have hne : ¬ (nth S.code j).to = r := by simpa using h1
      rw [heldR, if_neg fun x => hne x.2] at ih
      omega
theorem svOk_of {S : Sv} (hS : S.need = needR S.outs S.code) (h0 : 0 ≤ S.ins) (h1 : S.ins ≤ 900) : SvOk S := by
  refine ⟨h0, fun k hk hn => ?_, h1⟩
  have h2 := hn
  rw [hS, need_get _ _ _ hk] at h2
  have := use_aux hS (S.code.length - (k + 1)) (k + 1) (by omega) _ h2
  rw [heldR, if_pos ⟨hn, rfl⟩] at this
  omega
theorem gC_drop {S : Sv} {j : Nat} (hj : j < S.code.length) (hn : nd S.need j = true) : (gC S S.code.length).drop (cnt S j) = gI S j :: (gC S S.code.length).drop (cnt S (j + 1)) := by
  rw [drop_nth (by rw [gC_length]; exact cnt_lt hn hj), gC_nth hn hj, cnt_succ hn]
theorem out_gP {S : Sv} {w : Int} (h : untilR S w = S.code.length) : gP S S.code.length w ∈ gOuts S := by
  have := out_of_until h
  unfold outV at this
  rw [List.any_eq_true] at this
  obtain ⟨r, h1, h2⟩ := this
  have : heldR S S.code.length r = w := by simpa using h2
  exact List.mem_map.2 ⟨r, h1, by rw [this]⟩
theorem q_need {S : Sv} (h : SvOk S) : ∀ (d j : Nat), j + d = S.code.length →
    needR (gOuts S) ((gC S S.code.length).drop (cnt S j)) = List.replicate (cnt S S.code.length - cnt S j) true ∧
    ∀ w ∈ aliveR S j, needF (gOuts S) (gP S j w) ((gC S S.code.length).drop (cnt S j)) (needR (gOuts S) ((gC S S.code.length).drop (cnt S j))) = true
  | 0, j, hj => by
    have : j = S.code.length := by omega
    subst this
    rw [← gC_length, List.drop_length, Nat.sub_self]
    refine ⟨rfl, fun w hw => ?_⟩
    rw [needF]
    · refine any_mem.2 (out_gP ?_)
      have := (mem_alive.1 hw).2
      have := until_le S w
      omega
    · simp
  | d + 1, j, hj => by
    obtain ⟨h1, h2⟩ := q_need h d (j + 1) (by omega)
    cases hn : nd S.need j
    · rw [cnt_succ_no hn] at h1 h2
      refine ⟨h1, fun w hw => ?_⟩
      have := h2 w (by rw [alive_succ_no (by omega) hn]; exact hw)
      rwa [gP_old (by have := vals_lt (alive_vals hw); omega)] at this
    · have hk := h.use j (by omega) hn
      have hto : (gI S j).to = gP S (j + 1) j := rfl
      have hself := h2 j (by rw [alive_succ hn hk]; simp)
      rw [gC_drop (by omega) hn, needR, hto, hself]
      refine ⟨?_, fun w hw => ?_⟩
      · have hlt := cnt_lt (S := S) hn (show j < S.code.length by omega)
        rw [h1, ← List.replicate_succ, cnt_succ hn]
        congr 1
        omega
      · rw [needF, Bool.true_and, Bool.or_eq_true, Bool.and_eq_true]
        by_cases hu : untilR S w = j
        · left
          have ha := ask_of_until (by omega) hu
          unfold askV at ha
          rw [Bool.and_eq_true, List.any_eq_true] at ha
          obtain ⟨_, r, hr, he⟩ := ha
          have he' : heldR S j r = w := by simpa using he
          rw [any_mem, asks_gI]
          exact List.mem_map.2 ⟨r, hr, by rw [he']⟩
        · right
          have hr : w ∈ restR S j := List.mem_filter.2 ⟨hw, by simpa using hu⟩
          have hold : gP S (j + 1) w = gP S j w := gP_old (by have := vals_lt (alive_vals hw); omega)
          have := h2 w (by rw [alive_succ hn hk]; simp [hr])
          rw [hold] at this
          refine ⟨?_, this⟩
          have hne : ¬ (gI S j).to = gP S j w := fun e => by
            rw [hto, gP_new hn] at e
            exact mex_not ((restR S j).map (gP S j)) (List.mem_map.2 ⟨w, hr, e.symm⟩)
          simpa using hne
theorem q_all {S : Sv} (h : SvOk S) : needR (gOuts S) (gC S S.code.length) = List.replicate (cnt S S.code.length) true := (q_need h S.code.length 0 (by omega)).1
end Go.Proofs.Sw
namespace Go.Proofs.Sw
set_option linter.unusedVariables false
set_option linter.unusedSimpArgs false
set_option linter.unusedSectionVars false
/-! ### the pass of what the pass makes -/
def Sq (S : Sv) : Sv := ⟨S.ins, List.replicate (cnt S S.code.length) true, gC S S.code.length, gOuts S⟩
def sg (S : Sv) (w : Int) : Int := if w < 0 then w else (cnt S w.toNat : Int)
theorem sg_nat (S : Sv) (j : Nat) : sg S (j : Int) = cnt S j := by
  rw [sg, if_neg (by omega), Int.toNat_natCast]
theorem sg_neg {S : Sv} {w : Int} (h : w < 0) : sg S w = w := if_pos h
theorem nd_q {S : Sv} {k : Nat} (hk : k < cnt S S.code.length) : nd (Sq S).need k = true := by
  simp [nd, Sq, List.getD_eq_getElem?_getD, List.getElem?_replicate, hk]
theorem nth_q {S : Sv} {j : Nat} (hj : j < S.code.length) (hn : nd S.need j = true) : nth (Sq S).code (cnt S j) = gI S j := gC_nth hn hj
theorem len_q (S : Sv) : (Sq S).code.length = cnt S S.code.length := gC_length S _
theorem sg_inj {S : Sv} {k : Nat} {w v : Int} (hw : w ∈ valsO S k) (hv : v ∈ valsO S k) (e : sg S w = sg S v) : w = v := by
  rcases mem_valsO.1 hw with ⟨r, _, rfl⟩ | rfl | ⟨i, h1, h2, rfl⟩
  · rw [sg_neg (by omega)] at e
    rcases mem_valsO.1 hv with ⟨q, _, rfl⟩ | rfl | ⟨j, h3, h4, rfl⟩
    · rwa [sg_neg (by omega)] at e
    · rwa [sg_neg (by omega)] at e
    · rw [sg_nat] at e; omega
  · rw [sg_neg (by omega)] at e
    rcases mem_valsO.1 hv with ⟨q, _, rfl⟩ | rfl | ⟨j, h3, h4, rfl⟩
    · rwa [sg_neg (by omega)] at e
    · rfl
    · rw [sg_nat] at e; omega
  · rw [sg_nat] at e
    rcases mem_valsO.1 hv with ⟨q, _, rfl⟩ | rfl | ⟨j, h3, h4, rfl⟩
    · rw [sg_neg (by omega)] at e; omega
    · rw [sg_neg (by omega)] at e; omega
    · rw [sg_nat] at e
      by_cases h : i < j
      · have := cnt_lt (S := S) h2 h; omega
      · by_cases h' : j < i
        · have := cnt_lt (S := S) h4 h'; omega
        · rw [show i = j by omega]
structure SvOp (S : Sv) : Prop where
  ops : ∀ k : Nat, k < S.code.length → nd S.need k = true → 1 ≤ (nth S.code k).op ∧ (nth S.code k).op ≤ 8
theorem asked_alive {S : Sv} {n : Nat} (hi : SvIn S n) {j : Nat} (hj : j < S.code.length) (hn : nd S.need j = true) {r : Int} (hr : r ∈ asks (nth S.code j)) : heldR S j r ∈ aliveR S j := by
  refine mem_alive.2 ⟨held_mem (hi.asks j hj hn r hr).1 j, until_ask ?_ hj⟩
  unfold askV
  rw [hn, Bool.true_and, List.any_eq_true]
  exact ⟨r, hr, by simp⟩
theorem out_alive {S : Sv} {n : Nat} (hi : SvIn S n) {r : Int} (hr : r ∈ S.outs) : heldR S S.code.length r ∈ aliveR S S.code.length := by
  refine mem_alive.2 ⟨held_mem (hi.outs r hr).1 _, ?_⟩
  rw [until_out hr]
  exact Int.le_refl _
theorem held_q {S : Sv} (h : SvOk S) : ∀ (j : Nat), j ≤ S.code.length → ∀ {w : Int}, w ∈ aliveR S j → heldR (Sq S) (cnt S j) (gP S j w) = sg S w
  | 0, _, w, hw => by
    have hs := h.small
    have h0 := h.ins
    have hv := alive_vals hw
    have hq : (Sq S).ins = S.ins := rfl
    rw [show cnt S 0 = 0 from rfl, heldR, hq]
    rcases mem_valsO.1 hv with ⟨r, hr, rfl⟩ | rfl | ⟨j, hj, _⟩
    · rw [gP0_in hs hr, if_pos (by omega), sg_neg (by omega)]
    · rw [gP0_none, if_neg (by omega), sg_neg (by omega)]
    · omega
  | j + 1, hj, w, hw => by
    cases hn : nd S.need j
    · rw [alive_succ_no (by omega) hn] at hw
      rw [cnt_succ_no hn, gP_old (by have := vals_lt (alive_vals hw); omega)]
      exact held_q h j (by omega) hw
    · rw [alive_succ hn (h.use j (by omega) hn), List.mem_append, List.mem_singleton] at hw
      have hto : (gI S j).to = gP S (j + 1) j := rfl
      rw [cnt_succ hn, heldR, nth_q (by omega) hn, hto]
      rcases hw with hw | rfl
      · have hold : gP S (j + 1) w = gP S j w := gP_old (by have := vals_lt (alive_vals (rest_alive hw)); omega)
        rw [hold, if_neg]
        · exact held_q h j (by omega) (rest_alive hw)
        · rintro ⟨_, e⟩
          rw [gP_new hn] at e
          exact mex_not ((restR S j).map (gP S j)) (List.mem_map.2 ⟨w, hw, e.symm⟩)
      · rw [if_pos ⟨nd_q (cnt_lt hn (by omega)), rfl⟩, sg_nat]
theorem ask_q {S : Sv} (h : SvOk S) {n : Nat} (hi : SvIn S n) {j : Nat} (hj : j < S.code.length) (hn : nd S.need j = true) {w : Int} (hw : w ∈ valsO S S.code.length) : askV (Sq S) (cnt S j) (sg S w) = askV S j w := by
  unfold askV
  rw [nd_q (cnt_lt hn hj), hn, nth_q hj hn, asks_gI, List.any_map, Bool.eq_iff_iff, Bool.true_and, Bool.true_and, List.any_eq_true, List.any_eq_true]
  constructor
  · rintro ⟨r, hr, he⟩
    refine ⟨r, hr, ?_⟩
    have ha := asked_alive hi hj hn hr
    simp only [Function.comp_apply, decide_eq_true_eq] at he ⊢
    rw [held_q h j (by omega) ha] at he
    exact sg_inj (vals_mono (alive_vals ha) (by omega)) hw he
  · rintro ⟨r, hr, he⟩
    refine ⟨r, hr, ?_⟩
    have ha := asked_alive hi hj hn hr
    simp only [Function.comp_apply, decide_eq_true_eq] at he ⊢
    rw [held_q h j (by omega) ha, he]
theorem last_q {S : Sv} (h : SvOk S) {n : Nat} (hi : SvIn S n) {w : Int} (hw : w ∈ valsO S S.code.length) : ∀ j, j ≤ S.code.length → lastR (Sq S) (cnt S j) (sg S w) = sg S (lastR S j w)
  | 0, _ => by
    rw [show cnt S 0 = 0 from rfl, lastR, lastR, sg_neg (by omega)]
  | j + 1, hj => by
    have ih := last_q h hi hw j (by omega)
    cases hn : nd S.need j
    · have : askV S j w = false := by simp [askV, hn]
      rw [cnt_succ_no hn, lastR, this, if_neg (by simp)]
      exact ih
    · rw [cnt_succ hn, lastR, lastR, ask_q h hi (by omega) hn hw]
      split
      · rw [sg_nat]
      · exact ih
theorem out_q {S : Sv} (h : SvOk S) {n : Nat} (hi : SvIn S n) {w : Int} (hw : w ∈ valsO S S.code.length) : outV (Sq S) (sg S w) = outV S w := by
  unfold outV
  rw [len_q]
  show (gOuts S).any _ = _
  unfold gOuts
  rw [List.any_map, Bool.eq_iff_iff, List.any_eq_true, List.any_eq_true]
  constructor
  · rintro ⟨r, hr, he⟩
    refine ⟨r, hr, ?_⟩
    have ha := out_alive hi hr
    simp only [Function.comp_apply, decide_eq_true_eq] at he ⊢
    rw [held_q h _ (Nat.le_refl _) ha] at he
    exact sg_inj (alive_vals ha) hw he
  · rintro ⟨r, hr, he⟩
    refine ⟨r, hr, ?_⟩
    have ha := out_alive hi hr
    simp only [Function.comp_apply, decide_eq_true_eq] at he ⊢
    rw [held_q h _ (Nat.le_refl _) ha, he]
theorem until_q {S : Sv} (h : SvOk S) {n : Nat} (hi : SvIn S n) {w : Int} (hw : w ∈ valsO S S.code.length) : untilR (Sq S) (sg S w) = sg S (untilR S w) := by
  unfold untilR
  rw [out_q h hi hw, len_q, last_q h hi hw _ (Nat.le_refl _)]
  split
  · rw [sg_nat]
  · rfl
theorem vals_q (S : Sv) : ∀ j, j ≤ S.code.length → valsO (Sq S) (cnt S j) = (valsO S j).map (sg S)
  | 0, _ => by
    rw [show cnt S 0 = 0 from rfl]
    unfold valsO
    rw [List.map_append, List.map_cons, sg_neg (show (-1000 : Int) < 0 by omega), List.map_map]
    show List.map _ (List.range S.ins.toNat) ++ _ = _
    congr 1
    apply List.map_congr_left
    intro r _
    rw [Function.comp_apply, sg_neg (by omega)]
  | j + 1, hj => by
    have ih := vals_q S j (by omega)
    cases hn : nd S.need j
    · rw [cnt_succ_no hn, vals_succ_no hn, ih]
    · rw [cnt_succ hn, vals_succ (nd_q (cnt_lt hn (by omega))), vals_succ hn, ih, List.map_append, List.map_cons, sg_nat]; rfl
theorem sg_until {S : Sv} {w : Int} {j : Nat} (hj : j ≤ S.code.length) : (cnt S j : Int) ≤ sg S (untilR S w) ↔ (j : Int) ≤ untilR S w := by
  have hle := until_le S w
  by_cases h0 : untilR S w < 0
  · rw [sg_neg h0]; omega
  · obtain ⟨u, hU⟩ : ∃ u : Nat, untilR S w = u := ⟨(untilR S w).toNat, by omega⟩
    rw [hU, sg_nat]
    by_cases h1 : j ≤ u
    · have := cnt_mono (S := S) u h1
      omega
    · have hn : nd S.need u = true := by
        have := ask_of_until (by omega) hU
        unfold askV at this
        rw [Bool.and_eq_true] at this
        exact this.1
      have := cnt_lt hn (show u < j by omega)
      omega
theorem sg_until_eq {S : Sv} {w : Int} {j : Nat} (hj : j < S.code.length) (hn : nd S.need j = true) : sg S (untilR S w) = cnt S j ↔ untilR S w = j := by
  have h1 := sg_until (S := S) (w := w) (j := j) (by omega)
  have h2 := sg_until (S := S) (w := w) (j := j + 1) (by omega)
  rw [cnt_succ hn] at h2
  omega
theorem alive_q {S : Sv} (h : SvOk S) {n : Nat} (hi : SvIn S n) {j : Nat} (hj : j ≤ S.code.length) : aliveR (Sq S) (cnt S j) = (aliveR S j).map (sg S) := by
  unfold aliveR
  rw [vals_q S j hj, List.filter_map]
  congr 1
  apply List.filter_congr
  intro w hw
  rw [Function.comp_apply, until_q h hi (vals_mono hw hj), decide_eq_decide]
  exact sg_until hj
theorem rest_q {S : Sv} (h : SvOk S) {n : Nat} (hi : SvIn S n) {j : Nat} (hj : j < S.code.length) (hn : nd S.need j = true) : restR (Sq S) (cnt S j) = (restR S j).map (sg S) := by
  unfold restR
  rw [alive_q h hi (by omega), List.filter_map]
  congr 1
  apply List.filter_congr
  intro w hw
  rw [Function.comp_apply, until_q h hi (vals_mono (alive_vals hw) (by omega)), decide_eq_decide]
  exact not_congr (sg_until_eq hj hn)
theorem gP_q {S : Sv} (h : SvOk S) {n : Nat} (hi : SvIn S n) : ∀ j, j ≤ S.code.length → ∀ {w : Int}, w ∈ valsO S j → gP (Sq S) (cnt S j) (sg S w) = gP S j w
  | 0, _, w, hw => by
    have : w < 0 := by have := vals_lt hw; omega
    rw [show cnt S 0 = 0 from rfl, sg_neg this]; rfl
  | j + 1, hj, w, hw => by
    cases hn : nd S.need j
    · rw [vals_succ_no hn] at hw
      rw [cnt_succ_no hn, gP_old (by have := vals_lt hw; omega)]
      exact gP_q h hi j (by omega) hw
    · rw [vals_succ hn, List.mem_append, List.mem_singleton] at hw
      rw [cnt_succ hn]
      rcases hw with hw | rfl
      · have h1 : sg S w ∈ valsO (Sq S) (cnt S j) := by rw [vals_q S j (by omega)]; exact List.mem_map.2 ⟨w, hw, rfl⟩
        have n1 := vals_lt hw
        have n2 := vals_lt h1
        rw [gP_old (S := S) (k := j) (w := w) (by omega), gP_old (S := Sq S) (k := cnt S j) (w := sg S w) (by omega)]
        exact gP_q h hi j (by omega) hw
      · rw [sg_nat, gP_new (nd_q (cnt_lt hn (by omega))), gP_new hn, rest_q h hi (by omega) hn, List.map_map]
        congr 2
        apply List.map_congr_left
        intro v hv
        exact gP_q h hi j (by omega) (alive_vals (rest_alive hv))
theorem ask_a {x : Ins} (h : 1 ≤ x.op ∧ x.op ≤ 8) : x.a ∈ asks x := by
  by_cases h2 : x.op = 3 ∨ x.op = 4
  · unfold asks; rw [if_pos h2]; simp
  · unfold asks; rw [if_neg h2, if_pos h]; simp
theorem ask_b {x : Ins} (h : x.op = 3 ∨ x.op = 4) : x.b ∈ asks x := by
  unfold asks
  rw [if_pos h]; simp
theorem gI_q {S : Sv} (h : SvOk S) {n : Nat} (hi : SvIn S n) (ho : SvOp S) {j : Nat} (hj : j < S.code.length) (hn : nd S.need j = true) : gI (Sq S) (cnt S j) = gI S j := by
  have hop := ho.ops j hj hn
  have e1 : gP (Sq S) (cnt S j + 1) (cnt S j) = gP S (j + 1) j := by
    have := gP_q h hi (j + 1) (by omega) (w := j) (by rw [vals_succ hn]; simp)
    rwa [cnt_succ hn, sg_nat] at this
  have e2 : ∀ r ∈ asks (nth S.code j), gP (Sq S) (cnt S j) (heldR (Sq S) (cnt S j) (gP S j (heldR S j r))) = gP S j (heldR S j r) := fun r hr => by
    have ha := asked_alive hi hj hn hr
    rw [held_q h j (by omega) ha, gP_q h hi j (by omega) (alive_vals ha)]
  have ea := e2 _ (ask_a hop)
  rw [gI, nth_q hj hn, e1]
  simp only [gI]
  rw [ea]
  by_cases h34 : (nth S.code j).op = 3 ∨ (nth S.code j).op = 4
  · have eb := e2 _ (ask_b h34)
    simp only [h34, if_true]
    rw [eb]
  · simp only [h34, if_false]
theorem gC_q {S : Sv} (h : SvOk S) {n : Nat} (hi : SvIn S n) (ho : SvOp S) : ∀ j, j ≤ S.code.length → gC (Sq S) (cnt S j) = gC S j
  | 0, _ => rfl
  | j + 1, hj => by
    have ih := gC_q h hi ho j (by omega)
    cases hn : nd S.need j
    · rw [cnt_succ_no hn, gC_succ_no hn, ih]
    · rw [cnt_succ hn, gC_succ (nd_q (cnt_lt hn (by omega))), gC_succ hn, ih, gI_q h hi ho (by omega) hn]
theorem gR_q {S : Sv} (h : SvOk S) {n : Nat} (hi : SvIn S n) : ∀ j, j ≤ S.code.length → gR (Sq S) (cnt S j) = gR S j
  | 0, _ => by
    have hw : (-1000 : Int) ∈ valsO S S.code.length := mem_valsO.2 (.inr (.inl rfl))
    have := until_q h hi hw
    rw [sg_neg (show (-1000 : Int) < 0 by omega)] at this
    have h1 := sg_until (S := S) (w := -1000) (j := 0) (by omega)
    rw [show cnt S 0 = 0 from rfl] at h1 ⊢
    rw [gR, gR, this]
    simp only [h1, Int.natCast_zero] at h1 ⊢
    have h2 : (0 : Int) ≤ sg S (untilR S (-1000)) ↔ (0 : Int) ≤ untilR S (-1000) := by simpa using h1
    simp only [h2]
    rfl
  | j + 1, hj => by
    have ih := gR_q h hi j (by omega)
    cases hn : nd S.need j
    · rw [cnt_succ_no hn, ih, gR, hn, if_neg (by simp)]
    · have e1 : gP (Sq S) (cnt S j + 1) (cnt S j) = gP S (j + 1) j := by
        have := gP_q h hi (j + 1) (by omega) (w := j) (by rw [vals_succ hn]; simp)
        rwa [cnt_succ hn, sg_nat] at this
      rw [cnt_succ hn, gR, gR, if_pos (nd_q (cnt_lt hn (by omega))), if_pos hn, ih, e1]
theorem greedy_q {S : Sv} (h : SvOk S) {n : Nat} (hi : SvIn S n) (ho : SvOp S) : greedy (Sq S) = greedy S := by
  unfold greedy
  rw [len_q, gC_q h hi ho _ (Nat.le_refl _), gR_q h hi _ (Nat.le_refl _)]
  congr 1
  show List.map _ (gOuts S) = gOuts S
  rw [len_q, gOuts, List.map_map]
  apply List.map_congr_left
  intro r hr
  have ha := out_alive hi hr
  rw [Function.comp_apply, held_q h _ (Nat.le_refl _) ha, gP_q h hi _ (Nat.le_refl _) (alive_vals ha)]
end Go.Proofs.Sw
namespace Go.Proofs.Sw
set_option linter.unusedVariables false
set_option linter.unusedSimpArgs false
set_option linter.unusedSectionVars false
open Go.Ab
variable [Globals]
/-! ### the program's values and registers are those of the plain law -/
def svP (p : Pg) : Sv := ⟨p.ins, neededM p, p.code, p.outs⟩
/-- The program's number of a value. -/
def ph (S : Sv) (w : Int) : Int := if w = -1000 then S.ins else if w < 0 then -1 - w else S.ins + 1 + cnt S w.toNat
theorem ph_none (S : Sv) : ph S (-1000) = S.ins := if_pos rfl
theorem ph_in {S : Sv} (h : SvOk S) {r : Nat} (hr : r < S.ins.toNat) : ph S (-1 - (r : Int)) = r := by
  have := h.small
  rw [ph, if_neg (by omega), if_pos (by omega)]; omega
theorem ph_nat (S : Sv) (j : Nat) : ph S (j : Int) = S.ins + 1 + cnt S j := by
  rw [ph, if_neg (by omega), if_neg (by omega), Int.toNat_natCast]
theorem ph_range {S : Sv} (h : SvOk S) {k : Nat} {w : Int} (hw : w ∈ valsO S k) : 0 ≤ ph S w ∧ ph S w < S.ins + 1 + cnt S k := by
  have h0 := h.ins
  rcases mem_valsO.1 hw with ⟨r, hr, rfl⟩ | rfl | ⟨j, h1, h2, rfl⟩
  · rw [ph_in h hr]; omega
  · rw [ph_none]; omega
  · have := cnt_lt (S := S) h2 h1
    rw [ph_nat]; omega
theorem ph_inj {S : Sv} (h : SvOk S) {k : Nat} {w v : Int} (hw : w ∈ valsO S k) (hv : v ∈ valsO S k) (e : ph S w = ph S v) : w = v := by
  have h0 := h.ins
  rcases mem_valsO.1 hw with ⟨r, hr, rfl⟩ | rfl | ⟨j, h1, h2, rfl⟩
  · rw [ph_in h hr] at e
    rcases mem_valsO.1 hv with ⟨q, hq, rfl⟩ | rfl | ⟨i, h3, h4, rfl⟩
    · rw [ph_in h hq] at e; omega
    · rw [ph_none] at e; omega
    · rw [ph_nat] at e; omega
  · rw [ph_none] at e
    rcases mem_valsO.1 hv with ⟨q, hq, rfl⟩ | rfl | ⟨i, h3, h4, rfl⟩
    · rw [ph_in h hq] at e; omega
    · rfl
    · rw [ph_nat] at e; omega
  · rw [ph_nat] at e
    rcases mem_valsO.1 hv with ⟨q, hq, rfl⟩ | rfl | ⟨i, h3, h4, rfl⟩
    · rw [ph_in h hq] at e; omega
    · rw [ph_none] at e; omega
    · rw [ph_nat] at e
      by_cases hij : i < j
      · have := cnt_lt (S := S) h4 hij; omega
      · by_cases hji : j < i
        · have := cnt_lt (S := S) h2 hji; omega
        · rw [show i = j by omega]
theorem nth_get {code : List Ins} {k : Nat} (h : k < code.length) : nth code k = code[k] := by
  rw [nth, List.getD_eq_getElem?_getD, List.getElem?_eq_getElem h]; rfl
def en (x : Int) : Int := if x < 0 then -1 else x
theorem last_young {S : Sv} {n : Nat} (hi : SvIn S n) {v : Nat} : ∀ j, j ≤ v → j ≤ S.code.length → lastR S j v = -2000
  | 0, _, _ => rfl
  | j + 1, h, hj => by
    have ih := last_young hi (v := v) j (by omega) (by omega)
    rw [lastR, ih, if_neg]
    intro ha
    unfold askV at ha
    rw [Bool.and_eq_true, List.any_eq_true] at ha
    obtain ⟨hn, r, hr, he⟩ := ha
    have he' : heldR S j r = v := by simpa using he
    have := vals_lt (held_mem (S := S) (hi.asks j (by omega) hn r hr).1 j)
    omega
theorem askV_iff {S : Sv} {k : Nat} (hn : nd S.need k = true) (ho : 1 ≤ (nth S.code k).op ∧ (nth S.code k).op ≤ 8) (w : Int) :
    askV S k w = true ↔ heldR S k (nth S.code k).a = w ∨ (if (nth S.code k).op = 3 ∨ (nth S.code k).op = 4 then heldR S k (nth S.code k).b else heldR S k (nth S.code k).a) = w := by
  unfold askV
  rw [hn, Bool.true_and]
  by_cases h : (nth S.code k).op = 3 ∨ (nth S.code k).op = 4
  · rw [asks_two h, if_pos h]; simp
  · rw [asks_one h ho, if_neg h]; simp
/-- What is asked of a program that may be. -/
structure PgOk (p : Pg) : Prop where
  ok : SvOk (svP p)
  inn : SvIn (svP p) p.regs.toNat
  op : SvOp (svP p)
  ins : 0 < p.ins
  to : ∀ k : Nat, k < p.code.length → 0 ≤ (nth p.code k).to ∧ (nth p.code k).to < p.regs
  regs : p.ins ≤ p.regs
  regs2 : p.regs ≤ 128
theorem pgOk {p : Pg} (hr : rightM p = true) : PgOk p := by
  have hr' := hr
  simp only [rightM, headM, Bool.and_eq_true, decide_eq_true_eq] at hr'
  obtain ⟨⟨hh, ho⟩, hc⟩ := hr'
  obtain ⟨ins, regs, code, outs⟩ := p
  simp only at hh ho hc
  obtain ⟨n, rfl⟩ : ∃ n : Nat, regs = n := ⟨regs.toNat, by omega⟩
  have hm : ∀ k, k < code.length → mayM (nth code k) n = true := fun k hk => by
    rw [nth_get hk]
    exact List.all_eq_true.1 hc _ (List.getElem_mem hk)
  refine ⟨svOk_of (neededM_R n ins code outs hr).symm (by show 0 ≤ ins; omega) (by show ins ≤ 900; omega), ⟨fun k hk _ r h => ?_, fun r h => ?_, ?_⟩, ⟨fun k hk _ => ?_⟩, by show 0 < ins; omega, fun k hk => ?_, by simp only; omega, by simp only; omega⟩
  · have := (may_asks (hm k hk)).2 r h
    simpa using this
  · have := List.all_eq_true.1 ho r h
    have h2 : 0 ≤ r ∧ r < (n : Int) := by simpa using this
    simpa using h2
  · show ins ≤ ((n : Int).toNat : Int)
    omega
  · exact (mayM_facts (hm k hk)).1
  · exact (may_asks (hm k hk)).1
/-- What the program knows of its values ahead of an instruction. -/
structure LvRel (S : Sv) (n k : Nat) (q : Lv) : Prop where
  len : (q.unt.length : Int) = S.ins + 1 + cnt S k
  hlen : q.held.length = n
  held : ∀ r : Nat, r < n → q.held.getD r 0 = ph S (heldR S k r)
  unt : ∀ w ∈ valsO S k, q.unt.getD (ph S w).toNat 0 = en (lastR S k w)
theorem lv_rel {p : Pg} (hp : PgOk p) : ∀ k, k ≤ p.code.length → LvRel (svP p) p.regs.toNat k (lvAt (lvStart p.ins p.regs.toNat p.code.length) (neededM p) p.code k)
  | 0, _ => by
    have h0 := hp.ok.ins
    have hs := hp.ok.small
    have e0 : (svP p).ins = p.ins := rfl
    rw [e0] at h0 hs
    refine ⟨?_, startM_length _ _, fun r hr => ?_, fun w hw => ?_⟩
    · show ((List.replicate (p.ins.toNat + 1) (-1 : Int)).length : Int) = p.ins + 1 + ((cnt (svP p) 0 : Nat) : Int)
      rw [List.length_replicate, show cnt (svP p) 0 = 0 from rfl]; omega
    · show (startM p.ins p.regs.toNat).getD r 0 = _
      have e1 : (startM p.ins p.regs.toNat).getD r 0 = if p.ins < (r : Int) then p.ins else (r : Int) := by
        simp [startM, List.getD_eq_getElem?_getD, hr]
      rw [e1, heldR, e0]
      by_cases h : (r : Int) < p.ins
      · rw [if_neg (by omega), if_pos h, ph_in hp.ok (by rw [e0]; omega)]
      · rw [if_neg h, ph_none, e0]
        split <;> omega
    · show (List.replicate (p.ins.toNat + 1) (-1 : Int)).getD _ 0 = _
      have := ph_range hp.ok hw
      rw [e0, show cnt (svP p) 0 = 0 from rfl] at this
      rw [lastR, List.getD_eq_getElem?_getD, List.getElem?_replicate, if_pos (by omega)]; rfl
  | k + 1, hk => by
    obtain ⟨h1, h2, h3, h4⟩ := lv_rel hp k (by omega)
    have hc : (svP p).code = p.code := rfl
    have hnd : (svP p).need = neededM p := rfl
    rw [lvAt_succ (by omega)]
    cases hn : nd (svP p).need k
    · have hn' : ¬ (neededM p).getD k false = true := by rw [← hnd]; show ¬ nd _ k = true; rw [hn]; simp
      rw [if_neg hn']
      refine ⟨by rw [cnt_succ_no hn]; exact h1, h2, fun r hr => ?_, fun w hw => ?_⟩
      · rw [heldR, hn, if_neg (by simp)]; exact h3 r hr
      · rw [vals_succ_no hn] at hw
        have : askV (svP p) k w = false := by simp [askV, hn]
        rw [lastR, this, if_neg (by simp)]
        exact h4 w hw
    · have hn' : (neededM p).getD k false = true := hn
      rw [if_pos hn', ← nth_get (show k < p.code.length by omega)]
      obtain ⟨x, hx⟩ : ∃ x, x = nth p.code k := ⟨_, rfl⟩
      have ht := hp.to k (by omega)
      have hop := hp.op.ops k (by rw [hc]; omega) hn
      have hasks := hp.inn.asks k (by rw [hc]; omega) hn
      rw [hc, ← hx] at hop hasks
      rw [← hx] at ht ⊢
      obtain ⟨q, hq⟩ : ∃ q, q = lvAt (lvStart p.ins p.regs.toNat p.code.length) (neededM p) p.code k := ⟨_, rfl⟩
      rw [← hq] at h1 h2 h3 h4 ⊢
      have hra := hasks _ (ask_a hop)
      have hva : q.held.getD x.a.toNat 0 = ph (svP p) (heldR (svP p) k x.a) := by
        rw [h3 _ (by omega), Int.toNat_of_nonneg hra.1]
      have hma : heldR (svP p) k x.a ∈ valsO (svP p) k := held_mem hra.1 k
      obtain ⟨vb, hvb, hmb, hbe⟩ : ∃ vb, lvB q.held x = ph (svP p) vb ∧ vb ∈ valsO (svP p) k ∧ vb = (if x.op = 3 ∨ x.op = 4 then heldR (svP p) k x.b else heldR (svP p) k x.a) := by
        unfold lvB
        by_cases h34 : x.op = 3 ∨ x.op = 4
        · have hrb := hasks _ (ask_b h34)
          rw [if_pos h34, if_pos h34]
          exact ⟨_, by rw [h3 _ (by omega), Int.toNat_of_nonneg hrb.1], held_mem hrb.1 k, rfl⟩
        · rw [if_neg h34, if_neg h34]
          exact ⟨_, hva, hma, rfl⟩
      have e0 : (svP p).ins = p.ins := rfl
      have h0 := hp.ok.ins
      refine ⟨by rw [lvStep_unt, cnt_succ hn]; omega, by simp [lvStep, h2], fun r hr => ?_, fun w hw => ?_⟩
      · show (q.held.set x.to.toNat q.unt.length).getD r 0 = _
        rw [getD_set, heldR, hc, ← hx]
        by_cases e : x.to = r
        · rw [if_pos ⟨by omega, by omega⟩, if_pos ⟨hn, e⟩, ph_nat, h1]
        · rw [if_neg (by omega), if_neg (fun h => e h.2)]
          exact h3 r hr
      · show (((q.unt.set (q.held.getD x.a.toNat 0).toNat k).set (lvB q.held x).toNat k) ++ [-1]).getD (ph (svP p) w).toNat 0 = _
        rw [vals_succ hn, List.mem_append, List.mem_singleton] at hw
        rcases hw with hw | rfl
        · have hrg := ph_range hp.ok hw
          have hiff := askV_iff (S := svP p) (k := k) hn (by rw [hc, ← hx]; exact hop) w
          rw [hc, ← hx, ← hbe] at hiff
          have hlt : (ph (svP p) w).toNat < q.unt.length := by omega
          rw [List.getD_eq_getElem?_getD, List.getElem?_append_left (by simpa using hlt), ← List.getD_eq_getElem?_getD, getD_set, getD_set, lastR, hva, hvb]
          have ra := ph_range hp.ok hma
          have rb := ph_range hp.ok hmb
          by_cases eb : vb = w
          · subst eb
            rw [if_pos ⟨rfl, by simpa using hlt⟩, if_pos (hiff.2 (.inr rfl)), en, if_neg (by omega)]
          · have nb : ¬ ((ph (svP p) vb).toNat = (ph (svP p) w).toNat ∧ (ph (svP p) vb).toNat < (q.unt.set (ph (svP p) (heldR (svP p) k x.a)).toNat ↑k).length) := fun h => eb (ph_inj hp.ok hmb hw (by omega))
            rw [if_neg nb]
            by_cases ea : heldR (svP p) k x.a = w
            · rw [ea, if_pos ⟨rfl, hlt⟩, if_pos (hiff.2 (.inl ea)), en, if_neg (by omega)]
            · rw [if_neg (fun h => ea (ph_inj hp.ok hma hw (by omega))), if_neg (fun h => by
                rcases hiff.1 h with h | h
                · exact ea h
                · exact eb h)]
              exact h4 w hw
        · rw [ph_nat]
          have hidx : ((svP p).ins + 1 + (cnt (svP p) k : Int)).toNat = q.unt.length := by omega
          have hyoung := last_young hp.inn (v := k) k (Nat.le_refl _) (by rw [hc]; omega)
          have hask : askV (svP p) k k = false := by
            cases ha : askV (svP p) k k
            · rfl
            · rcases (askV_iff (S := svP p) (k := k) hn (by rw [hc, ← hx]; exact hop) k).1 ha with h | h
              · rw [hc, ← hx] at h
                have := vals_lt hma; omega
              · rw [hc, ← hx, ← hbe] at h
                have := vals_lt hmb; omega
          rw [hidx, lastR, hask, if_neg (by simp), hyoung, List.getD_eq_getElem?_getD, List.getElem?_append_right (by simp)]
          simp [en]
theorem untO_get (held : List Int) (N : Int) : ∀ (rs unt : List Int) (i : Nat), i < unt.length → (untO held N unt rs).getD i 0 = if (rs.any fun r => decide ((held.getD r.toNat 0).toNat = i)) = true then N else unt.getD i 0
  | [], unt, i, _ => by simp [untO]
  | r :: rs, unt, i, h => by
    rw [untO, untO_get held N rs _ i (by simpa using h), getD_set, List.any_cons]
    by_cases e : (held.getD r.toNat 0).toNat = i
    · have e2 : (held.getD r.toNat 0).toNat = i ∧ (held.getD r.toNat 0).toNat < unt.length := ⟨e, by omega⟩
      rw [decide_eq_true e, Bool.true_or, if_pos e2, if_pos (show true = true from rfl)]
      split <;> rfl
    · rw [decide_eq_false e, Bool.false_or, if_neg (show ¬ ((held.getD r.toNat 0).toNat = i ∧ (held.getD r.toNat 0).toNat < unt.length) from fun h => e h.1)]
theorem unt_rel {p : Pg} (hp : PgOk p) {w : Int} (hw : w ∈ valsO (svP p) p.code.length) : (untM p).getD (ph (svP p) w).toNat 0 = en (untilR (svP p) w) := by
  obtain ⟨h1, h2, h3, h4⟩ := lv_rel hp p.code.length (Nat.le_refl _)
  have hr := ph_range hp.ok hw
  have hc : (svP p).code = p.code := rfl
  unfold untM lvEnd
  rw [untO_get _ _ _ _ _ (by omega), h4 w hw]
  have : (p.outs.any fun r => decide (((lvAt (lvStart p.ins p.regs.toNat p.code.length) (neededM p) p.code p.code.length).held.getD r.toNat 0).toNat = (ph (svP p) w).toNat)) = outV (svP p) w := by
    unfold outV
    rw [Bool.eq_iff_iff, List.any_eq_true, List.any_eq_true, hc]
    constructor
    · rintro ⟨r, hr', he⟩
      have hro := hp.inn.outs r hr'
      refine ⟨r, hr', ?_⟩
      rw [decide_eq_true_eq] at he ⊢
      rw [h3 _ (by omega), Int.toNat_of_nonneg hro.1] at he
      have hm := held_mem (S := svP p) hro.1 p.code.length
      have := ph_range hp.ok hm
      exact ph_inj hp.ok hm hw (by omega)
    · rintro ⟨r, hr', he⟩
      have hro := hp.inn.outs r hr'
      refine ⟨r, hr', ?_⟩
      rw [decide_eq_true_eq] at he ⊢
      rw [h3 _ (by omega), Int.toNat_of_nonneg hro.1, he]
  rw [this]
  unfold untilR
  rw [hc]
  split
  · rw [en, if_neg (by omega)]
  · rfl
theorem en_neg {x : Int} : en x < 0 ↔ x < 0 := by unfold en; split <;> omega
theorem en_eq {x : Int} {k : Nat} : en x = k ↔ x = k := by unfold en; split <;> omega
end Go.Proofs.Sw
