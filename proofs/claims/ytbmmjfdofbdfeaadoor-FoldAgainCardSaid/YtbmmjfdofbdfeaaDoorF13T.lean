/- A part of the proof: what functions of the program answer, of whatever arguments, reckoned with letters by the interpreter's equations. Its conditions stand in each theorem. -/
import Derived.Test.YtbmmjfdofbdfeaaDoorF13S


namespace Go.Proofs.F13
set_option linter.unusedVariables false
set_option linter.unusedSimpArgs false
set_option linter.unusedSectionVars false
open Go.Ab
theorem plain_plain (i : Ins) : plainM (plainM i) = plainM i := by
  obtain ⟨o, t, a, b, c⟩ := i
  by_cases h3 : o = 3
  · by_cases hab : a = b <;> simp [plainM, h3, hab]
  · by_cases h56 : o = 5 ∨ o = 6
    · by_cases h1 : c = 1
      · simp [plainM, h3, h56, h1]
      · by_cases hm1 : c = -1
        · simp [plainM, h3, h56, hm1]
        · by_cases hp : powM c ≠ 0
          · by_cases h5 : o = 5
            · simp [plainM, h1, hm1, hp, h5]
            · have h6 : o = 6 := by omega
              simp [plainM, h1, hm1, hp, h6]
          · have hp' : powM c = 0 := by simpa using hp
            simp [plainM, h3, h56, h1, hm1, hp']
    · simp [plainM, h3, h56]
def GoodR : List Ins → Prop
  | [] => True
  | x :: st => plainM x = x ∧ nothing x = false ∧ (∀ y st', st = y :: st' → meltM y x = none) ∧ GoodR st
theorem melt_plain {y x z : Ins} (h : meltM y x = some z) : plainM z = z := by
  unfold meltM at h
  split at h
  · cases h
  · obtain ⟨w, _, rfl⟩ := Option.map_eq_some_iff.1 h
    exact plain_plain _
theorem push_good : ∀ (st : List Ins) (b : Ins), plainM b = b → GoodR st → GoodR (push st b)
  | [], b, hb, _ => by
    by_cases hn : nothing b = true
    · rw [push_nothing hn]; trivial
    · have hn : nothing b = false := by simpa using hn
      rw [push_nil hn]
      exact ⟨hb, hn, fun y st' h => (by cases h), trivial⟩
  | x :: st, b, hb, hg => by
    by_cases hn : nothing b = true
    · rw [push_nothing hn]; exact hg
    · have hn : nothing b = false := by simpa using hn
      cases hm : meltM x b with
      | none =>
        rw [push_none hn hm]
        exact ⟨hb, hn, fun y st' h => by cases h; exact hm, hg⟩
      | some y =>
        rw [push_some hn hm]
        exact push_good st y (melt_plain hm) hg.2.2.2
theorem pass_goodR : ∀ (code st : List Ins), GoodR st → GoodR (code.foldl (fun st i => push st (plainM i)) st)
  | [], _, h => h
  | i :: code, st, h => pass_goodR code _ (push_good st _ (plain_plain i) h)
theorem pass_same : ∀ (st : List Ins), GoodR st → st.reverse.foldl (fun st i => push st (plainM i)) [] = st
  | [], _ => rfl
  | x :: st, h => by
    rw [List.reverse_cons, List.foldl_append, pass_same st h.2.2.2]
    show push st (plainM x) = x :: st
    rw [h.1]
    cases st with
    | nil => exact push_nil h.2.1
    | cons y st' => exact push_none h.2.1 (h.2.2.1 y st' rfl)
theorem passC_passC (code : List Ins) : passC (passC code) = passC code := by
  unfold passC
  rw [pass_same _ (pass_goodR code [] trivial)]
theorem push_mem {regs : Int} : ∀ (st : List Ins) (b : Ins), (∀ i ∈ st, mayM i regs = true) → mayM b regs = true → ∀ i ∈ push st b, mayM i regs = true
  | [], b, _, hb => by
    by_cases hn : nothing b = true
    · rw [push_nothing hn]; simp
    · rw [push_nil (by simpa using hn)]; simpa using hb
  | x :: st, b, h, hb => by
    by_cases hn : nothing b = true
    · rw [push_nothing hn]; exact h
    · have hn : nothing b = false := by simpa using hn
      cases hm : meltM x b with
      | none =>
        rw [push_none hn hm]
        intro i hi
        rcases List.mem_cons.1 hi with rfl | hi
        · exact hb
        · exact h i hi
      | some y =>
        rw [push_some hn hm]
        exact push_mem st y (fun i hi => h i (by simp [hi])) (melt_may (h x (by simp)) hb hm)
theorem passR_mem {regs : Int} : ∀ (code st : List Ins), (∀ i ∈ code, mayM i regs = true) → (∀ i ∈ st, mayM i regs = true) → ∀ i ∈ code.foldl (fun st i => push st (plainM i)) st, mayM i regs = true
  | [], _, _, h => h
  | i :: code, st, hc, h => passR_mem code _ (fun j hj => hc j (by simp [hj])) (push_mem st _ h (plain_may (hc i (by simp))))
theorem push_len : ∀ (st : List Ins) (b : Ins), (push st b).length ≤ st.length + 1
  | [], b => by
    by_cases hn : nothing b = true
    · rw [push_nothing hn]; simp
    · rw [push_nil (by simpa using hn)]; simp
  | x :: st, b => by
    by_cases hn : nothing b = true
    · rw [push_nothing hn]; simp
    · have hn : nothing b = false := by simpa using hn
      cases hm : meltM x b with
      | none => rw [push_none hn hm]; simp
      | some y =>
        rw [push_some hn hm]
        have := push_len st y
        simp only [List.length_cons]
        omega
theorem passR_len : ∀ (code st : List Ins), (code.foldl (fun st i => push st (plainM i)) st).length ≤ st.length + code.length
  | [], _ => Nat.le_refl _
  | i :: code, st => by
    have h1 := passR_len code (push st (plainM i))
    have h2 := push_len st (plainM i)
    simp only [List.foldl_cons, List.length_cons]
    omega
theorem passC_len (code : List Ins) : (passC code).length ≤ code.length := by
  have := passR_len code []
  unfold passC
  simpa using this
theorem passM_right {p : Pg} (h : rightM p = true) : rightM (passM p) = true := by
  simp only [rightM, Bool.and_eq_true] at h ⊢
  obtain ⟨⟨h1, h2⟩, h3⟩ := h
  have hl := passC_len p.code
  refine ⟨⟨?_, h2⟩, ?_⟩
  · unfold headM at h1 ⊢
    rw [decide_eq_true_eq] at h1 ⊢
    exact ⟨h1.1, h1.2.1, h1.2.2.1, by show (passC p.code).length ≤ 16384; omega, h1.2.2.2.2⟩
  · unfold codeM passM
    rw [List.all_eq_true]
    intro i hi
    exact passR_mem p.code [] (fun j hj => List.all_eq_true.1 h3 j hj) (by simp) i (by simpa [passC] using hi)
/-- How many instructions of an operation there are. -/
def cnt (q : Int) (l : List Ins) : Nat := l.countP fun i => decide (i.op = q)
theorem plain_op {i : Ins} {q : Int} (hq : q = 5 ∨ q = 6) (h : (plainM i).op = q) : i.op = q := by
  revert h
  unfold plainM
  repeat' split
  all_goals (intro h; first | exact h | (simp at h; omega))
  all_goals (simp at h; split at h <;> omega)
theorem melt_op {y x z : Ins} {q : Int} (hq : q = 5 ∨ q = 6) (h : meltM y x = some z) (hz : z.op = q) : y.op = q ∨ x.op = q := by
  unfold meltM at h
  split at h
  · cases h
  · obtain ⟨⟨o, c⟩, ht, rfl⟩ := Option.map_eq_some_iff.1 h
    have ho : o = q := plain_op hq hz
    unfold together at ht
    repeat' (split at ht <;> first | (simp only [Option.some.injEq, Prod.mk.injEq, reduceCtorEq] at ht) | skip)
    all_goals omega
def one1 (q : Int) (b : Ins) : Nat := if b.op = q then 1 else 0
theorem cnt_cons (q : Int) (x : Ins) (l : List Ins) : cnt q (x :: l) = cnt q l + one1 q x := by
  unfold cnt one1
  rw [List.countP_cons]
  simp
theorem push_cnt {q : Int} (hq : q = 5 ∨ q = 6) : ∀ (st : List Ins) (b : Ins), cnt q (push st b) ≤ cnt q st + one1 q b
  | [], b => by
    by_cases hn : nothing b = true
    · rw [push_nothing hn]; omega
    · rw [push_nil (by simpa using hn), cnt_cons]; omega
  | x :: st, b => by
    by_cases hn : nothing b = true
    · rw [push_nothing hn]; omega
    · have hn : nothing b = false := by simpa using hn
      cases hm : meltM x b with
      | none => rw [push_none hn hm, cnt_cons q b]; omega
      | some y =>
        rw [push_some hn hm, cnt_cons]
        have h1 := push_cnt hq st y
        have h2 : one1 q y ≤ one1 q x + one1 q b := by
          unfold one1
          by_cases hy : y.op = q
          · rcases melt_op hq hm hy with h | h <;> simp [h] <;> split <;> omega
          · simp [hy]
        omega
theorem passR_cnt {q : Int} (hq : q = 5 ∨ q = 6) : ∀ (code st : List Ins), cnt q (code.foldl (fun st i => push st (plainM i)) st) ≤ cnt q st + cnt q code
  | [], st => by simp [cnt]
  | i :: code, st => by
    have h1 := passR_cnt hq code (push st (plainM i))
    have h2 := push_cnt hq st (plainM i)
    have h3 : one1 q (plainM i) ≤ one1 q i := by
      unfold one1
      by_cases hy : (plainM i).op = q
      · simp [plain_op hq hy]; split <;> omega
      · simp [hy]
    rw [List.foldl_cons, cnt_cons]
    omega
theorem passC_cnt {q : Int} (hq : q = 5 ∨ q = 6) (code : List Ins) : cnt q (passC code) ≤ cnt q code := by
  have := passR_cnt hq code []
  unfold passC
  have e : ∀ l : List Ins, cnt q l.reverse = cnt q l := fun l => by unfold cnt; simp
  rw [e]
  simpa [cnt] using this
theorem may_mono {i : Ins} {r s : Int} (h : mayM i r = true) (hr : r ≤ s) : mayM i s = true := by
  rw [may_iff] at h ⊢
  obtain ⟨h1, h2, h3, h4⟩ := h
  exact ⟨by omega, h2, by omega, fun h => by have := h4 h; omega⟩
/-- What is true of the instructions that the pass leaves, one after the other. -/
theorem good_at : ∀ (st : List Ins), GoodR st → ∀ (pre rest : List Ins) (i : Ins), st.reverse = pre ++ i :: rest → plainM i = i ∧ nothing i = false ∧ ∀ pre' y, pre = pre' ++ [y] → meltM y i = none := by
  intro st
  induction st with
  | nil => intro _ pre rest i h; simp at h
  | cons x st ih =>
    intro hg pre rest i h
    rw [List.reverse_cons] at h
    rcases List.eq_nil_or_concat rest with rfl | ⟨r', z, rfl⟩
    · have h' : st.reverse ++ [x] = pre ++ [i] := h
      obtain ⟨h1, h2⟩ := List.append_inj' h' rfl
      injection h2 with h2
      subst h2
      refine ⟨hg.1, hg.2.1, fun pre' y hp => ?_⟩
      have h3 : st = y :: pre'.reverse := by
        have := congrArg List.reverse (h1.trans hp)
        simpa using this
      exact hg.2.2.1 y _ h3
    · have h' : st.reverse ++ [x] = (pre ++ i :: r') ++ [z] := by simpa using h
      exact ih hg.2.2.2 pre r' i (List.append_inj' h' rfl).1
end Go.Proofs.F13
