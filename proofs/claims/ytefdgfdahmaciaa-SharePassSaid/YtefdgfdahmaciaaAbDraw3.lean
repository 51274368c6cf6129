/- A part of the proof: an interpreter on abstract values for the program's form, and that its answers are right. It speaks of every program of the model's; no condition. -/
import Derived.Test.YtefdgfdahmaciaaAbDraw2
namespace Go.Ab
set_option linter.unusedVariables false
set_option linter.unusedSimpArgs false

/-! ### what the checks say -/

theorem edgeMask_bit {ms : List Nat} {i : Nat} : ∀ (es : List Edge), (edgeMask ms es).testBit i = true → ∃ e ∈ es, Region.binds .any e = true ∧ (e.on = i ∨ (ms.getD e.on 0).testBit i = true) := by
  intro es
  induction es with
  | nil => intro h; simp [edgeMask] at h
  | cons e es ih =>
    intro h
    unfold edgeMask at h
    split at h
    · rename_i hb
      simp only [Nat.testBit_or, Bool.or_eq_true] at h
      rcases h with (h | h) | h
      · rw [Nat.testBit_two_pow] at h
        exact ⟨e, by simp, hb, .inl (of_decide_eq_true h)⟩
      · exact ⟨e, by simp, hb, .inr h⟩
      · obtain ⟨e', h1, h2⟩ := ih h
        exact ⟨e', by simp [h1], h2⟩
    · obtain ⟨e', h1, h2⟩ := ih h
      exact ⟨e', by simp [h1], h2⟩

theorem masksOk_spec {ms : List Nat} : ∀ (os : List Oper) (j : Nat), masksOk ms os j = true → ∀ k o, os[k]? = some o →
    ms.getD (j + k) 0 = edgeMask ms o.after.toList ∧ ∀ e ∈ o.after.toList, Region.binds .any e = true → e.on < j + k := by
  intro os
  induction os with
  | nil => intro j _ k o h; simp at h
  | cons o os ih =>
    intro j h k o' hk
    simp only [masksOk, Bool.and_eq_true, decide_eq_true_eq, List.all_eq_true, Bool.or_eq_true, Bool.not_eq_true'] at h
    cases k with
    | zero =>
      simp at hk
      subst hk
      exact ⟨h.1.1, fun e he hb => (h.1.2 e he).resolve_left (by simp [hb])⟩
    | succ k =>
      have := ih (j + 1) h.2 k o' (by simpa using hk)
      rw [show j + 1 + k = j + (k + 1) by omega] at this
      exact this

theorem tmpsOk_spec {ms : List Nat} {rd : List Tmp} {j : Nat} : ∀ (os : List Oper) (i : Nat), tmpsOk ms rd j os i = true → ∀ k o d, os[k]? = some o → o.dst = some d → d ∈ rd →
    (ms.getD j 0).testBit (i + k) = true ∨ (ms.getD (i + k) 0).testBit j = true := by
  intro os
  induction os with
  | nil => intro j _ k o d h; simp at h
  | cons o os ih =>
    intro i h k o' d hk hd hm
    simp only [tmpsOk, Bool.and_eq_true] at h
    cases k with
    | zero =>
      simp at hk
      subst hk
      have := h.1
      rw [hd] at this
      simp only [Bool.or_eq_true, Bool.not_eq_true', Nat.add_zero] at this ⊢
      rcases this with (h | h) | h
      · rw [List.contains_iff_mem.2 hm] at h; cases h
      · exact .inl h
      · exact .inr h
    | succ k =>
      have := ih (i + 1) h.2 k o' d (by simpa using hk) hd hm
      rw [show i + 1 + k = i + (k + 1) by omega] at this
      exact this

theorem readsOk_spec {ms : List Nat} {ops : Array Oper} : ∀ (os : List Oper) (j : Nat), readsOk ms ops os j = true → ∀ k o, os[k]? = some o → tmpsOk ms (readsOf ops o) (j + k) ops.toList 0 = true := by
  intro os
  induction os with
  | nil => intro j _ k o h; simp at h
  | cons o os ih =>
    intro j h k o' hk
    simp only [readsOk, Bool.and_eq_true] at h
    cases k with
    | zero => simp at hk; subst hk; exact h.1
    | succ k =>
      have := ih (j + 1) h.2 k o' (by simpa using hk)
      rw [show j + 1 + k = j + (k + 1) by omega] at this
      exact this

theorem dstsOk_spec : ∀ (os : List Oper), dstsOk os = true → ∀ (i j : Nat) (o o' : Oper) (d : Tmp), os[i]? = some o → os[j]? = some o' → o.dst = some d → o'.dst = some d → i = j := by
  intro os
  induction os with
  | nil => intro _ i j o o' d h; simp at h
  | cons o os ih =>
    intro h i j o1 o2 d h1 h2 e1 e2
    simp only [dstsOk, Bool.and_eq_true] at h
    cases i with
    | zero =>
      cases j with
      | zero => rfl
      | succ j =>
        simp at h1 h2
        subst h1
        rw [e1] at h
        simp only [List.all_eq_true, decide_eq_true_eq] at h
        exact absurd e2 (h.1 o2 (List.mem_of_getElem? h2))
    | succ i =>
      cases j with
      | zero =>
        simp at h1 h2
        subst h2
        rw [e2] at h
        simp only [List.all_eq_true, decide_eq_true_eq] at h
        exact absurd e1 (h.1 o1 (List.mem_of_getElem? h1))
      | succ j => exact congrArg Nat.succ (ih h.2 i j o1 o2 d (by simpa using h1) (by simpa using h2) e1 e2)

/-! ### what has been run, whatever the order -/

noncomputable def applyL (L : Nat → Bool) : Nat → List Rec → Fr → Fr
  | _, [], F => F
  | i, r :: rs, F => applyL L (i + 1) rs (if L i = true then setD F r.o.dst r.val else F)

def heapL (L : Nat → Bool) : Nat → List Rec → Heap → Heap
  | _, [], H => H
  | i, r :: rs, H => heapL L (i + 1) rs (if L i = true ∧ r.eff = true then r.G' else H)

theorem setD_n {F : Fr} {d : Option Tmp} {v : AV} : (setD F d v).n = F.n := by cases d <;> simp [setD, Fr.n_set]
theorem setD_ok {F : Fr} {d : Option Tmp} {v : AV} {t : Nat} : (setD F d v).ok t = F.ok t := by cases d <;> simp [setD, Fr.ok_set]

theorem setD_get {F : Fr} {d : Option Tmp} {v : AV} {t : Nat} : (setD F d v).get t = if d = some t ∧ F.ok t = true then v else F.get t := by
  cases d with
  | none => simp [setD]
  | some d => simp only [setD, Fr.get_set, Option.some.injEq]

theorem applyL_n {L : Nat → Bool} : ∀ (rs : List Rec) (i : Nat) (F : Fr), (applyL L i rs F).n = F.n := by
  intro rs
  induction rs with
  | nil => intro i F; rfl
  | cons r rs ih =>
    intro i F
    rw [applyL, ih]
    split
    · exact setD_n
    · rfl
theorem applyL_ok {L : Nat → Bool} {t : Nat} : ∀ (rs : List Rec) (i : Nat) (F : Fr), (applyL L i rs F).ok t = F.ok t := by
  intro rs
  induction rs with
  | nil => intro i F; rfl
  | cons r rs ih =>
    intro i F
    rw [applyL, ih]
    split
    · exact setD_ok
    · rfl

/-- Nobody has set it. -/
theorem applyL_not {L : Nat → Bool} {t : Nat} : ∀ (rs : List Rec) (i : Nat) (F : Fr), (∀ k r, rs[k]? = some r → r.o.dst = some t → L (i + k) = false) → (applyL L i rs F).get t = F.get t := by
  intro rs
  induction rs with
  | nil => intro i F _; rfl
  | cons r rs ih =>
    intro i F h
    rw [applyL, ih]
    · split
      · rename_i hL
        rw [setD_get]
        split
        · rename_i hd
          have := h 0 r rfl hd.1
          rw [Nat.add_zero, hL] at this
          cases this
        · rfl
      · rfl
    · intro k r' hk hd
      have := h (k + 1) r' (by simpa using hk) hd
      rwa [show i + (k + 1) = i + 1 + k by omega] at this

/-- No such place. -/
theorem applyL_bad {L : Nat → Bool} {t : Nat} : ∀ (rs : List Rec) (i : Nat) (F : Fr), F.ok t = false → (applyL L i rs F).get t = F.get t := by
  intro rs
  induction rs with
  | nil => intro i F _; rfl
  | cons r rs ih =>
    intro i F h
    rw [applyL, ih]
    · split
      · rw [setD_get, if_neg (by rintro ⟨_, h'⟩; rw [h] at h'; cases h')]
      · rfl
    · split
      · rw [setD_ok]; exact h
      · exact h

/-- The one who sets it has run. -/
theorem applyL_set {L : Nat → Bool} {t : Nat} : ∀ (rs : List Rec) (i : Nat) (F : Fr) (k : Nat) (r : Rec), rs[k]? = some r → r.o.dst = some t → L (i + k) = true → F.ok t = true →
    (∀ k' r', rs[k']? = some r' → r'.o.dst = some t → k' = k) → (applyL L i rs F).get t = r.val := by
  intro rs
  induction rs with
  | nil => intro i F k r h; simp at h
  | cons q rs ih =>
    intro i F k r hk hd hL hlt hu
    rw [applyL]
    cases k with
    | zero =>
      simp at hk
      subst hk
      rw [applyL_not]
      · rw [if_pos (by simpa using hL), setD_get, if_pos ⟨hd, hlt⟩]
      · intro k' r' hk' hd'
        have := hu (k' + 1) r' (by simpa using hk') hd'
        omega
    | succ k =>
      refine ih (i + 1) _ k r (by simpa using hk) hd (by rwa [show i + 1 + k = i + (k + 1) by omega]) ?_ ?_
      · split
        · rw [setD_ok]; exact hlt
        · exact hlt
      · intro k' r' hk' hd'
        have := hu (k' + 1) r' (by simpa using hk') hd'
        omega

theorem heapL_congr {L L' : Nat → Bool} : ∀ (rs : List Rec) (i : Nat) (H : Heap), (∀ k r, rs[k]? = some r → r.eff = true → L (i + k) = L' (i + k)) → heapL L i rs H = heapL L' i rs H := by
  intro rs
  induction rs with
  | nil => intro i H _; rfl
  | cons r rs ih =>
    intro i H h
    rw [heapL, heapL, ih]
    · congr 1
      by_cases hr : r.eff = true
      · rw [show L i = L' i from h 0 r rfl hr]
      · simp [hr]
    · intro k r' hk he
      have := h (k + 1) r' (by simpa using hk) he
      rwa [show i + (k + 1) = i + 1 + k by omega] at this

/-- The last effect so far has made the heap. -/
theorem heapL_last {L : Nat → Bool} : ∀ (rs : List Rec) (i : Nat) (H : Heap),
    (heapL L i rs H = H ∧ ∀ k r, rs[k]? = some r → r.eff = true → L (i + k) = false) ∨
    (∃ k r, rs[k]? = some r ∧ r.eff = true ∧ L (i + k) = true ∧ heapL L i rs H = r.G' ∧ ∀ k' r', rs[k']? = some r' → r'.eff = true → k < k' → L (i + k') = false) := by
  intro rs
  induction rs with
  | nil => intro i H; exact .inl ⟨rfl, fun k r h => by simp at h⟩
  | cons r rs ih =>
    intro i H
    rw [heapL]
    rcases ih (i + 1) (if L i = true ∧ r.eff = true then r.G' else H) with ⟨h1, h2⟩ | ⟨k, q, h1, h2, h3, h4, h5⟩
    · by_cases hc : L i = true ∧ r.eff = true
      · refine .inr ⟨0, r, rfl, hc.2, by simpa using hc.1, by rw [h1, if_pos hc], fun k' r' hk' he hlt => ?_⟩
        cases k' with
        | zero => omega
        | succ k' =>
          have := h2 k' r' (by simpa using hk') he
          rwa [show i + 1 + k' = i + (k' + 1) by omega] at this
      · refine .inl ⟨by rw [h1, if_neg hc], fun k' r' hk' he => ?_⟩
        cases k' with
        | zero =>
          simp at hk'
          subst hk'
          have : ¬ L i = true := fun h => hc ⟨h, he⟩
          simpa using this
        | succ k' =>
          have := h2 k' r' (by simpa using hk') he
          rwa [show i + 1 + k' = i + (k' + 1) by omega] at this
    · refine .inr ⟨k + 1, q, by simpa using h1, h2, by rwa [show i + (k + 1) = i + 1 + k by omega], h4, fun k' r' hk' he hlt => ?_⟩
      cases k' with
      | zero => omega
      | succ k' =>
        have := h5 k' r' (by simpa using hk') he (by omega)
        rwa [show i + 1 + k' = i + (k' + 1) by omega] at this

theorem heapL_done {L : Nat → Bool} : ∀ (rs : List Rec) (i : Nat) (H : Heap), (∀ k, k < rs.length → L (i + k) = true) → heapL L i rs H = lastH rs H := by
  intro rs
  induction rs with
  | nil => intro i H _; rfl
  | cons r rs ih =>
    intro i H h
    rw [heapL, lastH, ih]
    · rw [show L i = true from h 0 (by simp)]
      simp
    · intro k hk
      have := h (k + 1) (by simpa using hk)
      rwa [show i + (k + 1) = i + 1 + k by omega] at this

theorem applyL_done {L : Nat → Bool} : ∀ (rs : List Rec) (i : Nat) (F : Fr), (∀ k, k < rs.length → L (i + k) = true) → applyL L i rs F = lastF rs F := by
  intro rs
  induction rs with
  | nil => intro i H _; rfl
  | cons r rs ih =>
    intro i H h
    rw [applyL, lastF, ih]
    · rw [show L i = true from h 0 (by simp)]
      simp
    · intro k hk
      have := h (k + 1) (by simpa using hk)
      rwa [show i + (k + 1) = i + 1 + k by omega] at this



theorem freeCall_exec [Globals] {P : Program} {cx : Cx} {r i : Nat} {F : Fr} {o : Oper} {v : AV} (h : freeCall cx r i (evalA F) o = some v) (K : Heap) : execA P cx r i F K o = some (v, K) := by
  unfold freeCall at h
  split at h <;> first | (cases h; done) | skip
  rename_i c hc
  split at h <;> first | (cases h; done) | skip
  rename_i hcond
  obtain ⟨hp, hraw, hkeep, hfrm⟩ := hcond
  have hpc : doCall cx r i c.1 c.2 K = some (v, K) := by
    obtain ⟨x, hx, h⟩ := Option.bind_eq_some_iff.1 h
    obtain ⟨s, hs, rfl⟩ := Option.map_eq_some_iff.1 h
    unfold doCall pureCall
    rw [if_neg (by rw [hfrm]; simp), if_neg (by rw [hraw]; simp), if_neg (by rw [hkeep]; simp), if_pos hp, hx]
    simp [hs]
  unfold execA
  have hno : pureOp P (evalA F) K o = none ∧ effOp P (cx.hints.slot cx.fn r i) (evalA F) K o = none ∧ yieldA (evalA F) o = none := by
    unfold calleeA at hc
    split at hc <;> first | (cases hc; done) | skip
    rename_i f args at_ ho
    refine ⟨by simp only [pureOp, ho], by simp only [effOp, ho], ?_⟩
    unfold yieldA
    rw [ho]
    simp only
    split at hc
    · rename_i e; rw [e]
    · rename_i e; rw [e]
    · cases hc
  rw [hno.1, hno.2.1, hno.2.2, hc]
  exact hpc

theorem free_exec [Globals] {P : Program} {cx : Cx} {r i : Nat} {F : Fr} {o : Oper} {v : AV} (h : (match freeBuild P (evalA F) o with | some v => some v | none => freeCall cx r i (evalA F) o) = some v) (K : Heap) : execD P cx r i F K o = some (v, K) := by
  unfold execD
  split at h
  · rename_i x hx
    injection h with h
    subst h
    rw [hx]
  · rename_i hx
    rw [hx]
    exact freeCall_exec h K

/-- What the canonical run has noted. -/
theorem drawGo_spec [Globals] {P : Program} {cx : Cx} {r : Nat} {ops : Array Oper} : ∀ (os : List Oper) (i : Nat) (F : Fr) (H : Heap) (rs : List Rec), drawGo P cx r ops os i F H = some rs →
    rs.length = os.length ∧ ∀ k q, rs[k]? = some q → os[k]? = some q.o ∧ q.F = applyL (fun n => decide (n < i + k)) i rs F ∧ q.G = heapL (fun n => decide (n < i + k)) i rs H ∧
      (q.run = false → wantedA ops q.o q.F = some false ∧ q.val = .tup [] ∧ q.eff = false) ∧
      (q.run = true → wantedA ops q.o q.F = some true ∧ (q.eff = true → execD P cx r (i + k) q.F q.G q.o = some (q.val, q.G')) ∧ (q.free = true → ∀ K, execD P cx r (i + k) q.F K q.o = some (q.val, K))) := by
  intro os
  induction os with
  | nil =>
    intro i F H rs h
    injection h with h
    subst h
    exact ⟨rfl, fun k q h => by simp at h⟩
  | cons o os ih =>
    have key : ∀ (i : Nat) (F : Fr) (H : Heap) (q : Rec) (rs' : List Rec), q.o = o → q.F = F → q.G = H → drawGo P cx r ops os (i + 1) (setD F o.dst q.val) (if q.eff = true then q.G' else H) = some rs' →
        (q.run = false → wantedA ops q.o q.F = some false ∧ q.val = .tup [] ∧ q.eff = false) →
        (q.run = true → wantedA ops q.o q.F = some true ∧ (q.eff = true → execD P cx r i q.F q.G q.o = some (q.val, q.G')) ∧ (q.free = true → ∀ K, execD P cx r i q.F K q.o = some (q.val, K))) →
        (q :: rs').length = (o :: os).length ∧ ∀ k p, (q :: rs')[k]? = some p → (o :: os)[k]? = some p.o ∧ p.F = applyL (fun n => decide (n < i + k)) i (q :: rs') F ∧ p.G = heapL (fun n => decide (n < i + k)) i (q :: rs') H ∧
          (p.run = false → wantedA ops p.o p.F = some false ∧ p.val = .tup [] ∧ p.eff = false) ∧
          (p.run = true → wantedA ops p.o p.F = some true ∧ (p.eff = true → execD P cx r (i + k) p.F p.G p.o = some (p.val, p.G')) ∧ (p.free = true → ∀ K, execD P cx r (i + k) p.F K p.o = some (p.val, K))) := by
      intro i F H q rs' e1 e2 e3 hd h0 h1
      obtain ⟨hl, hr⟩ := ih (i + 1) _ _ rs' hd
      refine ⟨by simp [hl], fun k p hk => ?_⟩
      cases k with
      | zero =>
        simp at hk
        subst hk
        refine ⟨by simp [e1], ?_, ?_, h0, h1⟩
        · rw [e2, applyL]
          symm
          have hno : ∀ (rs : List Rec) (i' : Nat) (F : Fr), i ≤ i' → applyL (fun n => decide (n < i + 0)) i' rs F = F := by
            intro rs
            induction rs with
            | nil => intro i' F _; rfl
            | cons r rs ih => intro i' F hi; rw [applyL, ih (i' + 1) _ (by omega)]; simp; omega
          rw [hno _ _ _ (by omega)]
          simp
        · rw [e3, heapL]
          symm
          have hno : ∀ (rs : List Rec) (i' : Nat) (F : Heap), i ≤ i' → heapL (fun n => decide (n < i + 0)) i' rs F = F := by
            intro rs
            induction rs with
            | nil => intro i' F _; rfl
            | cons r rs ih => intro i' F hi; rw [heapL, ih (i' + 1) _ (by omega)]; simp; omega
          rw [hno _ _ _ (by omega)]
          simp
      | succ k =>
        simp at hk
        obtain ⟨h1, h2, h3, h4, h5⟩ := hr k p hk
        refine ⟨by simpa using h1, ?_, ?_, h4, fun hr => ⟨(h5 hr).1, fun he => by rw [show i + (k + 1) = i + 1 + k by omega]; exact (h5 hr).2.1 he, fun hf => by rw [show i + (k + 1) = i + 1 + k by omega]; exact (h5 hr).2.2 hf⟩⟩
        · rw [h2, applyL, show i + (k + 1) = i + 1 + k by omega, e1]
          congr 1
          rw [if_pos (by simp; omega)]
        · rw [h3, heapL, show i + (k + 1) = i + 1 + k by omega]
          congr 1
          have : decide (i < i + 1 + k) = true := by simp; omega
          rw [this]
          simp
    intro i F H rs h
    simp only [drawGo] at h
    split at h
    · cases h
    · rename_i hw
      obtain ⟨rs', hrs, rfl⟩ := Option.map_eq_some_iff.1 h
      exact key i F H ⟨o, .tup [], false, false, false, F, H, H⟩ rs' rfl rfl rfl (by simpa using hrs) (fun _ => ⟨hw, rfl, rfl⟩) (fun h => by cases h)
    · rename_i hw
      split at h
      · rename_i v hp
        obtain ⟨rs', hrs, rfl⟩ := Option.map_eq_some_iff.1 h
        exact key i F H ⟨o, v, false, true, false, F, H, H⟩ rs' rfl rfl rfl (by simpa using hrs) (fun h => by cases h) (fun _ => ⟨hw, (fun h => by cases h), (fun h => by cases h)⟩)
      · split at h
        · rename_i v hv
          obtain ⟨rs', hrs, rfl⟩ := Option.map_eq_some_iff.1 h
          exact key i F H ⟨o, v, false, true, true, F, H, H⟩ rs' rfl rfl rfl (by simpa using hrs) (fun h => by cases h) (fun _ => ⟨hw, (fun h => by cases h), fun _ K => free_exec hv K⟩)
        split at h
        · rename_i s he
          obtain ⟨rs', hrs, rfl⟩ := Option.map_eq_some_iff.1 h
          exact key i F H ⟨o, s.1, true, true, false, F, H, s.2⟩ rs' rfl rfl rfl (by simpa using hrs) (fun h => by cases h) (fun _ => ⟨hw, (fun _ => he), (fun h => by cases h)⟩)
        · cases h

theorem effsOk_spec {ms : List Nat} : ∀ (rs : List Rec) (j : Nat) (es : List Nat), effsOk ms rs j es = true → ∀ k r, rs[k]? = some r → r.eff = true →
    (∀ i ∈ es, (ms.getD (j + k) 0).testBit i = true) ∧ ∀ k' r', rs[k']? = some r' → r'.eff = true → k' < k → (ms.getD (j + k) 0).testBit (j + k') = true := by
  intro rs
  induction rs with
  | nil => intro j es _ k r h; simp at h
  | cons q rs ih =>
    intro j es h k r hk he
    simp only [effsOk] at h
    cases k with
    | zero =>
      simp at hk
      subst hk
      rw [if_pos he] at h
      simp only [Bool.and_eq_true, List.all_eq_true] at h
      exact ⟨h.1, fun k' r' _ _ hlt => by omega⟩
    | succ k =>
      have hk' : rs[k]? = some r := by simpa using hk
      by_cases hq : q.eff = true
      · rw [if_pos hq] at h
        simp only [Bool.and_eq_true] at h
        obtain ⟨h1, h2⟩ := ih (j + 1) (j :: es) h.2 k r hk' he
        rw [show j + 1 + k = j + (k + 1) by omega] at h1 h2
        refine ⟨fun i hi => h1 i (by simp [hi]), fun k' r' hk2 he2 hlt => ?_⟩
        cases k' with
        | zero => exact h1 j (by simp)
        | succ k' =>
          have := h2 k' r' (by simpa using hk2) he2 (by omega)
          rwa [show j + 1 + k' = j + (k' + 1) by omega] at this
      · rw [if_neg hq] at h
        obtain ⟨h1, h2⟩ := ih (j + 1) es h k r hk' he
        rw [show j + 1 + k = j + (k + 1) by omega] at h1 h2
        refine ⟨h1, fun k' r' hk2 he2 hlt => ?_⟩
        cases k' with
        | zero =>
          simp at hk2
          subst hk2
          exact absurd he2 hq
        | succ k' =>
          have := h2 k' r' (by simpa using hk2) he2 (by omega)
          rwa [show j + 1 + k' = j + (k' + 1) by omega] at this

theorem sameAt_spec [Globals] {P : Program} {r : Rec} {K : Heap} (h : sameAt P r K = true) : pureOp P (evalA r.F) K r.o = some r.val := by
  unfold sameAt at h
  split at h
  · rename_i v hv
    rw [hv, AV.eq_of_eqb _ _ h]
  · cases h

theorem lastOk_false {m : Nat} : ∀ (rs : List Rec) (k : Nat), lastOk m rs k = false → ∃ i r, rs[i]? = some r ∧ r.eff = true ∧ m.testBit (k + i) = true := by
  intro rs
  induction rs with
  | nil => intro k h; cases h
  | cons r rs ih =>
    intro k h
    simp only [lastOk, Bool.and_eq_false_iff] at h
    rcases h with h | h
    · simp only [Bool.or_eq_false_iff, Bool.not_eq_false'] at h
      exact ⟨0, r, rfl, by simpa using h.1, by simpa using h.2⟩
    · obtain ⟨i, q, h1, h2, h3⟩ := ih (k + 1) h
      exact ⟨i + 1, q, by simpa using h1, h2, by rwa [show k + (i + 1) = k + 1 + i by omega]⟩

theorem readAll_spec [Globals] {P : Program} {ms : List Nat} {r : Rec} {j : Nat} : ∀ (rs : List Rec) (k0 : Nat), readAll P ms r j rs k0 = true → ∀ k q, rs[k]? = some q → q.eff = true →
    (ms.getD (k0 + k) 0).testBit j = true ∨ (∃ i q', rs[i]? = some q' ∧ q'.eff = true ∧ k < i ∧ (ms.getD j 0).testBit (k0 + i) = true) ∨ sameAt P r q.G' = true := by
  intro rs
  induction rs with
  | nil => intro k0 _ k q h; simp at h
  | cons q0 rs ih =>
    intro k0 h k q hk he
    simp only [readAll, Bool.and_eq_true] at h
    cases k with
    | zero =>
      simp at hk
      subst hk
      have h1 := h.1
      rw [if_pos he] at h1
      simp only [Bool.or_eq_true, Bool.not_eq_true'] at h1
      rcases h1 with (h1 | h1) | h1
      · exact .inl h1
      · obtain ⟨i, q', h2, h3, h4⟩ := lastOk_false _ _ h1
        exact .inr (.inl ⟨i + 1, q', by simpa using h2, h3, by omega, by rwa [show k0 + (i + 1) = k0 + 1 + i by omega]⟩)
      · exact .inr (.inr h1)
    | succ k =>
      have := ih (k0 + 1) h.2 k q (by simpa using hk) he
      rw [show k0 + 1 + k = k0 + (k + 1) by omega] at this
      rcases this with h1 | ⟨i, q', h2, h3, h4, h5⟩ | h1
      · exact .inl h1
      · exact .inr (.inl ⟨i + 1, q', by simpa using h2, h3, by omega, by rwa [show k0 + (i + 1) = k0 + 1 + i by omega]⟩)
      · exact .inr (.inr h1)

theorem readsAll_spec [Globals] {P : Program} {ms : List Nat} {H : Heap} {all : List Rec} : ∀ (rs : List Rec) (j : Nat), readsAll P ms H all rs j = true → ∀ k r, rs[k]? = some r → r.eff = false → r.run = true → r.free = false →
    (lastOk (ms.getD (j + k) 0) all 0 = false ∨ sameAt P r H = true) ∧ readAll P ms r (j + k) all 0 = true := by
  intro rs
  induction rs with
  | nil => intro j _ k r h; simp at h
  | cons q rs ih =>
    intro j h k r hk he hr hfr
    simp only [readsAll, Bool.and_eq_true] at h
    cases k with
    | zero =>
      simp at hk
      subst hk
      have h1 := h.1
      rw [if_pos ⟨he, hr, hfr⟩] at h1
      simp only [Bool.and_eq_true, Bool.or_eq_true, Bool.not_eq_true'] at h1
      exact h1
    | succ k =>
      have := ih (j + 1) h.2 k r (by simpa using hk) he hr hfr
      rwa [show j + 1 + k = j + (k + 1) by omega] at this

end Go.Ab
