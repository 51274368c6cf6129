/- A part of the proof: what functions of the program answer, of whatever arguments, reckoned with letters by the interpreter's equations. Its conditions stand in each theorem. -/
import Derived.Test.YtefdgfdahmaciaaS14M
/-! What the pass makes may be, and the pass of it is that again: plain facts about lists. -/
namespace Go.Proofs.Sw
set_option linter.unusedVariables false
set_option linter.unusedSimpArgs false
set_option linter.unusedSectionVars false
open Go.Ab
variable [Globals]
theorem holdM_mem {v : Int} : ∀ {l : List Int}, v ∈ l → ∀ j, ∃ i, i < l.length ∧ holdM v l j = ((j + i : Nat) : Int) ∧ l.getD i 0 = v
  | [], h, _ => by cases h
  | x :: l, h, j => by
    rw [holdM]
    by_cases e : x = v
    · rw [if_pos e]
      exact ⟨0, by simp, by simp, by simpa using e⟩
    · rw [if_neg e]
      rcases List.mem_cons.1 h with h | h
      · exact absurd h.symm e
      · obtain ⟨i, h1, h2, h3⟩ := holdM_mem h (j + 1)
        exact ⟨i + 1, by simpa using h1, by rw [h2]; congr 1; omega, by simpa using h3⟩
theorem holdM_not {v : Int} : ∀ {l : List Int}, v ∉ l → ∀ j, holdM v l j = -1
  | [], _, _ => rfl
  | x :: l, h, j => by
    rw [List.mem_cons, not_or] at h
    rw [holdM, if_neg (fun e => h.1 e.symm), holdM_not h.2]
theorem holdM_ge {v : Int} {l : List Int} : 0 ≤ holdM v l 0 ↔ v ∈ l := by
  by_cases h : v ∈ l
  · obtain ⟨i, _, h2, _⟩ := holdM_mem h 0
    rw [h2]
    exact ⟨fun _ => h, fun _ => by omega⟩
  · rw [holdM_not h]
    exact ⟨fun h' => absurd h' (by decide), fun h' => absurd h' h⟩
theorem holdM_at {v : Int} {l : List Int} (h : v ∈ l) : (0 ≤ holdM v l 0 ∧ holdM v l 0 < l.length) ∧ l.getD (holdM v l 0).toNat 0 = v := by
  obtain ⟨i, h1, h2, h3⟩ := holdM_mem h 0
  rw [h2]
  exact ⟨by omega, by simpa using h3⟩
theorem getD_mem {l : List Int} {r : Int} (h0 : 0 ≤ r) (h : r < l.length) : l.getD r.toNat 0 ∈ l := by
  have : r.toNat < l.length := by omega
  rw [List.getD_eq_getElem?_getD, List.getElem?_eq_getElem this]
  exact List.getElem_mem this
/-- The values that are held were given. -/
def Fresh (S : St) : Prop := (∀ h ∈ S.held, h < S.next) ∧ ∀ e ∈ S.keys, e.2.1 < S.next
theorem lookK_none_new {S : St} {n : Int} {x : Ins} (h1 : x.op ≠ 1) (hl : lookK (keyM S.held x) S.keys = none) : reckonM S n x = (S.next, n, { S with keys := S.keys ++ [(keyM S.held x, S.next, n)], next := S.next + 1 }) := by
  rw [reckonM, if_neg h1, hl]
theorem lookK_some_old {S : St} {n : Int} {x : Ins} {p : Nat × Ent} (h1 : x.op ≠ 1) (hl : lookK (keyM S.held x) S.keys = some p) : reckonM S n x = (p.2.2.1, p.2.2.2, S) := by
  rw [reckonM, if_neg h1, hl]
theorem reckonM_fresh {S : St} (hF : Fresh S) {n : Int} {x : Ins} (ha : 0 ≤ x.a ∧ x.a < S.held.length) : (reckonM S n x).1 < (reckonM S n x).2.2.next ∧ (∀ h ∈ S.held, h < (reckonM S n x).2.2.next) ∧ ∀ e ∈ (reckonM S n x).2.2.keys, e.2.1 < (reckonM S n x).2.2.next := by
  by_cases h1 : x.op = 1
  · rw [reckonM_one h1]
    exact ⟨hF.1 _ (getD_mem ha.1 ha.2), hF.1, hF.2⟩
  · cases hl : lookK (keyM S.held x) S.keys with
    | some p =>
      rw [lookK_some_old h1 hl]
      exact ⟨hF.2 _ (List.mem_of_getElem? (lookK_at hl).1), hF.1, hF.2⟩
    | none =>
      rw [lookK_none_new h1 hl]
      refine ⟨by show S.next < S.next + 1; omega, fun h hh => by have := hF.1 h hh; show h < S.next + 1; omega, fun e he => ?_⟩
      show e.2.1 < S.next + 1
      rcases List.mem_append.1 he with he | he
      · have := hF.2 e he; omega
      · simp only [List.mem_cons, List.not_mem_nil, or_false] at he
        subst he
        show S.next < S.next + 1
        omega
theorem passStep_fresh {q : St × List Ins} (hF : Fresh q.1) {n : Int} {x : Ins} (ha : 0 ≤ x.a ∧ x.a < q.1.held.length) : Fresh (passStep q n x).1 := by
  obtain ⟨h1, h2, h3⟩ := reckonM_fresh hF (n := n) ha
  simp only [passStep]
  split
  · exact ⟨by rw [reckonM_held]; exact h2, h3⟩
  · refine ⟨fun h hh => ?_, h3⟩
    rcases List.mem_or_eq_of_mem_set hh with h' | h'
    · exact h2 h h'
    · rw [h']; exact h1
theorem passAt_fresh {S0 : St} (hF : Fresh S0) {code : List Ins} (hcode : ∀ i ∈ code, mayM i S0.held.length = true) : ∀ i, Fresh (passAt S0 code i).1
  | 0 => hF
  | i + 1 => by
    rw [passAt]
    split
    · rename_i x hx
      refine passStep_fresh (passAt_fresh hF hcode i) ?_
      rw [(passAt_facts S0 code i).1]
      exact (mayM_facts (hcode x (List.mem_of_getElem? hx))).2.2.1
    · exact passAt_fresh hF hcode i
/-- What is emitted may be. -/
theorem emitM_may {S : St} {x : Ins} {v : Int} (hm : mayM x S.held.length = true) : mayM (emitM v S.held x) S.held.length = true := by
  have hm0 := hm
  obtain ⟨⟨m1, m2⟩, ⟨m3, m4⟩, ⟨m5, m6⟩, m7⟩ := mayM_facts hm
  unfold emitM
  split
  · rename_i h
    obtain ⟨⟨g1, g2⟩, _⟩ := holdM_at (holdM_ge.1 h)
    simp only [mayM, constant, Bool.and_eq_true, decide_eq_true_eq]
    exact ⟨⟨⟨⟨by decide, by decide, m3, m4, by simp⟩, by simp⟩, g1, g2⟩, fun h => by rcases h with h | h <;> cases h⟩
  · obtain ⟨⟨g1, g2⟩, _⟩ := holdM_at (getD_mem m5 m6)
    simp only [mayM, Bool.and_eq_true, decide_eq_true_eq] at hm0 ⊢
    obtain ⟨⟨⟨⟨_, _, _, _, q5⟩, q6⟩, _⟩, _⟩ := hm0
    by_cases h34 : x.op = 3 ∨ x.op = 4
    · obtain ⟨b0, b1⟩ := m7 h34
      obtain ⟨⟨g3, g4⟩, _⟩ := holdM_at (getD_mem b0 b1)
      simp only [askM, h34, if_true]
      exact ⟨⟨⟨⟨m1, m2, m3, m4, by rcases h34 with h | h; exact .inl h; exact .inr (.inl h)⟩, q6⟩, g1, g2⟩, fun _ => ⟨g3, g4⟩⟩
    · simp only [askM, h34, if_false]
      exact ⟨⟨⟨⟨m1, m2, m3, m4, q5⟩, q6⟩, g1, g2⟩, by first | trivial | exact fun h => absurd h h34 | exact fun h => h.elim⟩
theorem passAt_may {S0 : St} {code : List Ins} (hcode : ∀ i ∈ code, mayM i S0.held.length = true) : ∀ i, ∀ e ∈ (passAt S0 code i).2, mayM e S0.held.length = true
  | 0, e, h => by cases h
  | i + 1, e, h => by
    rw [passAt] at h
    split at h
    · rename_i x hx
      have hl := (passAt_facts S0 code i).1
      have hm := hcode x (List.mem_of_getElem? hx)
      simp only [passStep] at h
      split at h
      · exact passAt_may hcode i e h
      · rcases List.mem_append.1 h with h | h
        · exact passAt_may hcode i e h
        · simp only [List.mem_cons, List.not_mem_nil, or_false] at h
          subst h
          rw [← hl] at hm ⊢
          exact emitM_may hm
    · exact passAt_may hcode i e h
/-- States that differ in who was first alone. -/
structure Sim (S T : St) : Prop where
  held : T.held = S.held
  next : T.next = S.next
  keys : T.keys.map (fun e => (e.1, e.2.1)) = S.keys.map (fun e => (e.1, e.2.1))
theorem lookK_sim {k : Key} : ∀ {es fs : List Ent}, es.map (fun e => (e.1, e.2.1)) = fs.map (fun e => (e.1, e.2.1)) → (lookK k es).map (fun p => p.2.2.1) = (lookK k fs).map (fun p => p.2.2.1)
  | [], [], _ => rfl
  | [], f :: fs, h => by cases h
  | e :: es, [], h => by cases h
  | e :: es, f :: fs, h => by
    simp only [List.map_cons, List.cons.injEq, Prod.mk.injEq] at h
    obtain ⟨⟨h1, h2⟩, h3⟩ := h
    rw [lookK, lookK, h1]
    by_cases hk : k = f.1
    · simp [hk, h2]
    · rw [if_neg hk, if_neg hk]
      have := lookK_sim (k := k) h3
      cases ha : lookK k es with
      | none =>
        cases hb : lookK k fs with
        | none => rfl
        | some q => rw [ha, hb] at this; cases this
      | some p =>
        cases hb : lookK k fs with
        | none => rw [ha, hb] at this; cases this
        | some q => rw [ha, hb] at this; simpa using this
theorem keyM_ask {held : List Int} {x : Ins} (ha : 0 ≤ x.a ∧ x.a < held.length) (hb : x.op = 3 ∨ x.op = 4 → 0 ≤ x.b ∧ x.b < held.length) : keyM held (askM held x) = keyM held x := by
  have g1 := (holdM_at (getD_mem ha.1 ha.2)).2
  unfold keyM
  by_cases h34 : x.op = 3 ∨ x.op = 4
  · have g2 := (holdM_at (getD_mem (hb h34).1 (hb h34).2)).2
    simp only [askM, h34, if_true, g1, g2]
  · simp only [askM, h34, if_false, g1]
/-- The next instruction that was emitted, reckoned anew. -/
theorem again_step {S T : St} (hF : Fresh S) (hs : Sim S T) {n m : Int} {x : Ins} {out : List Ins} (hm : mayM x S.held.length = true) :
    (S.held.getD x.to.toNat 0 = (reckonM S n x).1 → Sim (reckonM S n x).2.2 T) ∧
    (S.held.getD x.to.toNat 0 ≠ (reckonM S n x).1 → ∃ T', passStep (T, out) m (emitM (reckonM S n x).1 S.held x) = (T', out ++ [emitM (reckonM S n x).1 S.held x]) ∧ Sim { (reckonM S n x).2.2 with held := S.held.set x.to.toNat (reckonM S n x).1 } T') := by
  obtain ⟨⟨m1, m2⟩, ⟨m3, m4⟩, ⟨m5, m6⟩, m7⟩ := mayM_facts hm
  have hto := getD_mem m3 m4
  -- a value that is held is not new
  have hold : (reckonM S n x).1 ∈ S.held → (reckonM S n x).2.2 = S := by
    intro hv
    by_cases h1 : x.op = 1
    · rw [reckonM_one h1]
    · cases hl : lookK (keyM S.held x) S.keys with
      | some p => rw [lookK_some_old h1 hl]
      | none =>
        rw [lookK_none_new h1 hl] at hv
        have := hF.1 _ hv
        simp only at this
        omega
  refine ⟨fun he => by rw [hold (by rw [← he]; exact hto)]; exact hs, fun he => ?_⟩
  obtain ⟨v, hv⟩ : ∃ v, v = (reckonM S n x).1 := ⟨_, rfl⟩
  rw [← hv] at he hold ⊢
  by_cases h0 : 0 ≤ holdM v S.held 0
  · have hmem := holdM_ge.1 h0
    have hat := holdM_at hmem
    have hem : emitM v S.held x = ⟨1, x.to, holdM v S.held 0, 0, 0⟩ := if_pos h0
    rw [hem, hold hmem]
    refine ⟨{ T with held := T.held.set x.to.toNat v }, ?_, by rw [hs.held], hs.next, hs.keys⟩
    have hr : reckonM T m ⟨1, x.to, holdM v S.held 0, 0, 0⟩ = (v, -1, T) := by
      rw [reckonM_one rfl, hs.held, hat.2]
    simp only [passStep, hr, hs.held]
    rw [if_neg he]
    simp only [emitM, h0, if_true]
  · have hem : emitM v S.held x = askM S.held x := if_neg h0
    have h1 : x.op ≠ 1 := fun h1 => h0 (holdM_ge.2 (by rw [hv, reckonM_one h1]; exact getD_mem m5 m6))
    have h1' : (askM S.held x).op ≠ 1 := h1
    have hk := keyM_ask (held := S.held) (x := x) ⟨m5, m6⟩ m7
    have hlk := lookK_sim (k := keyM S.held x) hs.keys
    have hemT : emitM v S.held (askM S.held x) = askM S.held x := by
      rw [emitM, if_neg h0]
      have g1 := (holdM_at (getD_mem m5 m6)).2
      by_cases h34 : x.op = 3 ∨ x.op = 4
      · have g2 := (holdM_at (getD_mem (m7 h34).1 (m7 h34).2)).2
        simp only [askM, h34, if_true, g1, g2]
      · simp only [askM, h34, if_false, g1]
    rw [hem]
    cases hl : lookK (keyM S.held x) S.keys with
    | some p =>
      rw [hl] at hlk
      obtain ⟨q, hq, hqv⟩ : ∃ q, lookK (keyM S.held x) T.keys = some q ∧ q.2.2.1 = p.2.2.1 := by
        cases hq : lookK (keyM S.held x) T.keys with
        | none => rw [hq] at hlk; cases hlk
        | some q => rw [hq] at hlk; exact ⟨q, rfl, by simpa using hlk⟩
      rw [lookK_some_old h1 hl] at hv ⊢
      simp only at hv
      have hr : reckonM T m (askM S.held x) = (v, q.2.2.2, T) := by
        rw [lookK_some_old h1' (p := q) (by rw [hs.held, hk]; exact hq), hqv, hv]
      refine ⟨{ T with held := T.held.set x.to.toNat v }, ?_, by rw [hs.held], hs.next, hs.keys⟩
      simp only [passStep, hr, hs.held, askM_to, hemT]
      rw [if_neg he]
    | none =>
      rw [hl] at hlk
      have hq : lookK (keyM S.held x) T.keys = none := by
        cases hq : lookK (keyM S.held x) T.keys with
        | none => rfl
        | some q => rw [hq] at hlk; cases hlk
      rw [lookK_none_new h1 hl] at hv ⊢
      simp only at hv
      have hr : reckonM T m (askM S.held x) = (v, m, { T with keys := T.keys ++ [(keyM S.held x, v, m)], next := v + 1 }) := by
        rw [lookK_none_new h1' (by rw [hs.held, hk]; exact hq), hs.held, hk, hs.next, hv]
      refine ⟨{ T with keys := T.keys ++ [(keyM S.held x, v, m)], next := v + 1, held := T.held.set x.to.toNat v }, ?_, by rw [hs.held], by rw [hv], ?_⟩
      · simp only [passStep, hr, hs.held, askM_to, hemT]
        rw [if_neg he]
      · simp only [List.map_append, List.map_cons, List.map_nil, hs.keys, hv]
theorem passAt_prefix (S0 : St) (l m : List Ins) : ∀ i, i ≤ l.length → passAt S0 (l ++ m) i = passAt S0 l i
  | 0, _ => rfl
  | i + 1, h => by
    rw [passAt, passAt, List.getElem?_append_left (by omega), passAt_prefix S0 l m i (by omega)]
theorem passAt_snoc (S0 : St) (l : List Ins) (e : Ins) : passAt S0 (l ++ [e]) (l ++ [e]).length = passStep (passAt S0 l l.length) l.length e := by
  have hl : l.length < (l ++ [e]).length := by simp
  rw [show (l ++ [e]).length = l.length + 1 by simp, passAt_succ hl, passAt_prefix S0 l [e] _ (Nat.le_refl _)]
  simp
/-- The pass of what was emitted so far. -/
theorem passAt_again {S0 : St} (hF : Fresh S0) {code : List Ins} (hcode : ∀ i ∈ code, mayM i S0.held.length = true) : ∀ i, ∃ T, passAt S0 (passAt S0 code i).2 (passAt S0 code i).2.length = (T, (passAt S0 code i).2) ∧ Sim (passAt S0 code i).1 T
  | 0 => ⟨S0, rfl, rfl, rfl, rfl⟩
  | i + 1 => by
    obtain ⟨T, hT, hs⟩ := passAt_again hF hcode i
    rw [passAt]
    split
    · rename_i x hx
      have hm := hcode x (List.mem_of_getElem? hx)
      rw [← (passAt_facts S0 code i).1] at hm
      obtain ⟨h1, h2⟩ := again_step (passAt_fresh hF hcode i) hs (n := i) (m := (passAt S0 code i).2.length) (out := (passAt S0 code i).2) hm
      by_cases he : (passAt S0 code i).1.held.getD x.to.toNat 0 = (reckonM (passAt S0 code i).1 i x).1
      · have e : passStep (passAt S0 code i) i x = ((reckonM (passAt S0 code i).1 i x).2.2, (passAt S0 code i).2) := by simp only [passStep]; rw [if_pos he]
        rw [e]
        exact ⟨T, hT, h1 he⟩
      · have e : passStep (passAt S0 code i) i x = ({ (reckonM (passAt S0 code i).1 i x).2.2 with held := (passAt S0 code i).1.held.set x.to.toNat (reckonM (passAt S0 code i).1 i x).1 }, (passAt S0 code i).2 ++ [emitM (reckonM (passAt S0 code i).1 i x).1 (passAt S0 code i).1.held x]) := by simp only [passStep]; rw [if_neg he]
        obtain ⟨T', hT', hs'⟩ := h2 he
        rw [e]
        refine ⟨T', ?_, hs'⟩
        simp only
        rw [passAt_snoc, hT, hT']
    · exact ⟨T, hT, hs⟩
theorem startS_fresh {ins : Int} {n : Nat} (h : 0 ≤ ins) : Fresh (startS ins n) := by
  refine ⟨fun h hh => ?_, fun e he => by cases he⟩
  simp only [startS, startM, List.mem_map, List.mem_range] at hh ⊢
  obtain ⟨r, _, rfl⟩ := hh
  split <;> omega
theorem share_right {ins : Int} {n : Nat} {code : List Ins} {outs : List Int} (hr : rightM ⟨ins, n, code, outs⟩ = true) : rightM (sharePg ins n code outs) = true := by
  have hr0 := hr
  simp only [rightM, headM, codeM, outsM, Bool.and_eq_true, decide_eq_true_eq, List.all_eq_true] at hr ⊢
  obtain ⟨⟨⟨h1, h2, h3, h4, h5, h6⟩, ho⟩, hc⟩ := hr
  have hl : (startS ins n).held.length = n := startM_length ins n
  have hcode : ∀ i ∈ code, mayM i (startS ins n).held.length = true := by rw [hl]; exact hc
  have hf := passAt_facts (startS ins n) code code.length
  have hpl : (passS ins n code).held.length = n := hf.1.trans hl
  have hlen : (passC ins n code).length ≤ code.length := hf.2.2.2.2
  refine ⟨⟨⟨h1, h2, h3, Nat.le_trans hlen h4, by simp only [sharePg, outsL_length]; exact h5, by simp only [sharePg, outsL_length]; exact h6⟩, fun r hr => ?_⟩, fun e he => ?_⟩
  · simp only [sharePg, outsL, List.mem_map] at hr
    obtain ⟨r0, hr0, rfl⟩ := hr
    have := ho r0 hr0
    have hat := holdM_at (getD_mem (l := (passS ins n code).held) this.1 (by rw [hpl]; exact this.2))
    rw [hpl] at hat
    exact hat.1
  · have := passAt_may hcode code.length e he
    rw [hl] at this
    exact this
theorem share_again {ins : Int} {n : Nat} {code : List Ins} {outs : List Int} (hr : rightM ⟨ins, n, code, outs⟩ = true) : sharePg ins n (passC ins n code) (outsL (passS ins n code).held outs) = sharePg ins n code outs := by
  simp only [rightM, headM, codeM, outsM, Bool.and_eq_true, decide_eq_true_eq, List.all_eq_true] at hr
  obtain ⟨⟨⟨h1, h2, h3, h4, h5, h6⟩, ho⟩, hc⟩ := hr
  have hl : (startS ins n).held.length = n := startM_length ins n
  have hcode : ∀ i ∈ code, mayM i (startS ins n).held.length = true := by rw [hl]; exact hc
  obtain ⟨T, hT, hs⟩ := passAt_again (startS_fresh (n := n) (show 0 ≤ ins by omega)) hcode code.length
  have hpl : (passS ins n code).held.length = n := (passAt_facts (startS ins n) code code.length).1.trans hl
  have e1 : passC ins n (passC ins n code) = passC ins n code := by
    show (passAt (startS ins n) (passC ins n code) (passC ins n code).length).2 = _
    rw [hT]
  have e2 : (passS ins n (passC ins n code)).held = (passS ins n code).held := by
    show (passAt (startS ins n) (passC ins n code) (passC ins n code).length).1.held = _
    rw [hT]
    exact hs.held
  unfold sharePg
  rw [e1, e2]
  congr 1
  simp only [outsL, List.map_map]
  refine List.map_congr_left fun r hr => ?_
  have := ho r hr
  show holdM ((passS ins n code).held.getD (holdM ((passS ins n code).held.getD r.toNat 0) (passS ins n code).held 0).toNat 0) _ 0 = _
  rw [(holdM_at (getD_mem (l := (passS ins n code).held) this.1 (by rw [hpl]; exact this.2))).2]
end Go.Proofs.Sw
