/- A part of the proof: what functions of the program answer, of whatever arguments, reckoned with letters by the interpreter's equations. Its conditions stand in each theorem. -/
import Derived.Test.YtefdgfdahmaciaaWE
import Derived.Test.YtefdgfdahmaciaaWF
import Derived.Test.YtefdgfdahmaciaaWD
namespace Go.Proofs.Sw
set_option linter.unusedVariables false
set_option linter.unusedSimpArgs false
set_option linter.unusedSectionVars false
open Go.Ab
variable [Globals]
/-! ### what Pack makes is what the plain law says -/
theorem lookI_app {k : Int} : ∀ {es fs : List (Int × Int)} {p : Nat × Int}, lookI k es = some p → lookI k (es ++ fs) = some p
  | [], _, _, h => by cases h
  | e :: es, fs, p, h => by
    rw [List.cons_append, lookI]
    rw [lookI] at h
    split at h
    · rename_i hk; rw [if_pos hk]; exact h
    · rename_i hk
      rw [if_neg hk]
      obtain ⟨q, hq, rfl⟩ := Option.map_eq_some_iff.1 h
      rw [lookI_app hq]; rfl
theorem lookI_new {k v : Int} : ∀ {es : List (Int × Int)}, lookI k es = none → lookI k (es ++ [(k, v)]) = some (es.length, v)
  | [], _ => by simp [lookI]
  | e :: es, h => by
    rw [List.cons_append, lookI]
    rw [lookI] at h
    split at h
    · cases h
    · rename_i hk
      rw [if_neg hk, lookI_new (Option.map_eq_none_iff.1 h)]; rfl
theorem lookI_ne {k k' v : Int} (hne : k ≠ k') : ∀ {es : List (Int × Int)}, lookI k es = none → lookI k (es ++ [(k', v)]) = none
  | [], _ => by simp [lookI, hne]
  | e :: es, h => by
    rw [List.cons_append, lookI]
    rw [lookI] at h
    split at h
    · cases h
    · rename_i hk
      rw [if_neg hk, lookI_ne hne (Option.map_eq_none_iff.1 h)]; rfl
theorem atI_ne {k k' v : Int} {es : List (Int × Int)} (hne : k ≠ k') : atI (es ++ [(k', v)]) k = atI es k := by
  unfold atI
  cases h : lookI k es with
  | none => rw [lookI_ne hne h]
  | some p => rw [lookI_app h]
theorem atI_new {k v : Int} {es : List (Int × Int)} (h : lookI k es = none) : atI (es ++ [(k, v)]) k = v := by
  unfold atI
  rw [lookI_new h]
theorem layP_at : ∀ {g r : Nat}, r < g → atI (layP g) (r : Int) = r
  | 0, r, h => by omega
  | g + 1, r, h => by
    rw [layP_succ]
    by_cases e : r = g
    · subst e
      exact atI_new (layP_none r)
    · rw [atI_ne (by omega)]
      exact layP_at (by omega)
theorem layF_get {unt : List Int} {g r : Nat} (h : r < g) (hu : g ≤ unt.length) : (layF unt g).getD r false = decide (unt.getD r 0 < 0) := by
  unfold layF
  have : r < unt.length := by omega
  simp [h, List.getElem?_take, this]
/-- What Pack knows ahead of an instruction. -/
structure PkRel (S : Sv) (k : Nat) (q : Pk) : Prop where
  at_ : ∀ w ∈ valsO S k, (w = -1000 → 0 ≤ untilR S (-1000)) → atI q.at_ (ph S w) = gP S k w
  fr : ∀ r : Nat, r < q.free.length → (q.free.getD r false = false ↔ ∃ w ∈ aliveR S k, gP S k w = r)
  lt : ∀ w ∈ aliveR S k, gP S k w < q.free.length
  code : q.code = gC S k
  regs : q.regs = gR S k
theorem alive_none {S : Sv} {k : Nat} {w : Int} (h : w ∈ aliveR S k) : w = -1000 → 0 ≤ untilR S (-1000) := by
  rintro rfl
  have := (mem_alive.1 h).2
  omega
theorem pk_start {p : Pg} (hp : PgOk p) : PkRel (svP p) 0 (pk0 p) := by
  have h0 := hp.ok.ins
  have hs := hp.ok.small
  have e0 : (svP p).ins = p.ins := rfl
  rw [e0] at h0 hs
  obtain ⟨g, hg⟩ : ∃ g : Nat, p.ins = g := ⟨p.ins.toNat, by omega⟩
  have hgt : p.ins.toNat = g := by omega
  have hmem : ∀ {w : Int}, w ∈ valsO (svP p) 0 → w ∈ valsO (svP p) p.code.length := fun h => vals_mono h (by omega)
  have hul : g < (untM p).length := by
    obtain ⟨h1, _⟩ := lv_rel hp p.code.length (Nat.le_refl _)
    have : (untM p).length = (lvEnd p).unt.length := untO_length _ _ _ _
    unfold lvEnd at this
    omega
  have hN : (untM p).getD g 0 = en (untilR (svP p) (-1000)) := by
    have := unt_rel hp (w := -1000) (hmem (mem_valsO.2 (.inr (.inl rfl))))
    rwa [ph_none, e0, hgt] at this
  have hI : ∀ r : Nat, r < g → (untM p).getD r 0 = en (untilR (svP p) (-1 - (r : Int))) := fun r hr => by
    have := unt_rel hp (w := -1 - (r : Int)) (hmem (mem_valsO.2 (.inl ⟨r, by rw [e0]; omega, rfl⟩)))
    rwa [ph_in hp.ok (by rw [e0]; omega), Int.toNat_natCast] at this
  have hin : ∀ w ∈ valsO (svP p) 0, (∃ r : Nat, r < g ∧ w = -1 - (r : Int) ∧ ph (svP p) w = r ∧ gP (svP p) 0 w = r) ∨ (w = -1000 ∧ ph (svP p) w = g ∧ gP (svP p) 0 w = g) := fun w hw => by
    rcases mem_valsO.1 hw with ⟨r, hr, rfl⟩ | rfl | ⟨j, hj, _⟩
    · rw [e0] at hr
      exact .inl ⟨r, by omega, rfl, ph_in hp.ok (by rw [e0]; exact hr), gP0_in hp.ok.small (by rw [e0]; exact hr)⟩
    · exact .inr ⟨rfl, by rw [ph_none, e0, hg], by rw [gP0_none, e0, hg]⟩
    · omega
  have hlf : (layF (untM p) g).length = g := layF_length (by omega)
  by_cases hu : 0 ≤ (untM p).getD g 0
  · have hU : 0 ≤ untilR (svP p) (-1000) := by
      rw [hN] at hu
      have := en_neg (x := untilR (svP p) (-1000))
      omega
    have e : pk0 p = ⟨layP g ++ [((g : Int), (g : Int))], layF (untM p) g ++ [decide ((untM p).getD g 0 < 0)], [], (g : Int) + 1⟩ := by
      unfold pk0
      simp only [hg, Int.toNat_natCast, hu, if_true]
    rw [e]
    refine ⟨fun w hw hz => ?_, fun r hr => ?_, fun w hw => ?_, rfl, ?_⟩
    · simp only
      rcases hin w hw with ⟨r, hr, _, h2, h3⟩ | ⟨_, h2, h3⟩
      · rw [h2, h3, atI_ne (by omega)]
        exact layP_at hr
      · rw [h2, h3]
        exact atI_new (layP_none g)
    · simp only at hr ⊢
      rw [List.length_append, hlf] at hr
      simp only [List.length_cons, List.length_nil] at hr
      by_cases hrg : r < g
      · rw [List.getD_eq_getElem?_getD, List.getElem?_append_left (by omega), ← List.getD_eq_getElem?_getD, layF_get hrg (by omega), hI r hrg, decide_eq_false_iff_not]
        constructor
        · intro h
          refine ⟨-1 - (r : Int), mem_alive.2 ⟨mem_valsO.2 (.inl ⟨r, by rw [e0]; omega, rfl⟩), ?_⟩, gP0_in hp.ok.small (by rw [e0]; omega)⟩
          rw [en_neg] at h
          omega
        · rintro ⟨w, hw, hgp⟩
          obtain ⟨hv, hu2⟩ := mem_alive.1 hw
          rcases hin w hv with ⟨q, hq, h1, _, h3⟩ | ⟨_, _, h3⟩
          · have : q = r := by omega
            subst this
            rw [h1] at hu2
            rw [en_neg]
            omega
          · omega
      · have : r = g := by omega
        subst this
        rw [List.getD_eq_getElem?_getD, List.getElem?_append_right (by omega), hlf, Nat.sub_self]
        have : decide ((untM p).getD r 0 < 0) = false := decide_eq_false (by omega)
        simp only [List.getElem?_cons_zero, Option.getD_some]
        constructor
        · intro _
          exact ⟨-1000, mem_alive.2 ⟨mem_valsO.2 (.inr (.inl rfl)), by omega⟩, by rw [gP0_none, e0, hg]⟩
        · intro _
          exact this
    · simp only [List.length_append, hlf, List.length_cons, List.length_nil]
      rcases hin w (alive_vals hw) with ⟨q, hq, h1, _, h3⟩ | ⟨_, _, h3⟩ <;> omega
    · simp only [gR, if_pos hU, e0, hg]
  · have hU : ¬ 0 ≤ untilR (svP p) (-1000) := by
      rw [hN] at hu
      have := en_neg (x := untilR (svP p) (-1000))
      omega
    have e : pk0 p = ⟨layP g, layF (untM p) g, [], (g : Int)⟩ := by
      unfold pk0
      simp only [hg, Int.toNat_natCast, hu, if_false]
    rw [e]
    refine ⟨fun w hw hz => ?_, fun r hr => ?_, fun w hw => ?_, rfl, ?_⟩
    · simp only
      rcases hin w hw with ⟨r, hr, _, h2, h3⟩ | ⟨h1, _, _⟩
      · rw [h2, h3]
        exact layP_at hr
      · exact absurd (hz h1) hU
    · simp only at hr ⊢
      have hrg : r < g := by omega
      rw [layF_get hrg (by omega), hI r hrg, decide_eq_false_iff_not]
      constructor
      · intro h
        refine ⟨-1 - (r : Int), mem_alive.2 ⟨mem_valsO.2 (.inl ⟨r, by rw [e0]; omega, rfl⟩), ?_⟩, gP0_in hp.ok.small (by rw [e0]; omega)⟩
        rw [en_neg] at h
        omega
      · rintro ⟨w, hw, hgp⟩
        obtain ⟨hv, hu2⟩ := mem_alive.1 hw
        rcases hin w hv with ⟨q, hq, h1, _, h3⟩ | ⟨_, _, h3⟩
        · have : q = r := by omega
          subst this
          rw [h1] at hu2
          rw [en_neg]
          omega
        · omega
    · simp only [hlf]
      rcases hin w (alive_vals hw) with ⟨q, hq, h1, _, h3⟩ | ⟨h1, _, h3⟩
      · omega
      · exact absurd (alive_none hw h1) hU
    · simp only [gR, if_neg hU, e0, hg]
theorem least_not {fl : List Bool} (h : leastM fl < fl.length) : fl.getD (leastM fl) false = true := by
  have := List.findIdx_getElem (p := id) (xs := fl) (w := h)
  rw [List.getD_eq_getElem?_getD, List.getElem?_eq_getElem h]
  exact this
theorem least_all {fl : List Bool} {i : Nat} (h : i < leastM fl) : fl.getD i false = false := by
  have h2 := leastM_le fl
  have := List.not_of_lt_findIdx (p := id) (xs := fl) h
  rw [List.getD_eq_getElem?_getD, List.getElem?_eq_getElem (by omega)]
  simpa using this
theorem getDB_set {l : List Bool} {i k : Nat} {v : Bool} (hi : i < l.length) : (l.set i v).getD k false = if i = k then v else l.getD k false := by
  rw [List.getD_eq_getElem?_getD, List.getD_eq_getElem?_getD, List.getElem?_set]
  by_cases h : i = k
  · subst h; simp [hi]
  · simp [h]
/-- The two values that an instruction asks. -/
def vA (S : Sv) (k : Nat) : Int := heldR S k (nth S.code k).a
def vB (S : Sv) (k : Nat) : Int := if (nth S.code k).op = 3 ∨ (nth S.code k).op = 4 then heldR S k (nth S.code k).b else heldR S k (nth S.code k).a
theorem asked_two {p : Pg} (hp : PgOk p) {k : Nat} (hk : k < p.code.length) (hn : nd (svP p).need k = true) :
    (vA (svP p) k ∈ aliveR (svP p) k ∧ vB (svP p) k ∈ aliveR (svP p) k) ∧ (lvEnd p).a.getD k 0 = ph (svP p) (vA (svP p) k) ∧ (lvEnd p).b.getD k 0 = ph (svP p) (vB (svP p) k) ∧ (lvEnd p).sets.getD k 0 = ph (svP p) k ∧
    ∀ w ∈ aliveR (svP p) k, (untilR (svP p) w = k → w = vA (svP p) k ∨ w = vB (svP p) k) := by
  have hc : (svP p).code = p.code := rfl
  have hop := hp.op.ops k (by rw [hc]; exact hk) hn
  have h1 : vA (svP p) k ∈ aliveR (svP p) k := asked_alive hp.inn (by rw [hc]; exact hk) hn (ask_a hop)
  have hasks := hp.inn.asks k (by rw [hc]; omega) hn
  have hra := hasks _ (ask_a hop)
  obtain ⟨l1, l2, l3, _⟩ := lv_rel hp k (by omega)
  have e : p.code[k]? = some (nth p.code k) := by rw [nth_get hk, List.getElem?_eq_getElem hk]
  have hok0 : LvOk (lvStart p.ins p.regs.toNat p.code.length) p.regs.toNat p.code.length := lvStart_ok (by have := hp.ok.ins; exact this)
  obtain ⟨a1, a2, a3⟩ := lv_at (need := neededM p) hok0 e hn p.code.length hk (Nat.le_refl _)
  have hA : (lvEnd p).a.getD k 0 = ph (svP p) (vA (svP p) k) := by
    show (lvAt _ _ _ _).a.getD k 0 = _
    rw [a1, l3 _ (by rw [hc] at hra; omega)]
    rw [hc] at hra
    rw [Int.toNat_of_nonneg hra.1]; rfl
  have hset : (lvEnd p).sets.getD k 0 = ph (svP p) k := by
    show (lvAt _ _ _ _).sets.getD k 0 = _
    rw [a3, ph_nat]; exact l1
  have hB : vB (svP p) k ∈ aliveR (svP p) k ∧ (lvEnd p).b.getD k 0 = ph (svP p) (vB (svP p) k) := by
    have hb : (lvEnd p).b.getD k 0 = lvB (lvAt (lvStart p.ins p.regs.toNat p.code.length) (neededM p) p.code k).held (nth p.code k) := a2
    by_cases h34 : (nth (svP p).code k).op = 3 ∨ (nth (svP p).code k).op = 4
    · have hrb := hasks _ (ask_b h34)
      have ev : vB (svP p) k = heldR (svP p) k (nth (svP p).code k).b := if_pos h34
      rw [ev]
      refine ⟨asked_alive hp.inn (by rw [hc]; exact hk) hn (ask_b h34), ?_⟩
      rw [hb]
      unfold lvB
      rw [if_pos (by rw [hc] at h34; exact h34)]
      rw [hc] at hrb
      rw [l3 _ (by omega), Int.toNat_of_nonneg hrb.1]; rfl
    · have ev : vB (svP p) k = vA (svP p) k := if_neg h34
      rw [ev]
      refine ⟨h1, ?_⟩
      rw [hb]
      unfold lvB
      rw [if_neg (by rw [hc] at h34; exact h34), ← a1]; exact hA
  refine ⟨⟨h1, hB.1⟩, hA, hB.2, hset, fun w hw hu => ?_⟩
  have := (askV_iff hn hop w).1 (ask_of_until (by rw [hc]; exact hk) hu)
  rcases this with h | h
  · exact .inl h.symm
  · exact .inr h.symm
theorem pk_rel {p : Pg} (hp : PgOk p) : ∀ k, k ≤ p.code.length → PkRel (svP p) k (pkAt (lvEnd p) (untM p) (pk0 p) (neededM p) p.code k)
  | 0, _ => pk_start hp
  | k + 1, hk => by
    have ih := pk_rel hp k (by omega)
    have hc : (svP p).code = p.code := rfl
    have hfresh0 : nd (svP p).need k = true → lookI ((lvEnd p).sets.getD k 0) (pkAt (lvEnd p) (untM p) (pk0 p) (neededM p) p.code k).at_ = none := fun hn => by
      have h0 := hp.ok.ins
      have e0 : (svP p).ins = p.ins := rfl
      rw [e0] at h0
      refine pk_fresh (lvStart_ok h0) rfl ?_ k (by omega) hn
      intro e he
      simp only [lvStart, List.length_replicate]
      unfold pk0 at he
      simp only at he
      split at he
      · simp only [layP, List.mem_append, List.mem_map, List.mem_range, List.mem_singleton] at he
        rcases he with ⟨v, hv, rfl⟩ | rfl <;> simp only <;> omega
      · simp only [layP, List.mem_map, List.mem_range] at he
        obtain ⟨v, hv, rfl⟩ := he
        simp only
        omega
    obtain ⟨q, hq⟩ : ∃ q, q = pkAt (lvEnd p) (untM p) (pk0 p) (neededM p) p.code k := ⟨_, rfl⟩
    rw [pkAt_succ (by omega)]
    rw [← hq] at ih hfresh0 ⊢
    obtain ⟨r1, r2, r3, r4, r5⟩ := ih
    cases hn : nd (svP p).need k
    · have hn' : ¬ (neededM p).getD k false = true := by show ¬ nd (svP p).need k = true; rw [hn]; simp
      rw [if_neg hn']
      have hal := alive_succ_no (S := svP p) (show k < (svP p).code.length by rw [hc]; omega) hn
      have hgp : ∀ {w : Int}, w ∈ valsO (svP p) k → gP (svP p) (k + 1) w = gP (svP p) k w := fun hw => gP_old (by have := vals_lt hw; omega)
      refine ⟨fun w hw hz => ?_, fun r hr => ?_, fun w hw => ?_, by rw [gC_succ_no hn]; exact r4, by rw [gR, hn, if_neg (by simp)]; exact r5⟩
      · rw [vals_succ_no hn] at hw
        rw [hgp hw]; exact r1 w hw hz
      · rw [r2 r hr, hal]
        constructor
        · rintro ⟨w, hw, e⟩; exact ⟨w, hw, by rw [hgp (alive_vals hw)]; exact e⟩
        · rintro ⟨w, hw, e⟩; exact ⟨w, hw, by rw [hgp (alive_vals hw)] at e; exact e⟩
      · rw [hal] at hw
        rw [hgp (alive_vals hw)]; exact r3 w hw
    · have hn' : (neededM p).getD k false = true := hn
      rw [if_pos hn', ← nth_get (show k < p.code.length by omega)]
      obtain ⟨⟨ma, mb⟩, eA, eB, eS, hask⟩ := asked_two hp (show k < p.code.length by omega) hn
      have hfresh := hfresh0 hn
      rw [eS] at hfresh
      have huse := hp.ok.use k (by rw [hc]; omega) hn
      have atA : atI q.at_ (ph (svP p) (vA (svP p) k)) = gP (svP p) k (vA (svP p) k) := r1 _ (alive_vals ma) (alive_none ma)
      have atB : atI q.at_ (ph (svP p) (vB (svP p) k)) = gP (svP p) k (vB (svP p) k) := r1 _ (alive_vals mb) (alive_none mb)
      have hmem : ∀ {w : Int}, w ∈ aliveR (svP p) k → w ∈ valsO (svP p) p.code.length := fun h => vals_mono (alive_vals h) (by omega)
      have uA : ((untM p).getD (ph (svP p) (vA (svP p) k)).toNat 0 = k) = (untilR (svP p) (vA (svP p) k) = k) := by rw [unt_rel hp (hmem ma)]; exact propext en_eq
      have uB : ((untM p).getD (ph (svP p) (vB (svP p) k)).toNat 0 = k) = (untilR (svP p) (vB (svP p) k) = k) := by rw [unt_rel hp (hmem mb)]; exact propext en_eq
      have ra := r3 _ ma
      have rb := r3 _ mb
      have ra0 := gP_nonneg hp.ok k (alive_vals ma)
      have rb0 := gP_nonneg hp.ok k (alive_vals mb)
      obtain ⟨f2, hf2⟩ : ∃ f2, f2 = freeOne q.at_ (untM p) k (freeOne q.at_ (untM p) k q.free ((lvEnd p).a.getD k 0)) ((lvEnd p).b.getD k 0) := ⟨_, rfl⟩
      have hf2l : f2.length = q.free.length := by rw [hf2, freeOne_length, freeOne_length]
      have hinj := fun {w v : Int} (hw : w ∈ aliveR (svP p) k) (hv : v ∈ aliveR (svP p) k) (e : gP (svP p) k w = gP (svP p) k v) => gP_inj hp.ok k (by rw [hc]; omega) hw hv e
      have hf2g : ∀ r : Nat, r < f2.length → (f2.getD r false = false ↔ ∃ w ∈ restR (svP p) k, gP (svP p) k w = r) := fun r hr => by
        have hstep : f2.getD r false = false ↔ (q.free.getD r false = false ∧ ¬ (untilR (svP p) (vA (svP p) k) = k ∧ gP (svP p) k (vA (svP p) k) = r) ∧ ¬ (untilR (svP p) (vB (svP p) k) = k ∧ gP (svP p) k (vB (svP p) k) = r)) := by
          rw [hf2, eA, eB]
          unfold freeOne
          rw [atA, atB]
          simp only [uA, uB]
          by_cases hA : untilR (svP p) (vA (svP p) k) = k
          · by_cases hB : untilR (svP p) (vB (svP p) k) = k
            · rw [if_pos hB, if_pos hA, getDB_set (by simp; omega), getDB_set (by omega)]
              by_cases e2 : (gP (svP p) k (vB (svP p) k)).toNat = r
              · rw [if_pos e2]
                constructor
                · intro h; cases h
                · intro h; exact absurd ⟨hB, by omega⟩ h.2.2
              · rw [if_neg e2]
                by_cases e1 : (gP (svP p) k (vA (svP p) k)).toNat = r
                · rw [if_pos e1]
                  constructor
                  · intro h; cases h
                  · intro h; exact absurd ⟨hA, by omega⟩ h.2.1
                · rw [if_neg e1]
                  exact ⟨fun h => ⟨h, fun x => by omega, fun x => by omega⟩, fun h => h.1⟩
            · rw [if_neg hB, if_pos hA, getDB_set (by omega)]
              by_cases e1 : (gP (svP p) k (vA (svP p) k)).toNat = r
              · rw [if_pos e1]
                constructor
                · intro h; cases h
                · intro h; exact absurd ⟨hA, by omega⟩ h.2.1
              · rw [if_neg e1]
                exact ⟨fun h => ⟨h, fun x => by omega, fun x => by omega⟩, fun h => h.1⟩
          · by_cases hB : untilR (svP p) (vB (svP p) k) = k
            · rw [if_pos hB, if_neg hA, getDB_set (by omega)]
              by_cases e2 : (gP (svP p) k (vB (svP p) k)).toNat = r
              · rw [if_pos e2]
                constructor
                · intro h; cases h
                · intro h; exact absurd ⟨hB, by omega⟩ h.2.2
              · rw [if_neg e2]
                exact ⟨fun h => ⟨h, fun x => by omega, fun x => by omega⟩, fun h => h.1⟩
            · rw [if_neg hB, if_neg hA]
              exact ⟨fun h => ⟨h, fun x => hA x.1, fun x => hB x.1⟩, fun h => h.1⟩
        rw [hstep, r2 r (by omega)]
        constructor
        · rintro ⟨⟨w, hw, e⟩, hnA, hnB⟩
          refine ⟨w, List.mem_filter.2 ⟨hw, ?_⟩, e⟩
          rw [decide_eq_true_eq]
          intro hu
          rcases hask w hw hu with rfl | rfl
          · exact hnA ⟨hu, e⟩
          · exact hnB ⟨hu, e⟩
        · rintro ⟨w, hw, e⟩
          have hwu : untilR (svP p) w ≠ k := by
            have := (mem_rest.1 hw).2
            omega
          refine ⟨⟨w, rest_alive hw, e⟩, fun ⟨x1, x2⟩ => ?_, fun ⟨x1, x2⟩ => ?_⟩
          · have := hinj ma (rest_alive hw) (by rw [x2, e])
            rw [this] at x1
            exact hwu x1
          · have := hinj mb (rest_alive hw) (by rw [x2, e])
            rw [this] at x1
            exact hwu x1
      have hlm := leastM_le f2
      have hmex : mex ((restR (svP p) k).map (gP (svP p) k)) = leastM f2 := by
        refine mex_unique ?_ fun i hi => ?_
        · rw [List.mem_map]
          rintro ⟨w, hw, e⟩
          by_cases hlt : leastM f2 < f2.length
          · have h1 := least_not hlt
            have h2 := (hf2g (leastM f2) hlt).2 ⟨w, hw, e⟩
            rw [h1] at h2
            cases h2
          · have := r3 w (rest_alive hw)
            omega
        · rw [List.mem_map]
          exact (hf2g i (by omega)).1 (least_all hi)
      have hnew : gP (svP p) (k + 1) k = (leastM f2 : Int) := by rw [gP_new hn, hmex]
      have hst : pkStep (lvEnd p) (untM p) q k (nth p.code k) = ⟨q.at_ ++ [(ph (svP p) k, (leastM f2 : Int))], giveF f2, q.code ++ [gI (svP p) k], if ((leastM f2 : Nat) : Int) + 1 > q.regs then ((leastM f2 : Nat) : Int) + 1 else q.regs⟩ := by
        rw [pkStep]
        simp only [← hf2]
        rw [eS, eA, eB, atA, atB, gI, hnew]
        by_cases h34 : (nth p.code k).op = 3 ∨ (nth p.code k).op = 4
        · have ev : vB (svP p) k = heldR (svP p) k (nth (svP p).code k).b := if_pos h34
          rw [if_pos h34, ev, hc, if_pos h34]; rfl
        · rw [if_neg h34, hc, if_neg h34]; rfl
      rw [hst]
      have hal := alive_succ (S := svP p) hn huse
      have hgp : ∀ {w : Int}, w ∈ valsO (svP p) k → gP (svP p) (k + 1) w = gP (svP p) k w := fun hw => gP_old (by have := vals_lt hw; omega)
      have hgl := giveF_length f2
      refine ⟨fun w hw hz => ?_, fun r hr => ?_, fun w hw => ?_, ?_, ?_⟩
      · simp only
        rw [vals_succ hn, List.mem_append, List.mem_singleton] at hw
        rcases hw with hw | rfl
        · have hne : ph (svP p) w ≠ ph (svP p) k := fun e => by
            have := ph_inj hp.ok (k := k + 1) (w := w) (v := k) (vals_mono hw (by omega)) (by rw [vals_succ hn]; simp) e
            have := vals_lt hw
            omega
          rw [atI_ne hne, hgp hw]
          exact r1 w hw hz
        · rw [atI_new hfresh, hnew]
      · simp only at hr ⊢
        rw [hal]
        have hrhs : (∃ w ∈ restR (svP p) k ++ [(k : Int)], gP (svP p) (k + 1) w = r) ↔ ((∃ w ∈ restR (svP p) k, gP (svP p) k w = r) ∨ leastM f2 = r) := by
          constructor
          · rintro ⟨w, hw, e⟩
            rw [List.mem_append, List.mem_singleton] at hw
            rcases hw with hw | rfl
            · rw [hgp (alive_vals (rest_alive hw))] at e
              exact .inl ⟨w, hw, e⟩
            · rw [hnew] at e
              exact .inr (by omega)
          · rintro (⟨w, hw, e⟩ | e)
            · exact ⟨w, by simp [hw], by rw [hgp (alive_vals (rest_alive hw))]; exact e⟩
            · exact ⟨k, by simp, by rw [hnew, e]⟩
        rw [hrhs]
        unfold giveF at hr ⊢
        by_cases hlt : leastM f2 < f2.length
        · rw [if_pos hlt, getDB_set hlt]
          rw [if_pos hlt, List.length_set] at hr
          by_cases e : leastM f2 = r
          · rw [if_pos e]; exact ⟨fun _ => .inr e, fun _ => rfl⟩
          · rw [if_neg e, hf2g r hr]
            exact ⟨fun h => .inl h, fun h => h.resolve_right e⟩
        · rw [if_neg hlt]
          rw [if_neg hlt, List.length_append] at hr
          simp only [List.length_cons, List.length_nil] at hr
          by_cases e : leastM f2 = r
          · rw [List.getD_eq_getElem?_getD, List.getElem?_append_right (by omega), show r - f2.length = 0 by omega]
            exact ⟨fun _ => .inr e, fun _ => rfl⟩
          · rw [List.getD_eq_getElem?_getD, List.getElem?_append_left (by omega), ← List.getD_eq_getElem?_getD, hf2g r (by omega)]
            exact ⟨fun h => .inl h, fun h => h.resolve_right e⟩
      · simp only
        rw [hal, List.mem_append, List.mem_singleton] at hw
        rcases hw with hw | rfl
        · have := r3 w (rest_alive hw)
          rw [hgp (alive_vals (rest_alive hw)), hgl]
          omega
        · rw [hnew, hgl]
          omega
      · simp only
        rw [gC_succ hn, r4]
      · simp only
        rw [gR, if_pos hn, r5, hnew]
theorem packM_eq {p : Pg} (hp : PgOk p) : packM p = greedy (svP p) := by
  obtain ⟨r1, r2, r3, r4, r5⟩ := pk_rel hp p.code.length (Nat.le_refl _)
  obtain ⟨l1, l2, l3, _⟩ := lv_rel hp p.code.length (Nat.le_refl _)
  have hc : (svP p).code = p.code := rfl
  unfold packM greedy
  rw [show pkEnd p = pkAt (lvEnd p) (untM p) (pk0 p) (neededM p) p.code p.code.length from rfl, r4, r5]
  congr 1
  unfold atL lOuts outsV gOuts
  rw [List.map_map]
  apply List.map_congr_left
  intro r hr
  have ha := out_alive (S := svP p) hp.inn hr
  have hro := hp.inn.outs r hr
  have := l3 r.toNat (by omega)
  rw [Int.toNat_of_nonneg hro.1] at this
  rw [Function.comp_apply, hc]
  show atI _ ((lvAt _ _ _ _).held.getD _ _) = _
  rw [this]
  rw [hc] at ha
  exact r1 _ (alive_vals ha) (alive_none ha)
end Go.Proofs.Sw
namespace Go.Proofs.Sw
set_option linter.unusedVariables false
set_option linter.unusedSimpArgs false
set_option linter.unusedSectionVars false
open Go.Ab
variable [Globals]
theorem filter_split {α : Type} (f : α → Bool) : ∀ l : List α, (l.filter f).length + (l.filter fun x => !f x).length = l.length
  | [] => rfl
  | x :: l => by
    have := filter_split f l
    rw [List.filter_cons, List.filter_cons]
    cases f x <;> simp <;> omega
theorem rest_len {p : Pg} (hp : PgOk p) {k : Nat} (hk : k < p.code.length) (hn : nd (svP p).need k = true) :
    ((restR (svP p) k).length : Int) = (aliveR (svP p) k).length - (if untilR (svP p) (vA (svP p) k) = k then 1 else 0) - (if vB (svP p) k ≠ vA (svP p) k ∧ untilR (svP p) (vB (svP p) k) = k then 1 else 0) := by
  obtain ⟨⟨ma, mb⟩, _, _, _, hask⟩ := asked_two hp hk hn
  have hs := filter_split (fun w => decide (untilR (svP p) w ≠ k)) (aliveR (svP p) k)
  have hnd : ((aliveR (svP p) k).filter fun w => !decide (untilR (svP p) w ≠ k)).Nodup := List.Pairwise.filter _ (List.Pairwise.filter _ (vals_nodup hp.ok k))
  have hmem : ∀ w, w ∈ ((aliveR (svP p) k).filter fun w => !decide (untilR (svP p) w ≠ k)) ↔ w ∈ aliveR (svP p) k ∧ untilR (svP p) w = k := fun w => by simp [List.mem_filter]
  have hr : restR (svP p) k = (aliveR (svP p) k).filter fun w => decide (untilR (svP p) w ≠ k) := rfl
  rw [← hr] at hs
  obtain ⟨D, hD⟩ : ∃ D, D = (aliveR (svP p) k).filter fun w => !decide (untilR (svP p) w ≠ k) := ⟨_, rfl⟩
  rw [← hD] at hs hnd hmem
  have key : ∀ E : List Int, E.Nodup → (∀ w, w ∈ E ↔ w ∈ aliveR (svP p) k ∧ untilR (svP p) w = k) → D.length = E.length := fun E hE h =>
    Nat.le_antisymm (nodup_len _ _ hnd fun w hw => (h w).2 ((hmem w).1 hw)) (nodup_len _ _ hE fun w hw => (hmem w).2 ((h w).1 hw))
  by_cases hA : untilR (svP p) (vA (svP p) k) = k
  · by_cases hB : vB (svP p) k ≠ vA (svP p) k ∧ untilR (svP p) (vB (svP p) k) = k
    · have := key [vA (svP p) k, vB (svP p) k] (by simp [List.nodup_cons]; exact fun e => hB.1 e.symm) fun w => by
        constructor
        · intro h
          rcases List.mem_cons.1 h with rfl | h
          · exact ⟨ma, hA⟩
          · rcases List.mem_cons.1 h with rfl | h
            · exact ⟨mb, hB.2⟩
            · cases h
        · rintro ⟨h1, h2⟩
          rcases hask w h1 h2 with rfl | rfl <;> simp
      rw [if_pos hA, if_pos hB]
      simp only [List.length_cons, List.length_nil] at this
      omega
    · have := key [vA (svP p) k] (by simp) fun w => by
        constructor
        · intro h
          rcases List.mem_cons.1 h with rfl | h
          · exact ⟨ma, hA⟩
          · cases h
        · rintro ⟨h1, h2⟩
          rcases hask w h1 h2 with rfl | rfl
          · simp
          · by_cases e : vB (svP p) k = vA (svP p) k
            · simp [e]
            · exact absurd ⟨e, h2⟩ hB
      rw [if_pos hA, if_neg hB]
      simp only [List.length_cons, List.length_nil] at this
      omega
  · by_cases hB : vB (svP p) k ≠ vA (svP p) k ∧ untilR (svP p) (vB (svP p) k) = k
    · have := key [vB (svP p) k] (by simp) fun w => by
        constructor
        · intro h
          rcases List.mem_cons.1 h with rfl | h
          · exact ⟨mb, hB.2⟩
          · cases h
        · rintro ⟨h1, h2⟩
          rcases hask w h1 h2 with rfl | rfl
          · exact absurd h2 hA
          · simp
      rw [if_neg hA, if_pos hB]
      simp only [List.length_cons, List.length_nil] at this
      omega
    · have := key [] (by simp) fun w => by
        constructor
        · intro h; cases h
        · rintro ⟨h1, h2⟩
          rcases hask w h1 h2 with rfl | rfl
          · exact absurd h2 hA
          · by_cases e : vB (svP p) k = vA (svP p) k
            · rw [e] at h2; exact absurd h2 hA
            · exact absurd ⟨e, h2⟩ hB
      rw [if_neg hA, if_neg hB]
      simp only [List.length_nil] at this
      omega
theorem alive0_eq (unt : List Int) : ∀ i : Nat, alive0 unt i = (((List.range i).filter fun j => decide (0 ≤ unt.getD j 0)).length : Int)
  | 0 => rfl
  | i + 1 => by
    rw [alive0, alive0_eq unt i, List.range_succ, List.filter_append, List.length_append]
    by_cases h : 0 ≤ unt.getD i 0
    · rw [if_pos h, List.filter_cons, if_pos (by simpa using h)]; simp
    · rw [if_neg h, List.filter_cons, if_neg (by simpa using h)]; simp
theorem alive_start {p : Pg} (hp : PgOk p) : alive0 (untM p) (p.ins.toNat + 1) = ((aliveR (svP p) 0).length : Int) := by
  have h0 := hp.ok.ins
  have e0 : (svP p).ins = p.ins := rfl
  have hN := unt_rel hp (w := -1000) (mem_valsO.2 (.inr (.inl rfl)))
  rw [ph_none, e0] at hN
  have hI : ∀ r : Nat, r < p.ins.toNat → (untM p).getD r 0 = en (untilR (svP p) (-1 - (r : Int))) := fun r hr => by
    have := unt_rel hp (w := -1 - (r : Int)) (mem_valsO.2 (.inl ⟨r, by rw [e0]; exact hr, rfl⟩))
    rwa [ph_in hp.ok (by rw [e0]; exact hr), Int.toNat_natCast] at this
  rw [alive0_eq, List.range_succ, List.filter_append, List.length_append]
  unfold aliveR valsO
  rw [List.filter_append, List.length_append, List.filter_map, List.length_map, e0]
  have h1 : (List.range p.ins.toNat).filter (fun j => decide (0 ≤ (untM p).getD j 0)) = (List.range p.ins.toNat).filter ((fun w => decide (((0 : Nat) : Int) ≤ untilR (svP p) w)) ∘ fun (r : Nat) => -1 - (r : Int)) := by
    apply List.filter_congr
    intro r hr
    rw [Function.comp_apply, decide_eq_decide, hI r (List.mem_range.1 hr)]
    have := en_neg (x := untilR (svP p) (-1 - (r : Int)))
    omega
  rw [h1]
  have h2 : ([p.ins.toNat].filter fun j => decide (0 ≤ (untM p).getD j 0)).length = ((-1000 :: ((List.range 0).filter fun j => nd (svP p).need j).map fun (j : Nat) => (j : Int)).filter fun w => decide (((0 : Nat) : Int) ≤ untilR (svP p) w)).length := by
    have := en_neg (x := untilR (svP p) (-1000))
    by_cases h : 0 ≤ (untM p).getD p.ins.toNat 0
    · rw [List.filter_cons, if_pos (by simpa using h), List.filter_cons, if_pos (by simp; omega)]; rfl
    · rw [List.filter_cons, if_neg (by simpa using h), List.filter_cons, if_neg (by simp; omega)]; rfl
  rw [h2]
  try omega
theorem al_rel {p : Pg} (hp : PgOk p) : ∀ k, k ≤ p.code.length → alAt (lvEnd p) (untM p) (neededM p) (alive0 (untM p) (p.ins.toNat + 1)) k = (((aliveR (svP p) k).length : Int), mA (svP p) k)
  | 0, _ => by rw [alAt, alive_start hp]; rfl
  | k + 1, hk => by
    have ih := al_rel hp k (by omega)
    have hc : (svP p).code = p.code := rfl
    rw [alAt, ih]
    cases hn : nd (svP p).need k
    · have hn' : ¬ (neededM p).getD k false = true := by show ¬ nd (svP p).need k = true; rw [hn]; simp
      rw [if_neg hn', alive_succ_no (by rw [hc]; omega) hn, mA, hn, if_neg (by simp)]
    · have hn' : (neededM p).getD k false = true := hn
      obtain ⟨⟨ma, mb⟩, eA, eB, eS, hask⟩ := asked_two hp (show k < p.code.length by omega) hn
      have hmem : ∀ {w : Int}, w ∈ aliveR (svP p) k → w ∈ valsO (svP p) p.code.length := fun h => vals_mono (alive_vals h) (by omega)
      have uA : ((untM p).getD (ph (svP p) (vA (svP p) k)).toNat 0 = k) = (untilR (svP p) (vA (svP p) k) = k) := by rw [unt_rel hp (hmem ma)]; exact propext en_eq
      have uB : ((untM p).getD (ph (svP p) (vB (svP p) k)).toNat 0 = k) = (untilR (svP p) (vB (svP p) k) = k) := by rw [unt_rel hp (hmem mb)]; exact propext en_eq
      have hab : (ph (svP p) (vB (svP p) k) ≠ ph (svP p) (vA (svP p) k)) = (vB (svP p) k ≠ vA (svP p) k) := propext ⟨fun h e => h (by rw [e]), fun h e => h (ph_inj hp.ok (alive_vals mb) (alive_vals ma) e)⟩
      have hnow : alB (lvEnd p) (untM p) k (alA (lvEnd p) (untM p) k ((aliveR (svP p) k).length : Int)) + 1 = ((aliveR (svP p) (k + 1)).length : Int) := by
        have hl := rest_len hp (show k < p.code.length by omega) hn
        rw [alive_succ hn (hp.ok.use k (by rw [hc]; omega) hn), List.length_append]
        unfold alB alA
        rw [eA, eB]
        simp only [uA, uB, hab]
        simp only [List.length_cons, List.length_nil]
        split at hl <;> split at hl <;> simp_all <;> omega
      rw [if_pos hn']
      simp only [hnow]
      rw [mA, if_pos hn]
theorem aliveM_eq {p : Pg} (hp : PgOk p) : aliveM p = rA (svP p) (p.code.length + 1) := by
  have hc : (svP p).code = p.code := rfl
  unfold aliveM
  rw [al_rel hp _ (Nat.le_refl _), ← hc, rA_mA]
/-! #### what Pack makes may be, all of it is needed, and Pack makes that of it again -/
theorem constant_op {x y : Ins} (h1 : x.op = y.op) (h2 : x.c = y.c) : constant x = constant y := by
  unfold constant
  rw [h1, h2]
theorem greedy_right {p : Pg} (hr : rightM p = true) : rightM (greedy (svP p)) = true := by
  have hp := pgOk hr
  have hc : (svP p).code = p.code := rfl
  have e0 : (svP p).ins = p.ins := rfl
  have hr' := hr
  simp only [rightM, headM, Bool.and_eq_true, decide_eq_true_eq] at hr'
  obtain ⟨⟨hh, ho⟩, hcd⟩ := hr'
  have hz := gR_zero hp.ok hp.inn
  have hle := gR_le hp.ok hp.inn p.code.length (by rw [hc]; exact Nat.le_refl _)
  have hm0 := gR_mono (S := svP p) (j := 0) p.code.length (by omega)
  have hcl := cnt_le (svP p) p.code.length
  simp only [rightM, Bool.and_eq_true]
  refine ⟨⟨?_, ?_⟩, ?_⟩
  · simp only [headM, greedy, gC_length, gOuts, List.length_map, decide_eq_true_eq, hc]
    show 1 ≤ p.ins ∧ p.ins ≤ _ ∧ _ ∧ _ ∧ 1 ≤ p.outs.length ∧ p.outs.length ≤ 128
    rw [e0] at hz
    omega
  · rw [outsM, List.all_eq_true]
    intro r hr2
    obtain ⟨q, hq, rfl⟩ := List.mem_map.1 (show r ∈ (svP p).outs.map _ from hr2)
    have ha := out_alive hp.inn hq
    have h1 := gP_nonneg hp.ok _ (alive_vals ha)
    have h2 := gP_lt hp.ok _ (Nat.le_refl _) ha
    exact decide_eq_true (show 0 ≤ _ ∧ _ < gR (svP p) (svP p).code.length from And.intro h1 h2)
  · rw [codeM, List.all_eq_true]
    intro x hx
    obtain ⟨j, hj, hn, rfl⟩ := gC_mem _ (show x ∈ gC (svP p) (svP p).code.length from hx)
    have hop := hp.op.ops j hj hn
    have hm : mayM (nth p.code j) p.regs = true := by
      rw [nth_get (by rw [hc] at hj; exact hj)]
      exact List.all_eq_true.1 hcd _ (List.getElem_mem _)
    have ha := asked_alive hp.inn hj hn (ask_a hop)
    have h1 := gP_nonneg hp.ok _ (alive_vals ha)
    have h2 := gP_lt hp.ok _ (by omega) ha
    have h3 := gR_mono (S := svP p) (j := j) (svP p).code.length (by omega)
    have h4 := gR_mono (S := svP p) (j := j + 1) (svP p).code.length (by omega)
    have h5 := gR_new hn
    have h6 := gP_nonneg hp.ok (j + 1) (w := j) (by rw [vals_succ hn]; simp)
    have hcc : constant (gI (svP p) j) = constant (nth p.code j) := constant_op rfl rfl
    simp only [mayM, Bool.and_eq_true, decide_eq_true_eq] at hm ⊢
    obtain ⟨⟨⟨m1, m2⟩, m3⟩, m4⟩ := hm
    have hgr : (greedy (svP p)).regs = gR (svP p) (svP p).code.length := rfl
    rw [hcc, hgr]
    rw [hc] at hop h1 h2
    refine ⟨⟨⟨⟨hop.1, hop.2, ?_, ?_, ?_⟩, m2⟩, ?_⟩, ?_⟩
    · exact h6
    · show gP (svP p) (j + 1) j < _
      omega
    · show (nth p.code j).op = 3 ∨ (nth p.code j).op = 4 ∨ (if (nth p.code j).op = 3 ∨ (nth p.code j).op = 4 then _ else (nth p.code j).b) = 0
      by_cases h34 : (nth p.code j).op = 3 ∨ (nth p.code j).op = 4
      · omega
      · rw [if_neg h34]; omega
    · show 0 ≤ gP (svP p) j (heldR (svP p) j (nth p.code j).a) ∧ gP (svP p) j (heldR (svP p) j (nth p.code j).a) < _
      exact ⟨h1, by omega⟩
    · intro h34
      have h34' : (nth (svP p).code j).op = 3 ∨ (nth (svP p).code j).op = 4 := h34
      have hb := asked_alive hp.inn hj hn (ask_b h34')
      have h7 := gP_nonneg hp.ok _ (alive_vals hb)
      have h8 := gP_lt hp.ok _ (by omega) hb
      have e : (gI (svP p) j).b = gP (svP p) j (heldR (svP p) j (nth (svP p).code j).b) := if_pos h34'
      rw [e]
      exact ⟨h7, by omega⟩
theorem greedy_need {p : Pg} (hr : rightM p = true) : neededM (greedy (svP p)) = List.replicate (greedy (svP p)).code.length true := by
  have hp := pgOk hr
  have hq := greedy_right hr
  have h0 := hp.ok.ins
  have hz := gR_zero hp.ok hp.inn
  have hm0 := gR_mono (S := svP p) (j := 0) (svP p).code.length (by omega)
  have e : ((gR (svP p) (svP p).code.length).toNat : Int) = gR (svP p) (svP p).code.length := Int.toNat_of_nonneg (by omega)
  have := neededM_R (gR (svP p) (svP p).code.length).toNat (svP p).ins (gC (svP p) (svP p).code.length) (gOuts (svP p)) (by rw [e]; exact hq)
  rw [e] at this
  show neededM ⟨_, _, _, _⟩ = _
  rw [← this, q_all hp.ok]
  show _ = List.replicate (gC _ _).length true
  rw [gC_length]
theorem greedy_sv {p : Pg} (hr : rightM p = true) : svP (greedy (svP p)) = Sq (svP p) := by
  show Sv.mk _ (neededM (greedy (svP p))) _ _ = _
  rw [greedy_need hr]
  show Sv.mk (svP p).ins (List.replicate (gC _ _).length true) _ _ = _
  rw [gC_length]
  rfl
theorem packM_right {p : Pg} (hr : rightM p = true) : rightM (packM p) = true := by rw [packM_eq (pgOk hr)]; exact greedy_right hr
theorem packM_need {p : Pg} (hr : rightM p = true) : neededM (packM p) = List.replicate (packM p).code.length true := by rw [packM_eq (pgOk hr)]; exact greedy_need hr
theorem packM_again {p : Pg} (hr : rightM p = true) : packM (packM p) = packM p := by
  have hp := pgOk hr
  rw [packM_eq (pgOk (packM_right hr)), packM_eq hp, greedy_sv hr]
  exact greedy_q hp.ok hp.inn hp.op
theorem packM_regs {p : Pg} (hr : rightM p = true) : (packM p).regs ≤ p.regs ∧ (packM p).code.length ≤ p.code.length ∧ ((packM p).regs ≤ p.ins + 1 ∨ (packM p).regs ≤ aliveM p) ∧ (packM p).outs.length = p.outs.length ∧ (packM p).ins = p.ins := by
  have hp := pgOk hr
  have hc : (svP p).code = p.code := rfl
  have h0 := hp.ok.ins
  have h1 := gR_le hp.ok hp.inn (svP p).code.length (Nat.le_refl _)
  have h2 := gR_alive hp.ok hp.inn (svP p).code.length (Nat.le_refl _)
  have hrg := hp.regs
  have e0 : (svP p).ins = p.ins := rfl
  rw [aliveM_eq hp, packM_eq hp, ← hc, rA_mA]
  refine ⟨?_, ?_, h2, ?_, rfl⟩
  · show gR _ _ ≤ _
    rw [e0] at h0
    omega
  · show (gC _ _).length ≤ _
    rw [gC_length]
    exact cnt_le _ _
  · show (gOuts _).length = _
    simp [gOuts, svP]
end Go.Proofs.Sw
namespace Go.Proofs.Sw
set_option linter.unusedVariables false
set_option linter.unusedSimpArgs false
set_option linter.unusedSectionVars false
open Go.Ab
variable [Globals]
/-! ### the reference: where values stand, which value is held, until when -/
def encPl : List (Int × Int) → List IV
  | [] => []
  | p :: l => .int .i64 p.1 :: .int .i64 p.2 :: encPl l
theorem encPl_length : ∀ l : List (Int × Int), (encPl l).length = l.length * 2
  | [] => rfl
  | p :: l => by rw [encPl, List.length_cons, List.length_cons, encPl_length l, List.length_cons]; omega
theorem encPl_append : ∀ l m : List (Int × Int), encPl (l ++ m) = encPl l ++ encPl m
  | [], m => rfl
  | p :: l, m => by rw [List.cons_append, encPl, encPl, encPl_append l m]; rfl
theorem encPl_get : ∀ {l : List (Int × Int)} {i : Nat} (h : i < l.length), (encPl l)[i * 2]? = some (.int .i64 l[i].1) ∧ (encPl l)[i * 2 + 1]? = some (.int .i64 l[i].2)
  | [], i, h => by simp at h
  | p :: l, 0, h => ⟨rfl, rfl⟩
  | p :: l, i + 1, h => by
    have := encPl_get (l := l) (i := i) (by simpa using h)
    rw [encPl, show (i + 1) * 2 = i * 2 + 1 + 1 by omega, show i * 2 + 1 + 1 + 1 = (i * 2 + 1) + 1 + 1 by omega, List.getElem?_cons_succ, List.getElem?_cons_succ, List.getElem?_cons_succ, List.getElem?_cons_succ]
    exact this
def whereM (v : Int) : List (Int × Int) → Int
  | [] => -1
  | p :: l => if p.1 = v then p.2 else whereM v l
abbrev sP (l : List (Int × Int)) (nl : Bool) (cap : Option Nat) : AV := .c (.slice (encPl l) l.length nl cap)
theorem loop_where (kf : Nat) (l0 : List (Int × Int)) (v : Int) (nl : Bool) (cap : Option Nat) (hl : l0.length ≤ 1000000) (k : Nat) (l : Ass) (z : Option Out) (hz : loopR Try.prog tab kf none LB89_2 89 24 [0, 1, 5] 0 k l ([]) = z) (hk : l0.length < k) (a0 : asc l 0 = sP l0 nl cap) (a1 : asc l 1 = ii v) (a5 : asc l 5 = ii 0) :
    ∃ l', (z = some (.exit 0 (fr 24 l') []) ∧ whereM v l0 = -1) ∨ (z = some (.ret (fr 24 l') []) ∧ asc l' 4 = ii (whereM v l0)) := by
  subst hz
  refine loop_nat l0.length (fun k l H => loopR Try.prog tab kf none LB89_2 89 24 [0, 1, 5] 0 k l H)
    (fun i l H => asc l 0 = sP l0 nl cap ∧ asc l 1 = ii v ∧ asc l 5 = ii i ∧ (whereM v l0 = whereM v (l0.drop i)) ∧ ∃ G, H = ([]) ++ G)
    (fun z => ∃ l', (z = some (.exit 0 (fr 24 l') []) ∧ whereM v l0 = -1) ∨ (z = some (.ret (fr 24 l') []) ∧ asc l' 4 = ii (whereM v l0))) ?_ l0.length 0 k l _ (by omega) hk ⟨a0, a1, a5, by simp, [], by rw [List.append_nil]⟩
  clear hk a0 a1 a5
  rintro i k l H hi ⟨a0, a1, a5, hp, G, rfl⟩
  have ht : trim 0 (fr 24 (keep l [0, 1, 5])) (([]) ++ H) = ([]) := trim_app (by simp) (by simp only [a0, a1, a5, EVb, EVc, Int.reduceEq, Int.reduceToNat, Int.reduceLE, Int.reduceLT, Int.reduceAdd, Int.reduceMul, Int.reduceSub, Int.reduceNeg, Nat.reduceAdd, Nat.reduceSub, Nat.reduceMul, Nat.reduceLT, Nat.reduceBEq, Nat.reduceEqDiff, Nat.reduceLeDiff]) (by simp only [EVb, EVc, Int.reduceEq, Int.reduceToNat, Int.reduceLE, Int.reduceLT, Int.reduceAdd, Int.reduceMul, Int.reduceSub, Int.reduceNeg, Nat.reduceAdd, Nat.reduceSub, Nat.reduceMul, Nat.reduceLT, Nat.reduceBEq, Nat.reduceEqDiff, Nat.reduceLeDiff])
  by_cases hc : i < l0.length
  · have hc' : (i : Int) < ((l0.length : Nat) : Int) := by omega
    have hc0 : (0 : Int) ≤ i := by omega
    have hw : IntKind.wrap .i64 ((i : Int) + 1) = ((i + 1 : Nat) : Int) := by rw [wrap64 (by omega) (by omega)]; omega
    obtain ⟨hx, hy⟩ := encPl_get hc
    rw [List.drop_eq_getElem_cons hc] at hp
    obtain ⟨x, hX⟩ : ∃ x, x = l0[i] := ⟨_, rfl⟩
    rw [← hX] at hx hy hp
    by_cases hv : x.1 = v
    · rw [whereM, if_pos hv] at hp
      refine .inl ?_
      simp only [loopR_succ, ht]
      simp only [a0, a1, a5, hc', hc0, hw, hx, hy, hv, loopR_succ, loopOf, findLoop, firstRegion, Option.some_or, Option.none_or, Option.getD_some, Option.some.injEq, Try.f89, EVb, EVc, Int.reduceEq, Int.reduceToNat, Int.reduceLE, Int.reduceLT, Int.reduceAdd, Int.reduceMul, Int.reduceSub, Int.reduceNeg, Nat.reduceAdd, Nat.reduceSub, Nat.reduceMul, Nat.reduceLT, Nat.reduceBEq, Nat.reduceEqDiff, Nat.reduceLeDiff, FACTS, TYPES]
      rw [hp]
      exact ⟨_, .inr ⟨rfl, (by rfl)⟩⟩
    · rw [whereM, if_neg hv] at hp
      simp only [loopR_succ, ht]
      simp only [a0, a1, a5, hc', hc0, hw, hx, hy, hv, loopR_succ, loopOf, findLoop, firstRegion, Option.some_or, Option.none_or, Option.getD_some, Option.some.injEq, Try.f89, EVb, EVc, Int.reduceEq, Int.reduceToNat, Int.reduceLE, Int.reduceLT, Int.reduceAdd, Int.reduceMul, Int.reduceSub, Int.reduceNeg, Nat.reduceAdd, Nat.reduceSub, Nat.reduceMul, Nat.reduceLT, Nat.reduceBEq, Nat.reduceEqDiff, Nat.reduceLeDiff, FACTS, TYPES]
      exact .inr ⟨_, _, hc, rfl, (by rfl), (by rfl), (by rfl), hp, ⟨[], by rfl⟩⟩
  · refine .inl ?_
    obtain rfl : i = l0.length := by omega
    have hc' : ¬ (((l0.length : Nat) : Int) < ((l0.length : Nat) : Int)) := by omega
    simp only [loopR_succ, ht]
    simp only [a0, a1, a5, hc', loopR_succ, loopOf, findLoop, firstRegion, Option.some_or, Option.none_or, Option.getD_some, Option.some.injEq, Try.f89, EVb, EVc, Int.reduceEq, Int.reduceToNat, Int.reduceLE, Int.reduceLT, Int.reduceAdd, Int.reduceMul, Int.reduceSub, Int.reduceNeg, Nat.reduceAdd, Nat.reduceSub, Nat.reduceMul, Nat.reduceLT, Nat.reduceBEq, Nat.reduceEqDiff, Nat.reduceLeDiff, FACTS, TYPES]
    rw [List.drop_length] at hp
    exact ⟨_, .inl ⟨rfl, hp⟩⟩

theorem where_ev (k : Nat) (l0 : List (Int × Int)) (v : Int) (nl : Bool) (cap : Option Nat) (hl : l0.length ≤ 1000000) (hk : l0.length < k) : run (k+1) 89 [sP l0 nl cap, ii v] = some (ii (whereM v l0)) := by
  rw [run, ev89, ans_trim]
  simp only [Try.f89, ii, EVb, EVc, Int.reduceEq, Int.reduceToNat, Int.reduceLE, Int.reduceLT, Int.reduceAdd, Int.reduceMul, Int.reduceSub, Int.reduceNeg, Nat.reduceAdd, Nat.reduceSub, Nat.reduceMul, Nat.reduceLT, Nat.reduceBEq, Nat.reduceEqDiff, Nat.reduceLeDiff, FACTS, TYPES]
  rw [evalCode_loopB LB89_2 lp89_2]; rotate_left; rfl; rfl; rfl
  generalize hz : loopR _ _ _ _ _ _ _ _ _ _ _ _ = z
  obtain ⟨l', ⟨rfl, h⟩ | ⟨rfl, h⟩⟩ := loop_where k l0 v nl cap hl _ _ z hz hk (by rfl) (by rfl) (by rfl)
  · clear hz
    simp only [h, EVb, EVc, Int.reduceEq, Int.reduceToNat, Int.reduceLE, Int.reduceLT, Int.reduceAdd, Int.reduceMul, Int.reduceSub, Int.reduceNeg, Nat.reduceAdd, Nat.reduceSub, Nat.reduceMul, Nat.reduceLT, Nat.reduceBEq, Nat.reduceEqDiff, Nat.reduceLeDiff, FACTS, TYPES]
  · clear hz
    simp only [h, EVb, EVc, Int.reduceEq, Int.reduceToNat, Int.reduceLE, Int.reduceLT, Int.reduceAdd, Int.reduceMul, Int.reduceSub, Int.reduceNeg, Nat.reduceAdd, Nat.reduceSub, Nat.reduceMul, Nat.reduceLT, Nat.reduceBEq, Nat.reduceEqDiff, Nat.reduceLeDiff, FACTS, TYPES]
theorem loop_Held (kf : Nat) (ins : Int) (x1 x3 : IV) (need : List Bool) (code : List Ins) (nl : Bool) (cap : Option Nat) (nl2 : Bool) (cap2 : Option Nat) (outs : List Int) (kk : Nat) (r : Int) (hkk : kk ≤ code.length) (hnd : need.length = code.length) (hl : code.length ≤ 1000000) (k : Nat) (l : Ass) (z : Option Out) (hz : loopR Try.prog tab kf none LB90_2 90 37 [1, 3, 4, 9] 1 k l ([.cells 25 [ii ins, .c x1, sC code nl cap, .c x3]]) = z) (hk : kk < k) (a1 : asc l 1 = sB need nl2 cap2) (a3 : asc l 3 = ii r) (a4 : asc l 4 = .ptr 0 0) (a9 : asc l 9 = ii ((kk : Int) - 1 - 0)) :
    ∃ l', (z = some (.exit 0 (fr 37 l') [.cells 25 [ii ins, .c x1, sC code nl cap, .c x3]]) ∧ asc l' 3 = ii r ∧ asc l' 4 = .ptr 0 0 ∧ heldR ⟨ins, need, code, outs⟩ kk r = heldR ⟨ins, need, code, outs⟩ 0 r) ∨ (z = some (.ret (fr 37 l') [.cells 25 [ii ins, .c x1, sC code nl cap, .c x3]]) ∧ asc l' 8 = ii (heldR ⟨ins, need, code, outs⟩ kk r)) := by
  subst hz
  refine loop_nat kk (fun k l H => loopR Try.prog tab kf none LB90_2 90 37 [1, 3, 4, 9] 1 k l H)
    (fun i l H => asc l 1 = sB need nl2 cap2 ∧ asc l 3 = ii r ∧ asc l 4 = .ptr 0 0 ∧ asc l 9 = ii ((kk : Int) - 1 - i) ∧ (heldR ⟨ins, need, code, outs⟩ kk r = heldR ⟨ins, need, code, outs⟩ (kk - i) r) ∧ ∃ G, H = ([.cells 25 [ii ins, .c x1, sC code nl cap, .c x3]]) ++ G)
    (fun z => ∃ l', (z = some (.exit 0 (fr 37 l') [.cells 25 [ii ins, .c x1, sC code nl cap, .c x3]]) ∧ asc l' 3 = ii r ∧ asc l' 4 = .ptr 0 0 ∧ heldR ⟨ins, need, code, outs⟩ kk r = heldR ⟨ins, need, code, outs⟩ 0 r) ∨ (z = some (.ret (fr 37 l') [.cells 25 [ii ins, .c x1, sC code nl cap, .c x3]]) ∧ asc l' 8 = ii (heldR ⟨ins, need, code, outs⟩ kk r))) ?_ kk 0 k l _ (by omega) hk ⟨a1, a3, a4, a9, by simp, [], by rw [List.append_nil]⟩
  clear hk a1 a3 a4 a9
  rintro i k l H hi ⟨a1, a3, a4, a9, hp, G, rfl⟩
  have ht : trim 1 (fr 37 (keep l [1, 3, 4, 9])) (([.cells 25 [ii ins, .c x1, sC code nl cap, .c x3]]) ++ G) = ([.cells 25 [ii ins, .c x1, sC code nl cap, .c x3]]) := trim_app (by simp) (by simp only [a1, a3, a4, a9, EVb, EVc, Int.reduceEq, Int.reduceToNat, Int.reduceLE, Int.reduceLT, Int.reduceAdd, Int.reduceMul, Int.reduceSub, Int.reduceNeg, Nat.reduceAdd, Nat.reduceSub, Nat.reduceMul, Nat.reduceLT, Nat.reduceBEq, Nat.reduceEqDiff, Nat.reduceLeDiff]) (by simp only [EVb, EVc, Int.reduceEq, Int.reduceToNat, Int.reduceLE, Int.reduceLT, Int.reduceAdd, Int.reduceMul, Int.reduceSub, Int.reduceNeg, Nat.reduceAdd, Nat.reduceSub, Nat.reduceMul, Nat.reduceLT, Nat.reduceBEq, Nat.reduceEqDiff, Nat.reduceLeDiff])
  by_cases hc : i < kk
  · have hc' : (i : Int) < ((kk : Nat) : Int) := by omega
    have hc0 : (0 : Int) ≤ i := by omega
    have hw : IntKind.wrap .i64 ((i : Int) + 1) = ((i + 1 : Nat) : Int) := by rw [wrap64 (by omega) (by omega)]; omega
    obtain ⟨j, hj⟩ : ∃ j, kk = j + 1 + i := ⟨kk - 1 - i, by omega⟩
    have e1 : kk - i = j + 1 := by omega
    have e2 : kk - (i + 1) = j := by omega
    have e3 : (kk : Int) - 1 - (i : Int) = (j : Int) := by omega
    have e4 : (kk : Int) - 1 - ((i + 1 : Nat) : Int) = (j : Int) - 1 := by omega
    rw [e3] at a9
    rw [e1, heldR] at hp
    simp only at hp
    rw [e2, e4]
    have hj0 : (0 : Int) ≤ j := by omega
    have hj1 : (j : Int) < code.length := by omega
    have hnl : (encB need).length = code.length := by rw [encB_length, hnd]
    have hnb := encB_nat (l := need) (i := j) (by omega)
    have hto := encCode_to (l := code) (i := j) (by omega)
    rw [← nth_get (show j < code.length by omega)] at hto
    obtain ⟨x, hX⟩ : ∃ x, x = nth code j := ⟨_, rfl⟩
    rw [← hX] at hto hp
    have hw2 : IntKind.wrap .i64 ((j : Int) - 1) = (j : Int) - 1 := by rw [wrap64 (by omega) (by omega)]
    have hnn : nd need j = need.getD j false := rfl
    rw [hnn] at hp
    cases hni : need.getD j false with
    | false =>
      rw [hni] at hnb
      rw [hni, if_neg (by simp)] at hp
      simp only [loopR_succ, ht]
      simp only [a1, a3, a4, a9, hc', hc0, hw, hnb, hnl, hnd, hj0, hj1, hto, hw2, loopR_succ, loopOf, findLoop, firstRegion, Option.some_or, Option.none_or, Option.getD_some, Option.some.injEq, Try.f90, EVb, EVc, Int.reduceEq, Int.reduceToNat, Int.reduceLE, Int.reduceLT, Int.reduceAdd, Int.reduceMul, Int.reduceSub, Int.reduceNeg, Nat.reduceAdd, Nat.reduceSub, Nat.reduceMul, Nat.reduceLT, Nat.reduceBEq, Nat.reduceEqDiff, Nat.reduceLeDiff, FACTS, TYPES]
      exact .inr ⟨_, _, hc, rfl, (by rfl), (by rfl), (by rfl), (by rfl), hp, ⟨[], by rfl⟩⟩
    | true =>
      rw [hni] at hnb
      by_cases hr : x.to = r
      · rw [hni, if_pos ⟨rfl, hr⟩] at hp
        refine .inl ?_
        simp only [loopR_succ, ht]
        simp only [a1, a3, a4, a9, hc', hc0, hw, hnb, hnl, hnd, hj0, hj1, hto, hw2, hr, loopR_succ, loopOf, findLoop, firstRegion, Option.some_or, Option.none_or, Option.getD_some, Option.some.injEq, Try.f90, EVb, EVc, Int.reduceEq, Int.reduceToNat, Int.reduceLE, Int.reduceLT, Int.reduceAdd, Int.reduceMul, Int.reduceSub, Int.reduceNeg, Nat.reduceAdd, Nat.reduceSub, Nat.reduceMul, Nat.reduceLT, Nat.reduceBEq, Nat.reduceEqDiff, Nat.reduceLeDiff, FACTS, TYPES]
        rw [hp]
        exact ⟨_, .inr ⟨rfl, (by rfl)⟩⟩
      · rw [hni, if_neg (by simp [hr])] at hp
        simp only [loopR_succ, ht]
        simp only [a1, a3, a4, a9, hc', hc0, hw, hnb, hnl, hnd, hj0, hj1, hto, hw2, hr, loopR_succ, loopOf, findLoop, firstRegion, Option.some_or, Option.none_or, Option.getD_some, Option.some.injEq, Try.f90, EVb, EVc, Int.reduceEq, Int.reduceToNat, Int.reduceLE, Int.reduceLT, Int.reduceAdd, Int.reduceMul, Int.reduceSub, Int.reduceNeg, Nat.reduceAdd, Nat.reduceSub, Nat.reduceMul, Nat.reduceLT, Nat.reduceBEq, Nat.reduceEqDiff, Nat.reduceLeDiff, FACTS, TYPES]
        exact .inr ⟨_, _, hc, rfl, (by rfl), (by rfl), (by rfl), (by rfl), hp, ⟨[], by rfl⟩⟩
  · refine .inl ?_
    obtain rfl : i = kk := by omega
    have hc' : ¬ (((i : Nat) : Int) < ((i : Nat) : Int)) := by omega
    have hlt : ¬ ((0 : Int) ≤ (i : Int) - 1 - i) := by omega
    rw [Nat.sub_self] at hp
    simp only [loopR_succ, ht]
    simp only [a1, a3, a4, a9, hlt, loopR_succ, loopOf, findLoop, firstRegion, Option.some_or, Option.none_or, Option.getD_some, Option.some.injEq, Try.f90, EVb, EVc, Int.reduceEq, Int.reduceToNat, Int.reduceLE, Int.reduceLT, Int.reduceAdd, Int.reduceMul, Int.reduceSub, Int.reduceNeg, Nat.reduceAdd, Nat.reduceSub, Nat.reduceMul, Nat.reduceLT, Nat.reduceBEq, Nat.reduceEqDiff, Nat.reduceLeDiff, FACTS, TYPES]
    exact ⟨_, .inl ⟨rfl, (by rfl), (by rfl), hp⟩⟩

theorem Held_ev (k : Nat) (ins n : Int) (need : List Bool) (code : List Ins) (outs : List Int) (nl : Bool) (cap : Option Nat) (nl2 : Bool) (cap2 : Option Nat) (nl3 : Bool) (cap3 : Option Nat) (kk : Nat) (r : Int) (hkk : kk ≤ code.length) (hnd : need.length = code.length) (hl : code.length ≤ 1000000) (hr0 : 0 ≤ r) (hr1 : r ≤ 1000000) (hk : kk < k) :
    run (k+1) 90 [aP ⟨ins, n, code, outs⟩ nl cap nl2 cap2, sB need nl3 cap3, ii kk, ii r] = some (ii (heldR ⟨ins, need, code, outs⟩ kk r)) := by
  rw [run, ev90, ans_trim]
  have hw1 : IntKind.wrap .i64 ((kk : Int) - 1) = (kk : Int) - 1 := by rw [wrap64 (by omega) (by omega)]
  have hw2 : IntKind.wrap .i64 (-1 - r) = -1 - r := by rw [wrap64 (by omega) (by omega)]
  simp only [Try.f90, aP, ii, hw1, EVb, EVc, Int.reduceEq, Int.reduceToNat, Int.reduceLE, Int.reduceLT, Int.reduceAdd, Int.reduceMul, Int.reduceSub, Int.reduceNeg, Nat.reduceAdd, Nat.reduceSub, Nat.reduceMul, Nat.reduceLT, Nat.reduceBEq, Nat.reduceEqDiff, Nat.reduceLeDiff, FACTS, TYPES]
  rw [evalCode_loopB LB90_2 lp90_2]; rotate_left; rfl; rfl; rfl
  generalize hz : loopR _ _ _ _ _ _ _ _ _ _ _ _ = z
  obtain ⟨l', ⟨rfl, e3, e4, h⟩ | ⟨rfl, h⟩⟩ := loop_Held k ins _ _ need code nl cap nl3 cap3 outs kk r hkk hnd hl _ _ z hz hk (by rfl) (by rfl) (by rfl) (by rw [show (kk : Int) - 1 - 0 = (kk : Int) - 1 by omega]; rfl)
  · clear hz
    rw [heldR] at h
    simp only at h
    by_cases hri : r < ins
    · rw [if_pos hri] at h
      simp only [e3, e4, hri, hw2, EVb, EVc, Int.reduceEq, Int.reduceToNat, Int.reduceLE, Int.reduceLT, Int.reduceAdd, Int.reduceMul, Int.reduceSub, Int.reduceNeg, Nat.reduceAdd, Nat.reduceSub, Nat.reduceMul, Nat.reduceLT, Nat.reduceBEq, Nat.reduceEqDiff, Nat.reduceLeDiff, FACTS, TYPES]
      rw [h]
    · rw [if_neg hri] at h
      simp only [e3, e4, hri, hw2, EVb, EVc, Int.reduceEq, Int.reduceToNat, Int.reduceLE, Int.reduceLT, Int.reduceAdd, Int.reduceMul, Int.reduceSub, Int.reduceNeg, Nat.reduceAdd, Nat.reduceSub, Nat.reduceMul, Nat.reduceLT, Nat.reduceBEq, Nat.reduceEqDiff, Nat.reduceLeDiff, FACTS, TYPES]
      rw [h]
  · clear hz
    simp only [h, EVb, EVc, Int.reduceEq, Int.reduceToNat, Int.reduceLE, Int.reduceLT, Int.reduceAdd, Int.reduceMul, Int.reduceSub, Int.reduceNeg, Nat.reduceAdd, Nat.reduceSub, Nat.reduceMul, Nat.reduceLT, Nat.reduceBEq, Nat.reduceEqDiff, Nat.reduceLeDiff, FACTS, TYPES]
end Go.Proofs.Sw
namespace Go.Proofs.Sw
set_option linter.unusedVariables false
set_option linter.unusedSimpArgs false
set_option linter.unusedSectionVars false
open Go.Ab
variable [Globals]
theorem any_drop {l : List Int} {f : Int → Bool} {i : Nat} (h : i < l.length) : (l.drop i).any f = (f l[i] || (l.drop (i + 1)).any f) := by
  rw [List.drop_eq_getElem_cons h, List.any_cons]
theorem loop_Until3 (kf : Nat) (ins n : Int) (need : List Bool) (code : List Ins) (outs : List Int) (nl : Bool) (cap : Option Nat) (nl2 : Bool) (cap2 : Option Nat) (nl3 : Bool) (cap3 : Option Nat) (v : Int) (hnd : need.length = code.length) (hl : code.length ≤ 1000000) (hl2 : outs.length ≤ 1000000) (ho : ∀ r ∈ outs, 0 ≤ r ∧ r ≤ 1000000) (hkf : code.length < kf) (k : Nat) (l : Ass) (z : Option Out) (hz : loopR Try.prog tab (kf + 1) none LB88_3 88 69 [1, 2, 3, 7, 8] 1 k l ([.cells 25 [ii ins, ii n, sC code nl cap, sI outs nl2 cap2]]) = z) (hk : outs.length < k) (a1 : asc l 1 = sB need nl3 cap3) (a2 : asc l 2 = ii v) (a3 : asc l 3 = .ptr 0 0) (a7 : asc l 7 = ii code.length) (a8 : asc l 8 = ii 0) :
    ∃ l', (z = some (.exit 0 (fr 69 l') [.cells 25 [ii ins, ii n, sC code nl cap, sI outs nl2 cap2]]) ∧ asc l' 1 = sB need nl3 cap3 ∧ asc l' 2 = ii v ∧ asc l' 3 = .ptr 0 0 ∧ asc l' 7 = ii code.length ∧ outV ⟨ins, need, code, outs⟩ v = false) ∨ (∃ H', z = some (.ret (fr 69 l') H') ∧ asc l' 6 = ii code.length ∧ outV ⟨ins, need, code, outs⟩ v = true) := by
  subst hz
  refine loop_nat outs.length (fun k l H => loopR Try.prog tab (kf + 1) none LB88_3 88 69 [1, 2, 3, 7, 8] 1 k l H)
    (fun i l H => asc l 1 = sB need nl3 cap3 ∧ asc l 2 = ii v ∧ asc l 3 = .ptr 0 0 ∧ asc l 7 = ii code.length ∧ asc l 8 = ii i ∧ (outV ⟨ins, need, code, outs⟩ v = (outs.drop i).any fun r => decide (heldR ⟨ins, need, code, outs⟩ code.length r = v)) ∧ ∃ G, H = ([.cells 25 [ii ins, ii n, sC code nl cap, sI outs nl2 cap2]]) ++ G)
    (fun z => ∃ l', (z = some (.exit 0 (fr 69 l') [.cells 25 [ii ins, ii n, sC code nl cap, sI outs nl2 cap2]]) ∧ asc l' 1 = sB need nl3 cap3 ∧ asc l' 2 = ii v ∧ asc l' 3 = .ptr 0 0 ∧ asc l' 7 = ii code.length ∧ outV ⟨ins, need, code, outs⟩ v = false) ∨ (∃ H', z = some (.ret (fr 69 l') H') ∧ asc l' 6 = ii code.length ∧ outV ⟨ins, need, code, outs⟩ v = true)) ?_ outs.length 0 k l _ (by omega) hk ⟨a1, a2, a3, a7, a8, rfl, [], by rw [List.append_nil]⟩
  clear hk a1 a2 a3 a7 a8
  rintro i k l H hi ⟨a1, a2, a3, a7, a8, hp, G, rfl⟩
  have ht : trim 1 (fr 69 (keep l [1, 2, 3, 7, 8])) (([.cells 25 [ii ins, ii n, sC code nl cap, sI outs nl2 cap2]]) ++ G) = ([.cells 25 [ii ins, ii n, sC code nl cap, sI outs nl2 cap2]]) := trim_app (by simp) (by simp only [a1, a2, a3, a7, a8, EVb, EVc, Int.reduceEq, Int.reduceToNat, Int.reduceLE, Int.reduceLT, Int.reduceAdd, Int.reduceMul, Int.reduceSub, Int.reduceNeg, Nat.reduceAdd, Nat.reduceSub, Nat.reduceMul, Nat.reduceLT, Nat.reduceBEq, Nat.reduceEqDiff, Nat.reduceLeDiff]) (by simp only [EVb, EVc, Int.reduceEq, Int.reduceToNat, Int.reduceLE, Int.reduceLT, Int.reduceAdd, Int.reduceMul, Int.reduceSub, Int.reduceNeg, Nat.reduceAdd, Nat.reduceSub, Nat.reduceMul, Nat.reduceLT, Nat.reduceBEq, Nat.reduceEqDiff, Nat.reduceLeDiff])
  by_cases hc : i < outs.length
  · have hc' : (i : Int) < ((outs.length : Nat) : Int) := by omega
    have hc0 : (0 : Int) ≤ i := by omega
    have hw : IntKind.wrap .i64 ((i : Int) + 1) = ((i + 1 : Nat) : Int) := by rw [wrap64 (by omega) (by omega)]; omega
    have hx := encInts_get hc
    rw [any_drop hc] at hp
    have hxm := ho _ (List.getElem_mem hc)
    obtain ⟨x, hX⟩ : ∃ x, x = outs[i] := ⟨_, rfl⟩
    rw [← hX] at hx hp hxm
    have hH := Held_ev kf ins n need code outs nl cap nl2 cap2 nl3 cap3 code.length x (Nat.le_refl _) hnd hl hxm.1 hxm.2 hkf
    simp only [run, aP, ii, sC, sI, sB] at hH
    by_cases hv : heldR ⟨ins, need, code, outs⟩ code.length x = v
    · rw [decide_eq_true hv, Bool.true_or] at hp
      refine .inl ?_
      simp only [loopR_succ, ht]
      simp only [a1, a2, a3, a7, a8, hc', hc0, hw, hx, loopR_succ, loopOf, findLoop, firstRegion, Option.some_or, Option.none_or, Option.getD_some, Option.some.injEq, Try.f88, EVb, EVc, Int.reduceEq, Int.reduceToNat, Int.reduceLE, Int.reduceLT, Int.reduceAdd, Int.reduceMul, Int.reduceSub, Int.reduceNeg, Nat.reduceAdd, Nat.reduceSub, Nat.reduceMul, Nat.reduceLT, Nat.reduceBEq, Nat.reduceEqDiff, Nat.reduceLeDiff, FACTS, TYPES]
      rw [evalCode_drawn Try.f88 5 dr88_5]; rotate_left; rfl
      simp only [a1, a2, a3, a7, a8, hc', hc0, hw, hx, hH, hv, EVd, Nat.reducePow, Nat.reduceDiv, Nat.reduceMod, EVb, EVc, Int.reduceEq, Int.reduceToNat, Int.reduceLE, Int.reduceLT, Int.reduceAdd, Int.reduceMul, Int.reduceSub, Int.reduceNeg, Nat.reduceAdd, Nat.reduceSub, Nat.reduceMul, Nat.reduceLT, Nat.reduceBEq, Nat.reduceEqDiff, Nat.reduceLeDiff, FACTS, TYPES]
      exact ⟨_, .inr ⟨_, rfl, (by rfl), hp⟩⟩
    · rw [decide_eq_false hv, Bool.false_or] at hp
      simp only [loopR_succ, ht]
      simp only [a1, a2, a3, a7, a8, hc', hc0, hw, hx, loopR_succ, loopOf, findLoop, firstRegion, Option.some_or, Option.none_or, Option.getD_some, Option.some.injEq, Try.f88, EVb, EVc, Int.reduceEq, Int.reduceToNat, Int.reduceLE, Int.reduceLT, Int.reduceAdd, Int.reduceMul, Int.reduceSub, Int.reduceNeg, Nat.reduceAdd, Nat.reduceSub, Nat.reduceMul, Nat.reduceLT, Nat.reduceBEq, Nat.reduceEqDiff, Nat.reduceLeDiff, FACTS, TYPES]
      rw [evalCode_drawn Try.f88 5 dr88_5]; rotate_left; rfl
      simp only [a1, a2, a3, a7, a8, hc', hc0, hw, hx, hH, hv, EVd, Nat.reducePow, Nat.reduceDiv, Nat.reduceMod, EVb, EVc, Int.reduceEq, Int.reduceToNat, Int.reduceLE, Int.reduceLT, Int.reduceAdd, Int.reduceMul, Int.reduceSub, Int.reduceNeg, Nat.reduceAdd, Nat.reduceSub, Nat.reduceMul, Nat.reduceLT, Nat.reduceBEq, Nat.reduceEqDiff, Nat.reduceLeDiff, FACTS, TYPES]
      exact .inr ⟨_, _, hc, rfl, (by rfl), (by rfl), (by rfl), (by rfl), (by rfl), hp, ⟨_, by rfl⟩⟩
  · refine .inl ?_
    obtain rfl : i = outs.length := by omega
    have hc' : ¬ (((outs.length : Nat) : Int) < ((outs.length : Nat) : Int)) := by omega
    simp only [loopR_succ, ht]
    simp only [a1, a2, a3, a7, a8, hc', loopR_succ, loopOf, findLoop, firstRegion, Option.some_or, Option.none_or, Option.getD_some, Option.some.injEq, Try.f88, EVb, EVc, Int.reduceEq, Int.reduceToNat, Int.reduceLE, Int.reduceLT, Int.reduceAdd, Int.reduceMul, Int.reduceSub, Int.reduceNeg, Nat.reduceAdd, Nat.reduceSub, Nat.reduceMul, Nat.reduceLT, Nat.reduceBEq, Nat.reduceEqDiff, Nat.reduceLeDiff, FACTS, TYPES]
    rw [List.drop_length] at hp
    exact ⟨_, .inl ⟨rfl, (by rfl), (by rfl), (by rfl), (by rfl), hp⟩⟩

theorem loop_Until12 (kf : Nat) (ins n : Int) (need : List Bool) (code : List Ins) (outs : List Int) (nl : Bool) (cap : Option Nat) (nl2 : Bool) (cap2 : Option Nat) (nl3 : Bool) (cap3 : Option Nat) (nl4 : Bool) (cap4 : Option Nat) (v : Int) (j : Nat) (ls : List Int) (hj : j < code.length) (hnd : need.length = code.length) (hl : code.length ≤ 1000000) (hl2 : ls.length ≤ 1000000) (ho : need.getD j false = true → ∀ r ∈ ls, 0 ≤ r ∧ r ≤ 1000000) (hkf : code.length < kf) (k : Nat) (l : Ass) (z : Option Out) (hz : loopR Try.prog tab (kf + 1) none LB88_12 88 69 [1, 2, 3, 9, 10, 11] 1 k l ([.cells 25 [ii ins, ii n, sC code nl cap, sI outs nl2 cap2]]) = z) (hk : ls.length < k) (a1 : asc l 1 = sB need nl3 cap3) (a2 : asc l 2 = ii v) (a3 : asc l 3 = .ptr 0 0) (a9 : asc l 9 = ii j) (a10 : asc l 10 = sI ls nl4 cap4) (a11 : asc l 11 = ii 0) :
    ∃ l', (z = some (.exit 4 (fr 69 l') [.cells 25 [ii ins, ii n, sC code nl cap, sI outs nl2 cap2]]) ∧ asc l' 1 = sB need nl3 cap3 ∧ asc l' 2 = ii v ∧ asc l' 3 = .ptr 0 0 ∧ asc l' 9 = ii j ∧ (need.getD j false && ls.any fun r => decide (heldR ⟨ins, need, code, outs⟩ j r = v)) = false) ∨ (∃ H', z = some (.ret (fr 69 l') H') ∧ asc l' 6 = ii j ∧ (need.getD j false && ls.any fun r => decide (heldR ⟨ins, need, code, outs⟩ j r = v)) = true) := by
  subst hz
  refine loop_nat ls.length (fun k l H => loopR Try.prog tab (kf + 1) none LB88_12 88 69 [1, 2, 3, 9, 10, 11] 1 k l H)
    (fun i l H => asc l 1 = sB need nl3 cap3 ∧ asc l 2 = ii v ∧ asc l 3 = .ptr 0 0 ∧ asc l 9 = ii j ∧ asc l 10 = sI ls nl4 cap4 ∧ asc l 11 = ii i ∧ ((need.getD j false && ls.any fun r => decide (heldR ⟨ins, need, code, outs⟩ j r = v)) = (need.getD j false && (ls.drop i).any fun r => decide (heldR ⟨ins, need, code, outs⟩ j r = v))) ∧ ∃ G, H = ([.cells 25 [ii ins, ii n, sC code nl cap, sI outs nl2 cap2]]) ++ G)
    (fun z => ∃ l', (z = some (.exit 4 (fr 69 l') [.cells 25 [ii ins, ii n, sC code nl cap, sI outs nl2 cap2]]) ∧ asc l' 1 = sB need nl3 cap3 ∧ asc l' 2 = ii v ∧ asc l' 3 = .ptr 0 0 ∧ asc l' 9 = ii j ∧ (need.getD j false && ls.any fun r => decide (heldR ⟨ins, need, code, outs⟩ j r = v)) = false) ∨ (∃ H', z = some (.ret (fr 69 l') H') ∧ asc l' 6 = ii j ∧ (need.getD j false && ls.any fun r => decide (heldR ⟨ins, need, code, outs⟩ j r = v)) = true)) ?_ ls.length 0 k l _ (by omega) hk ⟨a1, a2, a3, a9, a10, a11, rfl, [], by rw [List.append_nil]⟩
  clear hk a1 a2 a3 a9 a10 a11
  rintro i k l H hi ⟨a1, a2, a3, a9, a10, a11, hp, G, rfl⟩
  have ht : trim 1 (fr 69 (keep l [1, 2, 3, 9, 10, 11])) (([.cells 25 [ii ins, ii n, sC code nl cap, sI outs nl2 cap2]]) ++ G) = ([.cells 25 [ii ins, ii n, sC code nl cap, sI outs nl2 cap2]]) := trim_app (by simp) (by simp only [a1, a2, a3, a9, a10, a11, EVb, EVc, Int.reduceEq, Int.reduceToNat, Int.reduceLE, Int.reduceLT, Int.reduceAdd, Int.reduceMul, Int.reduceSub, Int.reduceNeg, Nat.reduceAdd, Nat.reduceSub, Nat.reduceMul, Nat.reduceLT, Nat.reduceBEq, Nat.reduceEqDiff, Nat.reduceLeDiff]) (by simp only [EVb, EVc, Int.reduceEq, Int.reduceToNat, Int.reduceLE, Int.reduceLT, Int.reduceAdd, Int.reduceMul, Int.reduceSub, Int.reduceNeg, Nat.reduceAdd, Nat.reduceSub, Nat.reduceMul, Nat.reduceLT, Nat.reduceBEq, Nat.reduceEqDiff, Nat.reduceLeDiff])
  by_cases hc : i < ls.length
  · have hc' : (i : Int) < ((ls.length : Nat) : Int) := by omega
    have hc0 : (0 : Int) ≤ i := by omega
    have hw : IntKind.wrap .i64 ((i : Int) + 1) = ((i + 1 : Nat) : Int) := by rw [wrap64 (by omega) (by omega)]; omega
    have hx := encInts_get hc
    rw [any_drop hc] at hp
    have hxm := fun h => ho h _ (List.getElem_mem hc)
    obtain ⟨x, hX⟩ : ∃ x, x = ls[i] := ⟨_, rfl⟩
    rw [← hX] at hx hp
    rw [← hX] at hxm
    have hnl : (encB need).length = code.length := by rw [encB_length, hnd]
    have hnb := encB_nat (l := need) (i := j) (by omega)
    have hj0 : (0 : Int) ≤ j := by omega
    have hj1 : (j : Int) < code.length := by omega
    by_cases hni : need.getD j false = true
    · rw [hni] at hnb hp
      obtain ⟨x0, x1⟩ := hxm hni
      have hH := Held_ev kf ins n need code outs nl cap nl2 cap2 nl3 cap3 j x (by omega) hnd hl x0 x1 (by omega)
      simp only [run, aP, ii, sC, sI, sB] at hH
      by_cases hv : heldR ⟨ins, need, code, outs⟩ j x = v
      · rw [decide_eq_true hv, Bool.true_or, Bool.true_and, Bool.true_and] at hp
        refine .inl ?_
        simp only [loopR_succ, ht]
        simp only [a1, a2, a3, a9, a10, a11, hc', hc0, hw, hx, hnb, hnl, hnd, hj0, hj1, loopR_succ, loopOf, findLoop, firstRegion, Option.some_or, Option.none_or, Option.getD_some, Option.some.injEq, Try.f88, EVb, EVc, Int.reduceEq, Int.reduceToNat, Int.reduceLE, Int.reduceLT, Int.reduceAdd, Int.reduceMul, Int.reduceSub, Int.reduceNeg, Nat.reduceAdd, Nat.reduceSub, Nat.reduceMul, Nat.reduceLT, Nat.reduceBEq, Nat.reduceEqDiff, Nat.reduceLeDiff, FACTS, TYPES]
        rw [evalCode_drawn Try.f88 14 dr88_14]; rotate_left; rfl
        simp only [a1, a2, a3, a9, a10, a11, hc', hc0, hw, hx, hH, hv, EVd, Nat.reducePow, Nat.reduceDiv, Nat.reduceMod, EVb, EVc, Int.reduceEq, Int.reduceToNat, Int.reduceLE, Int.reduceLT, Int.reduceAdd, Int.reduceMul, Int.reduceSub, Int.reduceNeg, Nat.reduceAdd, Nat.reduceSub, Nat.reduceMul, Nat.reduceLT, Nat.reduceBEq, Nat.reduceEqDiff, Nat.reduceLeDiff, FACTS, TYPES]
        exact ⟨_, .inr ⟨_, rfl, (by rfl), by rw [hni, Bool.true_and]; exact hp⟩⟩
      · rw [decide_eq_false hv, Bool.false_or] at hp
        simp only [loopR_succ, ht]
        simp only [a1, a2, a3, a9, a10, a11, hc', hc0, hw, hx, hnb, hnl, hnd, hj0, hj1, loopR_succ, loopOf, findLoop, firstRegion, Option.some_or, Option.none_or, Option.getD_some, Option.some.injEq, Try.f88, EVb, EVc, Int.reduceEq, Int.reduceToNat, Int.reduceLE, Int.reduceLT, Int.reduceAdd, Int.reduceMul, Int.reduceSub, Int.reduceNeg, Nat.reduceAdd, Nat.reduceSub, Nat.reduceMul, Nat.reduceLT, Nat.reduceBEq, Nat.reduceEqDiff, Nat.reduceLeDiff, FACTS, TYPES]
        rw [evalCode_drawn Try.f88 14 dr88_14]; rotate_left; rfl
        simp only [a1, a2, a3, a9, a10, a11, hc', hc0, hw, hx, hH, hv, EVd, Nat.reducePow, Nat.reduceDiv, Nat.reduceMod, EVb, EVc, Int.reduceEq, Int.reduceToNat, Int.reduceLE, Int.reduceLT, Int.reduceAdd, Int.reduceMul, Int.reduceSub, Int.reduceNeg, Nat.reduceAdd, Nat.reduceSub, Nat.reduceMul, Nat.reduceLT, Nat.reduceBEq, Nat.reduceEqDiff, Nat.reduceLeDiff, FACTS, TYPES]
        exact .inr ⟨_, _, hc, rfl, (by rfl), (by rfl), (by rfl), (by rfl), (by rfl), (by rfl), (by rw [hni]; exact hp), ⟨_, by rfl⟩⟩
    · have hni' : need.getD j false = false := by simpa using hni
      rw [hni'] at hnb
      refine .inl ?_
      simp only [loopR_succ, ht]
      simp only [a1, a2, a3, a9, a10, a11, hc', hc0, hw, hx, hnb, hnl, hnd, hj0, hj1, loopR_succ, loopOf, findLoop, firstRegion, Option.some_or, Option.none_or, Option.getD_some, Option.some.injEq, Try.f88, EVb, EVc, Int.reduceEq, Int.reduceToNat, Int.reduceLE, Int.reduceLT, Int.reduceAdd, Int.reduceMul, Int.reduceSub, Int.reduceNeg, Nat.reduceAdd, Nat.reduceSub, Nat.reduceMul, Nat.reduceLT, Nat.reduceBEq, Nat.reduceEqDiff, Nat.reduceLeDiff, FACTS, TYPES]
      exact ⟨_, .inl ⟨rfl, (by rfl), (by rfl), (by rfl), (by rfl), by rw [hni', Bool.false_and]⟩⟩
  · refine .inl ?_
    obtain rfl : i = ls.length := by omega
    have hc' : ¬ (((ls.length : Nat) : Int) < ((ls.length : Nat) : Int)) := by omega
    simp only [loopR_succ, ht]
    simp only [a1, a2, a3, a9, a10, a11, hc', loopR_succ, loopOf, findLoop, firstRegion, Option.some_or, Option.none_or, Option.getD_some, Option.some.injEq, Try.f88, EVb, EVc, Int.reduceEq, Int.reduceToNat, Int.reduceLE, Int.reduceLT, Int.reduceAdd, Int.reduceMul, Int.reduceSub, Int.reduceNeg, Nat.reduceAdd, Nat.reduceSub, Nat.reduceMul, Nat.reduceLT, Nat.reduceBEq, Nat.reduceEqDiff, Nat.reduceLeDiff, FACTS, TYPES]
    rw [List.drop_length, List.any_nil, Bool.and_false] at hp
    exact ⟨_, .inl ⟨rfl, (by rfl), (by rfl), (by rfl), (by rfl), hp⟩⟩

theorem loop_Until8 (kf : Nat) (ins n : Int) (need : List Bool) (code : List Ins) (outs : List Int) (nl : Bool) (cap : Option Nat) (nl2 : Bool) (cap2 : Option Nat) (nl3 : Bool) (cap3 : Option Nat) (v : Int) (kk : Nat) (hkk : kk = code.length) (hnd : need.length = code.length) (hl : code.length ≤ 1000000) (ho : ∀ j : Nat, j < code.length → need.getD j false = true → ∀ r ∈ asks (nth code j), 0 ≤ r ∧ r ≤ 1000000) (hkf : code.length + 5 < kf) (k : Nat) (l : Ass) (z : Option Out) (hz : loopR Try.prog tab (kf + 1) none LB88_8 88 69 [1, 2, 3, 9] 1 k l ([.cells 25 [ii ins, ii n, sC code nl cap, sI outs nl2 cap2]]) = z) (hk : kk < k) (a1 : asc l 1 = sB need nl3 cap3) (a2 : asc l 2 = ii v) (a3 : asc l 3 = .ptr 0 0) (a9 : asc l 9 = ii ((kk : Int) - 1 - 0)) :
    ∃ l' H', (z = some (.exit 2 (fr 69 l') H') ∧ lastR ⟨ins, need, code, outs⟩ kk v = -2000) ∨ (z = some (.ret (fr 69 l') H') ∧ asc l' 6 = ii (lastR ⟨ins, need, code, outs⟩ kk v)) := by
  subst hz
  refine loop_nat kk (fun k l H => loopR Try.prog tab (kf + 1) none LB88_8 88 69 [1, 2, 3, 9] 1 k l H)
    (fun i l H => asc l 1 = sB need nl3 cap3 ∧ asc l 2 = ii v ∧ asc l 3 = .ptr 0 0 ∧ asc l 9 = ii ((kk : Int) - 1 - i) ∧ (lastR ⟨ins, need, code, outs⟩ kk v = lastR ⟨ins, need, code, outs⟩ (kk - i) v) ∧ ∃ G, H = ([.cells 25 [ii ins, ii n, sC code nl cap, sI outs nl2 cap2]]) ++ G)
    (fun z => ∃ l' H', (z = some (.exit 2 (fr 69 l') H') ∧ lastR ⟨ins, need, code, outs⟩ kk v = -2000) ∨ (z = some (.ret (fr 69 l') H') ∧ asc l' 6 = ii (lastR ⟨ins, need, code, outs⟩ kk v))) ?_ kk 0 k l _ (by omega) hk ⟨a1, a2, a3, a9, by simp, [], by rw [List.append_nil]⟩
  clear hk a1 a2 a3 a9
  rintro i k l H hi ⟨a1, a2, a3, a9, hp, G, rfl⟩
  have ht : trim 1 (fr 69 (keep l [1, 2, 3, 9])) (([.cells 25 [ii ins, ii n, sC code nl cap, sI outs nl2 cap2]]) ++ G) = ([.cells 25 [ii ins, ii n, sC code nl cap, sI outs nl2 cap2]]) := trim_app (by simp) (by simp only [a1, a2, a3, a9, EVb, EVc, Int.reduceEq, Int.reduceToNat, Int.reduceLE, Int.reduceLT, Int.reduceAdd, Int.reduceMul, Int.reduceSub, Int.reduceNeg, Nat.reduceAdd, Nat.reduceSub, Nat.reduceMul, Nat.reduceLT, Nat.reduceBEq, Nat.reduceEqDiff, Nat.reduceLeDiff]) (by simp only [EVb, EVc, Int.reduceEq, Int.reduceToNat, Int.reduceLE, Int.reduceLT, Int.reduceAdd, Int.reduceMul, Int.reduceSub, Int.reduceNeg, Nat.reduceAdd, Nat.reduceSub, Nat.reduceMul, Nat.reduceLT, Nat.reduceBEq, Nat.reduceEqDiff, Nat.reduceLeDiff])
  by_cases hc : i < kk
  · have hc' : (i : Int) < ((kk : Nat) : Int) := by omega
    have hc0 : (0 : Int) ≤ i := by omega
    have hw : IntKind.wrap .i64 ((i : Int) + 1) = ((i + 1 : Nat) : Int) := by rw [wrap64 (by omega) (by omega)]; omega
    obtain ⟨j, hj⟩ : ∃ j, kk = j + 1 + i := ⟨kk - 1 - i, by omega⟩
    have e1 : kk - i = j + 1 := by omega
    have e2 : kk - (i + 1) = j := by omega
    have e3 : (kk : Int) - 1 - (i : Int) = (j : Int) := by omega
    have e4 : (kk : Int) - 1 - ((i + 1 : Nat) : Int) = (j : Int) - 1 := by omega
    rw [e3] at a9
    rw [e1, lastR] at hp
    rw [e2, e4]
    have hjl : j < code.length := by omega
    have hj0 : (0 : Int) ≤ j := by omega
    have hj1 : (j : Int) < code.length := by omega
    have hx := encCode_get hjl
    rw [← nth_get hjl] at hx
    have hoj := ho j hjl
    have hak : askV ⟨ins, need, code, outs⟩ j v = (need.getD j false && (asks (nth code j)).any fun r => decide (heldR ⟨ins, need, code, outs⟩ j r = v)) := rfl
    rw [hak] at hp
    obtain ⟨x, hX⟩ : ∃ x, x = nth code j := ⟨_, rfl⟩
    rw [← hX] at hx hp hoj
    have hw2 : IntKind.wrap .i64 ((j : Int) - 1) = (j : Int) - 1 := by rw [wrap64 (by omega) (by omega)]
    have hA := rAsks_ev kf x.op x.to x.a x.b x.c
    simp only [run, aI, ii] at hA
    simp only [loopR_succ, ht]
    simp only [a1, a2, a3, a9, hc0, hw, hx, hj0, hj1, hA, loopR_succ, loopOf, findLoop, firstRegion, Option.some_or, Option.none_or, Option.getD_some, Option.some.injEq, Try.f88, EVb, EVc, Int.reduceEq, Int.reduceToNat, Int.reduceLE, Int.reduceLT, Int.reduceAdd, Int.reduceMul, Int.reduceSub, Int.reduceNeg, Nat.reduceAdd, Nat.reduceSub, Nat.reduceMul, Nat.reduceLT, Nat.reduceBEq, Nat.reduceEqDiff, Nat.reduceLeDiff, FACTS, TYPES]
    rw [evalCode_loopB LB88_12 lp88_12]; rotate_left; rfl; rfl; rfl
    generalize hz : loopR _ _ _ _ _ _ _ _ _ _ _ _ = z
    obtain ⟨l2, ⟨rfl, f1, f2, f3, f9, hq⟩ | ⟨H2, rfl, f6, hq⟩⟩ := loop_Until12 kf ins n need code outs nl cap nl2 cap2 nl3 cap3 _ _ v j (asks x) hjl hnd hl (by have := asks_len x; omega) hoj (by omega) _ _ z hz (by have := asks_len x; omega) (by rfl) (by rfl) (by rfl) (by rfl) (by rfl) (by rfl)
    · clear hz
      rw [hq, if_neg (by simp)] at hp
      simp only [f1, f2, f3, f9, hw2, EVb, EVc, Int.reduceEq, Int.reduceToNat, Int.reduceLE, Int.reduceLT, Int.reduceAdd, Int.reduceMul, Int.reduceSub, Int.reduceNeg, Nat.reduceAdd, Nat.reduceSub, Nat.reduceMul, Nat.reduceLT, Nat.reduceBEq, Nat.reduceEqDiff, Nat.reduceLeDiff, FACTS, TYPES]
      exact .inr ⟨_, _, hc, rfl, (by exact f1), (by exact f2), (by exact f3), (by rfl), hp, ⟨[], by rfl⟩⟩
    · clear hz
      rw [hq, if_pos rfl] at hp
      refine .inl ?_
      simp only [EVb, EVc, Int.reduceEq, Int.reduceToNat, Int.reduceLE, Int.reduceLT, Int.reduceAdd, Int.reduceMul, Int.reduceSub, Int.reduceNeg, Nat.reduceAdd, Nat.reduceSub, Nat.reduceMul, Nat.reduceLT, Nat.reduceBEq, Nat.reduceEqDiff, Nat.reduceLeDiff, FACTS, TYPES]
      rw [hp]
      exact ⟨_, _, .inr ⟨rfl, f6⟩⟩
  · refine .inl ?_
    obtain rfl : i = kk := by omega
    have hc' : ¬ (((i : Nat) : Int) < ((i : Nat) : Int)) := by omega
    have hlt : ¬ ((0 : Int) ≤ (i : Int) - 1 - i) := by omega
    rw [Nat.sub_self] at hp
    simp only [loopR_succ, ht]
    simp only [a1, a2, a3, a9, hlt, loopR_succ, loopOf, findLoop, firstRegion, Option.some_or, Option.none_or, Option.getD_some, Option.some.injEq, Try.f88, EVb, EVc, Int.reduceEq, Int.reduceToNat, Int.reduceLE, Int.reduceLT, Int.reduceAdd, Int.reduceMul, Int.reduceSub, Int.reduceNeg, Nat.reduceAdd, Nat.reduceSub, Nat.reduceMul, Nat.reduceLT, Nat.reduceBEq, Nat.reduceEqDiff, Nat.reduceLeDiff, FACTS, TYPES]
    exact ⟨_, _, .inl ⟨rfl, hp⟩⟩

theorem Until_ev (k : Nat) (ins n : Int) (need : List Bool) (code : List Ins) (outs : List Int) (nl : Bool) (cap : Option Nat) (nl2 : Bool) (cap2 : Option Nat) (nl3 : Bool) (cap3 : Option Nat) (v : Int) (hnd : need.length = code.length) (hl : code.length ≤ 1000000) (hl2 : outs.length ≤ 1000000) (ho2 : ∀ r ∈ outs, 0 ≤ r ∧ r ≤ 1000000) (ho : ∀ j : Nat, j < code.length → need.getD j false = true → ∀ r ∈ asks (nth code j), 0 ≤ r ∧ r ≤ 1000000) (hk : code.length + outs.length + 20 ≤ k) :
    run (k+1) 88 [aP ⟨ins, n, code, outs⟩ nl cap nl2 cap2, sB need nl3 cap3, ii v] = some (ii (untilR ⟨ins, need, code, outs⟩ v)) := by
  obtain ⟨k, rfl⟩ : ∃ j, k = j + 1 := ⟨k - 1, by omega⟩
  rw [run, ev88, ans_trim]
  have hw1 : IntKind.wrap .i64 ((code.length : Int) - 1) = (code.length : Int) - 1 := by rw [wrap64 (by omega) (by omega)]
  simp only [Try.f88, aP, ii, hw1, EVb, EVc, Int.reduceEq, Int.reduceToNat, Int.reduceLE, Int.reduceLT, Int.reduceAdd, Int.reduceMul, Int.reduceSub, Int.reduceNeg, Nat.reduceAdd, Nat.reduceSub, Nat.reduceMul, Nat.reduceLT, Nat.reduceBEq, Nat.reduceEqDiff, Nat.reduceLeDiff, FACTS, TYPES]
  rw [evalCode_loopB LB88_3 lp88_3]; rotate_left; rfl; rfl; rfl
  generalize hz : loopR _ _ _ _ _ _ _ _ _ _ _ _ = z
  obtain ⟨l2, ⟨rfl, f1, f2, f3, f7, hq⟩ | ⟨H2, rfl, f6, hq⟩⟩ := loop_Until3 k ins n need code outs nl cap nl2 cap2 nl3 cap3 v hnd hl hl2 ho2 (by omega) _ _ z hz (by omega) (by rfl) (by rfl) (by rfl) (by rfl) (by rfl)
  · clear hz
    have hu : untilR ⟨ins, need, code, outs⟩ v = lastR ⟨ins, need, code, outs⟩ code.length v := by unfold untilR; rw [hq, if_neg (by simp)]
    rw [hu]
    simp only [f1, f2, f3, f7, hw1, EVb, EVc, Int.reduceEq, Int.reduceToNat, Int.reduceLE, Int.reduceLT, Int.reduceAdd, Int.reduceMul, Int.reduceSub, Int.reduceNeg, Nat.reduceAdd, Nat.reduceSub, Nat.reduceMul, Nat.reduceLT, Nat.reduceBEq, Nat.reduceEqDiff, Nat.reduceLeDiff, FACTS, TYPES]
    rw [evalCode_loopB LB88_8 lp88_8]; rotate_left; rfl; rfl; rfl
    generalize hz : loopR _ _ _ _ _ _ _ _ _ _ _ _ = z
    obtain ⟨l3, H3, ⟨rfl, hq2⟩ | ⟨rfl, g6⟩⟩ := loop_Until8 k ins n need code outs nl cap nl2 cap2 nl3 cap3 v code.length rfl hnd hl ho (by omega) _ _ z hz (by omega) (by exact f1) (by exact f2) (by exact f3) (by rw [show (code.length : Int) - 1 - 0 = (code.length : Int) - 1 by omega]; rfl)
    · clear hz
      simp only [hq2, EVb, EVc, Int.reduceEq, Int.reduceToNat, Int.reduceLE, Int.reduceLT, Int.reduceAdd, Int.reduceMul, Int.reduceSub, Int.reduceNeg, Nat.reduceAdd, Nat.reduceSub, Nat.reduceMul, Nat.reduceLT, Nat.reduceBEq, Nat.reduceEqDiff, Nat.reduceLeDiff, FACTS, TYPES]
    · clear hz
      simp only [g6, EVb, EVc, Int.reduceEq, Int.reduceToNat, Int.reduceLE, Int.reduceLT, Int.reduceAdd, Int.reduceMul, Int.reduceSub, Int.reduceNeg, Nat.reduceAdd, Nat.reduceSub, Nat.reduceMul, Nat.reduceLT, Nat.reduceBEq, Nat.reduceEqDiff, Nat.reduceLeDiff, FACTS, TYPES]
  · clear hz
    have hu : untilR ⟨ins, need, code, outs⟩ v = code.length := by unfold untilR; rw [hq, if_pos rfl]
    rw [hu]
    simp only [f6, EVb, EVc, Int.reduceEq, Int.reduceToNat, Int.reduceLE, Int.reduceLT, Int.reduceAdd, Int.reduceMul, Int.reduceSub, Int.reduceNeg, Nat.reduceAdd, Nat.reduceSub, Nat.reduceMul, Nat.reduceLT, Nat.reduceBEq, Nat.reduceEqDiff, Nat.reduceLeDiff, FACTS, TYPES]
end Go.Proofs.Sw
namespace Go.Proofs.Sw
set_option linter.unusedVariables false
set_option linter.unusedSimpArgs false
set_option linter.unusedSectionVars false
open Go.Ab
variable [Globals]
def cI (S : Sv) (k : Nat) : Nat → Int
  | 0 => 0
  | i + 1 => if (k : Int) ≤ untilR S (-1 - (i : Int)) then cI S k i + 1 else cI S k i
def cJ (S : Sv) (k : Nat) : Nat → Int
  | 0 => 0
  | i + 1 => if nd S.need i = true ∧ (k : Int) ≤ untilR S i then cJ S k i + 1 else cJ S k i
theorem cI_le (S : Sv) (k : Nat) : ∀ i, 0 ≤ cI S k i ∧ cI S k i ≤ i
  | 0 => by simp [cI]
  | i + 1 => by
    have := cI_le S k i
    rw [cI]
    split <;> omega
theorem cJ_le (S : Sv) (k : Nat) : ∀ i, 0 ≤ cJ S k i ∧ cJ S k i ≤ i
  | 0 => by simp [cJ]
  | i + 1 => by
    have := cJ_le S k i
    rw [cJ]
    split <;> omega
theorem cI_eq (S : Sv) (k : Nat) : ∀ i, cI S k i = (((List.range i).filter ((fun w => decide ((k : Int) ≤ untilR S w)) ∘ fun (r : Nat) => -1 - (r : Int))).length : Int)
  | 0 => rfl
  | i + 1 => by
    rw [cI, cI_eq S k i, List.range_succ, List.filter_append, List.length_append]
    by_cases h : (k : Int) ≤ untilR S (-1 - (i : Int))
    · rw [if_pos h, List.filter_cons, if_pos (by simpa using h)]; simp
    · rw [if_neg h, List.filter_cons, if_neg (by simpa using h)]; simp
theorem cJ_eq (S : Sv) (k : Nat) : ∀ i, cJ S k i = ((((List.range i).filter fun j => nd S.need j).filter ((fun w => decide ((k : Int) ≤ untilR S w)) ∘ fun (j : Nat) => (j : Int))).length : Int)
  | 0 => rfl
  | i + 1 => by
    rw [cJ, cJ_eq S k i, List.range_succ, List.filter_append, List.filter_append, List.length_append]
    by_cases h : nd S.need i = true
    · by_cases h2 : (k : Int) ≤ untilR S i
      · rw [if_pos ⟨h, h2⟩, List.filter_cons, if_pos h, List.filter_nil, List.filter_cons, if_pos (by simpa using h2)]; simp
      · rw [if_neg (fun x => h2 x.2), List.filter_cons, if_pos h, List.filter_nil, List.filter_cons, if_neg (by simpa using h2)]; simp
    · rw [if_neg (fun x => h x.1), List.filter_cons, if_neg h]; simp
theorem count_alive (S : Sv) (k : Nat) : (if (k : Int) ≤ untilR S (-1000) then 1 else 0) + cI S k S.ins.toNat + cJ S k k = ((aliveR S k).length : Int) := by
  unfold aliveR valsO
  rw [cI_eq, cJ_eq, List.filter_append, List.length_append, List.filter_map, List.length_map, List.filter_cons]
  by_cases h : (k : Int) ≤ untilR S (-1000)
  · rw [if_pos h, if_pos (by simpa using h), List.length_cons, List.filter_map, List.length_map]; omega
  · rw [if_neg h, if_neg (by simpa using h), List.filter_map, List.length_map]; omega
theorem loop_rAlive11 (kf : Nat) (g : Nat) (n : Int) (need : List Bool) (code : List Ins) (outs : List Int) (nl : Bool) (cap : Option Nat) (nl2 : Bool) (cap2 : Option Nat) (nl3 : Bool) (cap3 : Option Nat) (kk : Nat) (most c0 : Int) (hg : g ≤ 1000) (h0 : 0 ≤ c0 ∧ c0 ≤ 1) (hnd : need.length = code.length) (hl : code.length ≤ 1000000) (hl2 : outs.length ≤ 1000000) (ho2 : ∀ r ∈ outs, 0 ≤ r ∧ r ≤ 1000000) (ho : ∀ j : Nat, j < code.length → need.getD j false = true → ∀ r ∈ asks (nth code j), 0 ≤ r ∧ r ≤ 1000000) (hkf : code.length + outs.length + 20 ≤ kf) (k : Nat) (l : Ass) (z : Option Out) (hz : loopR Try.prog tab (kf + 1) none LB52_11 52 76 [1, 3, 4, 5, 6, 7] 1 k l ([.cells 25 [ii g, ii n, sC code nl cap, sI outs nl2 cap2]]) = z) (hk : g < k) (a1 : asc l 1 = .ptr 0 0) (a3 : asc l 3 = sB need nl3 cap3) (a4 : asc l 4 = ii most) (a5 : asc l 5 = ii kk) (a6 : asc l 6 = ii (c0 + cI ⟨g, need, code, outs⟩ kk 0)) (a7 : asc l 7 = ii 0) :
    ∃ l', z = some (.exit 2 (fr 76 l') ([.cells 25 [ii g, ii n, sC code nl cap, sI outs nl2 cap2]])) ∧ asc l' 1 = .ptr 0 0 ∧ asc l' 3 = sB need nl3 cap3 ∧ asc l' 4 = ii most ∧ asc l' 5 = ii kk ∧ asc l' 6 = ii (c0 + cI ⟨g, need, code, outs⟩ kk g) ∧ asc l' 7 = ii g := by
  subst hz
  refine loop_nat g (fun k l H => loopR Try.prog tab (kf + 1) none LB52_11 52 76 [1, 3, 4, 5, 6, 7] 1 k l H)
    (fun i l H => asc l 1 = .ptr 0 0 ∧ asc l 3 = sB need nl3 cap3 ∧ asc l 4 = ii most ∧ asc l 5 = ii kk ∧ asc l 6 = ii (c0 + cI ⟨g, need, code, outs⟩ kk i) ∧ asc l 7 = ii i ∧ ∃ G, H = ([.cells 25 [ii g, ii n, sC code nl cap, sI outs nl2 cap2]]) ++ G)
    (fun z => ∃ l', z = some (.exit 2 (fr 76 l') ([.cells 25 [ii g, ii n, sC code nl cap, sI outs nl2 cap2]])) ∧ asc l' 1 = .ptr 0 0 ∧ asc l' 3 = sB need nl3 cap3 ∧ asc l' 4 = ii most ∧ asc l' 5 = ii kk ∧ asc l' 6 = ii (c0 + cI ⟨g, need, code, outs⟩ kk g) ∧ asc l' 7 = ii g) ?_ g 0 k l _ (by omega) hk ⟨a1, a3, a4, a5, a6, a7, [], by rw [List.append_nil]⟩
  clear hk a1 a3 a4 a5 a6 a7
  rintro i k l H hi ⟨a1, a3, a4, a5, a6, a7, G, rfl⟩
  have ht : trim 1 (fr 76 (keep l [1, 3, 4, 5, 6, 7])) (([.cells 25 [ii g, ii n, sC code nl cap, sI outs nl2 cap2]]) ++ G) = ([.cells 25 [ii g, ii n, sC code nl cap, sI outs nl2 cap2]]) := trim_app (by simp) (by simp only [a1, a3, a4, a5, a6, a7, EVb, EVc, Int.reduceEq, Int.reduceToNat, Int.reduceLE, Int.reduceLT, Int.reduceAdd, Int.reduceMul, Int.reduceSub, Int.reduceNeg, Nat.reduceAdd, Nat.reduceSub, Nat.reduceMul, Nat.reduceLT, Nat.reduceBEq, Nat.reduceEqDiff, Nat.reduceLeDiff]) (by simp only [EVb, EVc, Int.reduceEq, Int.reduceToNat, Int.reduceLE, Int.reduceLT, Int.reduceAdd, Int.reduceMul, Int.reduceSub, Int.reduceNeg, Nat.reduceAdd, Nat.reduceSub, Nat.reduceMul, Nat.reduceLT, Nat.reduceBEq, Nat.reduceEqDiff, Nat.reduceLeDiff])
  by_cases hc : i < g
  · have hc' : (i : Int) < ((g : Nat) : Int) := by omega
    have hc0 : (0 : Int) ≤ i := by omega
    have hw : IntKind.wrap .i64 ((i : Int) + 1) = ((i + 1 : Nat) : Int) := by rw [wrap64 (by omega) (by omega)]; omega
    have hU := Until_ev kf g n need code outs nl cap nl2 cap2 nl3 cap3 (-1 - (i : Int)) hnd hl hl2 ho2 ho hkf
    simp only [run, aP, ii, sC, sI, sB] at hU
    have hw2 : IntKind.wrap .i64 (-1 - (i : Int)) = -1 - (i : Int) := by rw [wrap64 (by omega) (by omega)]
    have hle := cI_le ⟨g, need, code, outs⟩ kk i
    have hw3 : IntKind.wrap .i64 (c0 + cI ⟨g, need, code, outs⟩ kk i + 1) = c0 + (cI ⟨g, need, code, outs⟩ kk i + 1) := by rw [wrap64 (by omega) (by omega)]; omega
    by_cases h : (kk : Int) ≤ untilR ⟨g, need, code, outs⟩ (-1 - (i : Int))
    · have e : cI ⟨g, need, code, outs⟩ kk (i + 1) = cI ⟨g, need, code, outs⟩ kk i + 1 := by rw [cI, if_pos h]
      simp only [loopR_succ, ht]
      simp only [a1, a3, a4, a5, a6, a7, hc', hc0, hw, hU, hw2, h, hw3, loopR_succ, loopOf, findLoop, firstRegion, Option.some_or, Option.none_or, Option.getD_some, Option.some.injEq, Try.f52, EVb, EVc, Int.reduceEq, Int.reduceToNat, Int.reduceLE, Int.reduceLT, Int.reduceAdd, Int.reduceMul, Int.reduceSub, Int.reduceNeg, Nat.reduceAdd, Nat.reduceSub, Nat.reduceMul, Nat.reduceLT, Nat.reduceBEq, Nat.reduceEqDiff, Nat.reduceLeDiff, FACTS, TYPES]
      rw [e]
      refine .inr ⟨_, _, hc, rfl, (by rfl), (by rfl), (by rfl), (by rfl), (by rfl), (by rfl), ?_⟩
      exact ⟨_, by rfl⟩
    · have e : cI ⟨g, need, code, outs⟩ kk (i + 1) = cI ⟨g, need, code, outs⟩ kk i := by rw [cI, if_neg h]
      simp only [loopR_succ, ht]
      simp only [a1, a3, a4, a5, a6, a7, hc', hc0, hw, hU, hw2, h, hw3, loopR_succ, loopOf, findLoop, firstRegion, Option.some_or, Option.none_or, Option.getD_some, Option.some.injEq, Try.f52, EVb, EVc, Int.reduceEq, Int.reduceToNat, Int.reduceLE, Int.reduceLT, Int.reduceAdd, Int.reduceMul, Int.reduceSub, Int.reduceNeg, Nat.reduceAdd, Nat.reduceSub, Nat.reduceMul, Nat.reduceLT, Nat.reduceBEq, Nat.reduceEqDiff, Nat.reduceLeDiff, FACTS, TYPES]
      rw [e]
      refine .inr ⟨_, _, hc, rfl, (by rfl), (by rfl), (by rfl), (by rfl), (by rfl), (by rfl), ?_⟩
      exact ⟨_, by rfl⟩
  · refine .inl ?_
    obtain rfl : i = g := by omega
    have hc' : ¬ (((i : Nat) : Int) < ((i : Nat) : Int)) := by omega
    simp only [loopR_succ, ht]
    simp only [a1, a3, a4, a5, a6, a7, hc', loopR_succ, loopOf, findLoop, firstRegion, Option.some_or, Option.none_or, Option.getD_some, Option.some.injEq, Try.f52, EVb, EVc, Int.reduceEq, Int.reduceToNat, Int.reduceLE, Int.reduceLT, Int.reduceAdd, Int.reduceMul, Int.reduceSub, Int.reduceNeg, Nat.reduceAdd, Nat.reduceSub, Nat.reduceMul, Nat.reduceLT, Nat.reduceBEq, Nat.reduceEqDiff, Nat.reduceLeDiff, FACTS, TYPES]
    exact ⟨_, rfl, (by rfl), (by rfl), (by rfl), (by rfl), (by rfl), (by rfl)⟩

theorem loop_rAlive16 (kf : Nat) (g : Nat) (n : Int) (need : List Bool) (code : List Ins) (outs : List Int) (nl : Bool) (cap : Option Nat) (nl2 : Bool) (cap2 : Option Nat) (nl3 : Bool) (cap3 : Option Nat) (kk : Nat) (most c0 : Int) (hkk : kk ≤ code.length) (h0 : 0 ≤ c0 ∧ c0 ≤ 10000) (hnd : need.length = code.length) (hl : code.length ≤ 1000000) (hl2 : outs.length ≤ 1000000) (ho2 : ∀ r ∈ outs, 0 ≤ r ∧ r ≤ 1000000) (ho : ∀ j : Nat, j < code.length → need.getD j false = true → ∀ r ∈ asks (nth code j), 0 ≤ r ∧ r ≤ 1000000) (hkf : code.length + outs.length + 20 ≤ kf) (k : Nat) (l : Ass) (z : Option Out) (hz : loopR Try.prog tab (kf + 1) none LB52_16 52 76 [1, 3, 4, 5, 6, 8] 1 k l ([.cells 25 [ii g, ii n, sC code nl cap, sI outs nl2 cap2]]) = z) (hk : kk < k) (a1 : asc l 1 = .ptr 0 0) (a3 : asc l 3 = sB need nl3 cap3) (a4 : asc l 4 = ii most) (a5 : asc l 5 = ii kk) (a6 : asc l 6 = ii (c0 + cJ ⟨g, need, code, outs⟩ kk 0)) (a8 : asc l 8 = ii 0) :
    ∃ l', z = some (.exit 4 (fr 76 l') ([.cells 25 [ii g, ii n, sC code nl cap, sI outs nl2 cap2]])) ∧ asc l' 1 = .ptr 0 0 ∧ asc l' 3 = sB need nl3 cap3 ∧ asc l' 4 = ii most ∧ asc l' 5 = ii kk ∧ asc l' 6 = ii (c0 + cJ ⟨g, need, code, outs⟩ kk kk) ∧ asc l' 8 = ii kk := by
  subst hz
  refine loop_nat kk (fun k l H => loopR Try.prog tab (kf + 1) none LB52_16 52 76 [1, 3, 4, 5, 6, 8] 1 k l H)
    (fun i l H => asc l 1 = .ptr 0 0 ∧ asc l 3 = sB need nl3 cap3 ∧ asc l 4 = ii most ∧ asc l 5 = ii kk ∧ asc l 6 = ii (c0 + cJ ⟨g, need, code, outs⟩ kk i) ∧ asc l 8 = ii i ∧ ∃ G, H = ([.cells 25 [ii g, ii n, sC code nl cap, sI outs nl2 cap2]]) ++ G)
    (fun z => ∃ l', z = some (.exit 4 (fr 76 l') ([.cells 25 [ii g, ii n, sC code nl cap, sI outs nl2 cap2]])) ∧ asc l' 1 = .ptr 0 0 ∧ asc l' 3 = sB need nl3 cap3 ∧ asc l' 4 = ii most ∧ asc l' 5 = ii kk ∧ asc l' 6 = ii (c0 + cJ ⟨g, need, code, outs⟩ kk kk) ∧ asc l' 8 = ii kk) ?_ kk 0 k l _ (by omega) hk ⟨a1, a3, a4, a5, a6, a8, [], by rw [List.append_nil]⟩
  clear hk a1 a3 a4 a5 a6 a8
  rintro i k l H hi ⟨a1, a3, a4, a5, a6, a8, G, rfl⟩
  have ht : trim 1 (fr 76 (keep l [1, 3, 4, 5, 6, 8])) (([.cells 25 [ii g, ii n, sC code nl cap, sI outs nl2 cap2]]) ++ G) = ([.cells 25 [ii g, ii n, sC code nl cap, sI outs nl2 cap2]]) := trim_app (by simp) (by simp only [a1, a3, a4, a5, a6, a8, EVb, EVc, Int.reduceEq, Int.reduceToNat, Int.reduceLE, Int.reduceLT, Int.reduceAdd, Int.reduceMul, Int.reduceSub, Int.reduceNeg, Nat.reduceAdd, Nat.reduceSub, Nat.reduceMul, Nat.reduceLT, Nat.reduceBEq, Nat.reduceEqDiff, Nat.reduceLeDiff]) (by simp only [EVb, EVc, Int.reduceEq, Int.reduceToNat, Int.reduceLE, Int.reduceLT, Int.reduceAdd, Int.reduceMul, Int.reduceSub, Int.reduceNeg, Nat.reduceAdd, Nat.reduceSub, Nat.reduceMul, Nat.reduceLT, Nat.reduceBEq, Nat.reduceEqDiff, Nat.reduceLeDiff])
  by_cases hc : i < kk
  · have hc' : (i : Int) < ((kk : Nat) : Int) := by omega
    have hc0 : (0 : Int) ≤ i := by omega
    have hw : IntKind.wrap .i64 ((i : Int) + 1) = ((i + 1 : Nat) : Int) := by rw [wrap64 (by omega) (by omega)]; omega
    have hU := Until_ev kf g n need code outs nl cap nl2 cap2 nl3 cap3 (i : Int) hnd hl hl2 ho2 ho hkf
    simp only [run, aP, ii, sC, sI, sB] at hU
    have hle := cJ_le ⟨g, need, code, outs⟩ kk i
    have hw3 : IntKind.wrap .i64 (c0 + cJ ⟨g, need, code, outs⟩ kk i + 1) = c0 + (cJ ⟨g, need, code, outs⟩ kk i + 1) := by rw [wrap64 (by omega) (by omega)]; omega
    have hnl : (encB need).length = code.length := by rw [encB_length, hnd]
    have hnb := encB_nat (l := need) (i := i) (by omega)
    have hj1 : (i : Int) < code.length := by omega
    have hnn : nd need i = need.getD i false := rfl
    by_cases hni : need.getD i false = true
    · rw [hni] at hnb
      by_cases h : (kk : Int) ≤ untilR ⟨g, need, code, outs⟩ (i : Int)
      · have e : cJ ⟨g, need, code, outs⟩ kk (i + 1) = cJ ⟨g, need, code, outs⟩ kk i + 1 := by rw [cJ, if_pos ⟨hni, h⟩]
        simp only [loopR_succ, ht]
        simp only [a1, a3, a4, a5, a6, a8, hc', hc0, hw, hU, h, hw3, hnb, hnl, hj1, hnd, loopR_succ, loopOf, findLoop, firstRegion, Option.some_or, Option.none_or, Option.getD_some, Option.some.injEq, Try.f52, EVb, EVc, Int.reduceEq, Int.reduceToNat, Int.reduceLE, Int.reduceLT, Int.reduceAdd, Int.reduceMul, Int.reduceSub, Int.reduceNeg, Nat.reduceAdd, Nat.reduceSub, Nat.reduceMul, Nat.reduceLT, Nat.reduceBEq, Nat.reduceEqDiff, Nat.reduceLeDiff, FACTS, TYPES]
        rw [e]
        refine .inr ⟨_, _, hc, rfl, (by rfl), (by rfl), (by rfl), (by rfl), (by rfl), (by rfl), ?_⟩
        exact ⟨_, by rfl⟩
      · have e : cJ ⟨g, need, code, outs⟩ kk (i + 1) = cJ ⟨g, need, code, outs⟩ kk i := by rw [cJ, if_neg fun x => h x.2]
        simp only [loopR_succ, ht]
        simp only [a1, a3, a4, a5, a6, a8, hc', hc0, hw, hU, h, hw3, hnb, hnl, hj1, hnd, loopR_succ, loopOf, findLoop, firstRegion, Option.some_or, Option.none_or, Option.getD_some, Option.some.injEq, Try.f52, EVb, EVc, Int.reduceEq, Int.reduceToNat, Int.reduceLE, Int.reduceLT, Int.reduceAdd, Int.reduceMul, Int.reduceSub, Int.reduceNeg, Nat.reduceAdd, Nat.reduceSub, Nat.reduceMul, Nat.reduceLT, Nat.reduceBEq, Nat.reduceEqDiff, Nat.reduceLeDiff, FACTS, TYPES]
        rw [e]
        refine .inr ⟨_, _, hc, rfl, (by rfl), (by rfl), (by rfl), (by rfl), (by rfl), (by rfl), ?_⟩
        exact ⟨_, by rfl⟩
    · have hni' : need.getD i false = false := by simpa using hni
      rw [hni'] at hnb
      have e : cJ ⟨g, need, code, outs⟩ kk (i + 1) = cJ ⟨g, need, code, outs⟩ kk i := by rw [cJ, if_neg fun x => hni x.1]
      simp only [loopR_succ, ht]
      simp only [a1, a3, a4, a5, a6, a8, hc', hc0, hw, hU, hw3, hnb, hnl, hj1, hnd, loopR_succ, loopOf, findLoop, firstRegion, Option.some_or, Option.none_or, Option.getD_some, Option.some.injEq, Try.f52, EVb, EVc, Int.reduceEq, Int.reduceToNat, Int.reduceLE, Int.reduceLT, Int.reduceAdd, Int.reduceMul, Int.reduceSub, Int.reduceNeg, Nat.reduceAdd, Nat.reduceSub, Nat.reduceMul, Nat.reduceLT, Nat.reduceBEq, Nat.reduceEqDiff, Nat.reduceLeDiff, FACTS, TYPES]
      rw [e]
      refine .inr ⟨_, _, hc, rfl, (by rfl), (by rfl), (by rfl), (by rfl), (by rfl), (by rfl), ?_⟩
      exact ⟨_, by rfl⟩
  · refine .inl ?_
    obtain rfl : i = kk := by omega
    have hc' : ¬ (((i : Nat) : Int) < ((i : Nat) : Int)) := by omega
    simp only [loopR_succ, ht]
    simp only [a1, a3, a4, a5, a6, a8, hc', loopR_succ, loopOf, findLoop, firstRegion, Option.some_or, Option.none_or, Option.getD_some, Option.some.injEq, Try.f52, EVb, EVc, Int.reduceEq, Int.reduceToNat, Int.reduceLE, Int.reduceLT, Int.reduceAdd, Int.reduceMul, Int.reduceSub, Int.reduceNeg, Nat.reduceAdd, Nat.reduceSub, Nat.reduceMul, Nat.reduceLT, Nat.reduceBEq, Nat.reduceEqDiff, Nat.reduceLeDiff, FACTS, TYPES]
    exact ⟨_, rfl, (by rfl), (by rfl), (by rfl), (by rfl), (by rfl), (by rfl)⟩

theorem rA_le2 (S : Sv) (n : Nat) (h : ∀ k, (aliveR S k).length ≤ n) : ∀ i, 0 ≤ rA S i ∧ rA S i ≤ n
  | 0 => by simp [rA]
  | i + 1 => by
    have := rA_le2 S n h i
    have := h i
    rw [rA]
    split
    · assumption
    · split <;> omega
theorem loop_rAlive4 (kf : Nat) (g : Nat) (n : Int) (need : List Bool) (code : List Ins) (outs : List Int) (nl : Bool) (cap : Option Nat) (nl2 : Bool) (cap2 : Option Nat) (nl3 : Bool) (cap3 : Option Nat) (hg : g ≤ 1000) (hnd : need.length = code.length) (hl : code.length ≤ 1000000) (hl2 : outs.length ≤ 1000000) (ho2 : ∀ r ∈ outs, 0 ≤ r ∧ r ≤ 1000000) (ho : ∀ j : Nat, j < code.length → need.getD j false = true → ∀ r ∈ asks (nth code j), 0 ≤ r ∧ r ≤ 1000000) (hkf : code.length + outs.length + 2000 ≤ kf) (k : Nat) (l : Ass) (z : Option Out) (hz : loopR Try.prog tab (kf + 1) none LB52_4 52 76 [1, 3, 4, 5] 1 k l ([.cells 25 [ii g, ii n, sC code nl cap, sI outs nl2 cap2]]) = z) (hk : code.length + 1 < k) (a1 : asc l 1 = .ptr 0 0) (a3 : asc l 3 = sB need nl3 cap3) (a4 : asc l 4 = ii (rA ⟨g, need, code, outs⟩ 0)) (a5 : asc l 5 = ii 0) :
    ∃ l' H', z = some (.exit 0 (fr 76 l') H') ∧ asc l' 4 = ii (rA ⟨g, need, code, outs⟩ (code.length + 1)) := by
  subst hz
  refine loop_nat (code.length + 1) (fun k l H => loopR Try.prog tab (kf + 1) none LB52_4 52 76 [1, 3, 4, 5] 1 k l H)
    (fun i l H => asc l 1 = .ptr 0 0 ∧ asc l 3 = sB need nl3 cap3 ∧ asc l 4 = ii (rA ⟨g, need, code, outs⟩ i) ∧ asc l 5 = ii i ∧ ∃ G, H = ([.cells 25 [ii g, ii n, sC code nl cap, sI outs nl2 cap2]]) ++ G)
    (fun z => ∃ l' H', z = some (.exit 0 (fr 76 l') H') ∧ asc l' 4 = ii (rA ⟨g, need, code, outs⟩ (code.length + 1))) ?_ (code.length + 1) 0 k l _ (by omega) hk ⟨a1, a3, a4, a5, [], by rw [List.append_nil]⟩
  clear hk a1 a3 a4 a5
  rintro i k l H hi ⟨a1, a3, a4, a5, G, rfl⟩
  have ht : trim 1 (fr 76 (keep l [1, 3, 4, 5])) (([.cells 25 [ii g, ii n, sC code nl cap, sI outs nl2 cap2]]) ++ G) = ([.cells 25 [ii g, ii n, sC code nl cap, sI outs nl2 cap2]]) := trim_app (by simp) (by simp only [a1, a3, a4, a5, EVb, EVc, Int.reduceEq, Int.reduceToNat, Int.reduceLE, Int.reduceLT, Int.reduceAdd, Int.reduceMul, Int.reduceSub, Int.reduceNeg, Nat.reduceAdd, Nat.reduceSub, Nat.reduceMul, Nat.reduceLT, Nat.reduceBEq, Nat.reduceEqDiff, Nat.reduceLeDiff]) (by simp only [EVb, EVc, Int.reduceEq, Int.reduceToNat, Int.reduceLE, Int.reduceLT, Int.reduceAdd, Int.reduceMul, Int.reduceSub, Int.reduceNeg, Nat.reduceAdd, Nat.reduceSub, Nat.reduceMul, Nat.reduceLT, Nat.reduceBEq, Nat.reduceEqDiff, Nat.reduceLeDiff])
  by_cases hc : i < (code.length + 1)
  · have hc' : (i : Int) < ((code.length + 1 : Nat) : Int) := by omega
    have hc0 : (0 : Int) ≤ i := by omega
    have hw : IntKind.wrap .i64 ((i : Int) + 1) = ((i + 1 : Nat) : Int) := by rw [wrap64 (by omega) (by omega)]; omega
    have hU := Until_ev kf g n need code outs nl cap nl2 cap2 nl3 cap3 (-1000) hnd hl hl2 ho2 ho (by omega)
    simp only [run, aP, ii, sC, sI, sB] at hU
    have hle := cI_le ⟨g, need, code, outs⟩ i g
    have hle2 := cJ_le ⟨g, need, code, outs⟩ i i
    have hca := count_alive ⟨g, need, code, outs⟩ i
    simp only [Int.toNat_natCast] at hca
    have hic : (i : Int) ≤ code.length := by omega
    have hnl : (encB need).length = code.length := by rw [encB_length, hnd]
    have hll : ∀ {S : Sv}, rA S (i + 1) = if i < S.code.length ∧ nd S.need i = false then rA S i else (if ((aliveR S i).length : Int) > rA S i then ((aliveR S i).length : Int) else rA S i) := fun {S} => by rw [rA]
    by_cases hin : i < code.length
    · have hin' : (i : Int) < code.length := by omega
      have hnb := encB_nat (l := need) (i := i) (by omega)
      by_cases hni : need.getD i false = true
      · rw [hni] at hnb
        have hst := hll (S := ⟨g, need, code, outs⟩)
        rw [if_neg (fun x => by have := x.2; simp only [nd] at this; rw [hni] at this; cases this)] at hst
        by_cases hN : (i : Int) ≤ untilR ⟨g, need, code, outs⟩ (-1000)
        · have hcA : 1 + cI ⟨g, need, code, outs⟩ i g + cJ ⟨g, need, code, outs⟩ i i = ((aliveR ⟨g, need, code, outs⟩ i).length : Int) := by rw [← hca, if_pos hN]
          simp only [loopR_succ, ht]
          simp only [a1, a3, a4, a5, hc', hc0, hw, hic, hin', hnb, hnl, hnd, hU, hN, loopR_succ, loopOf, findLoop, firstRegion, Option.some_or, Option.none_or, Option.getD_some, Option.some.injEq, Try.f52, EVb, EVc, Int.reduceEq, Int.reduceToNat, Int.reduceLE, Int.reduceLT, Int.reduceAdd, Int.reduceMul, Int.reduceSub, Int.reduceNeg, Nat.reduceAdd, Nat.reduceSub, Nat.reduceMul, Nat.reduceLT, Nat.reduceBEq, Nat.reduceEqDiff, Nat.reduceLeDiff, FACTS, TYPES]
          rw [evalCode_loopB LB52_11 lp52_11]; rotate_left; rfl; rfl; rfl
          generalize hz : loopR _ _ _ _ _ _ _ _ _ _ _ _ = z
          obtain ⟨l1, rfl, b1, b3, b4, b5, b6, _⟩ := loop_rAlive11 kf g n need code outs nl cap nl2 cap2 nl3 cap3 i _ 1 hg (by omega) hnd hl hl2 ho2 ho (by omega) _ _ z hz (by omega) (by rfl) (by rfl) (by rfl) (by rfl) (by simp only [cI, Int.add_zero]; rfl) (by rfl)
          clear hz
          simp only [b1, b3, b4, b5, b6, EVb, EVc, Int.reduceEq, Int.reduceToNat, Int.reduceLE, Int.reduceLT, Int.reduceAdd, Int.reduceMul, Int.reduceSub, Int.reduceNeg, Nat.reduceAdd, Nat.reduceSub, Nat.reduceMul, Nat.reduceLT, Nat.reduceBEq, Nat.reduceEqDiff, Nat.reduceLeDiff, FACTS, TYPES]
          rw [evalCode_loopB LB52_16 lp52_16]; rotate_left; rfl; rfl; rfl
          generalize hz : loopR _ _ _ _ _ _ _ _ _ _ _ _ = z
          obtain ⟨l2, rfl, d1, d3, d4, d5, d6, _⟩ := loop_rAlive16 kf g n need code outs nl cap nl2 cap2 nl3 cap3 i _ (1 + cI ⟨g, need, code, outs⟩ i g) (by omega) (by omega) hnd hl hl2 ho2 ho (by omega) _ _ z hz (by omega) (by exact b1) (by exact b3) (by exact b4) (by exact b5) (by simp only [cJ, Int.add_zero]; exact b6) (by rfl)
          clear hz
          rw [hcA] at d6
          by_cases hgt : ((aliveR ⟨g, need, code, outs⟩ i).length : Int) > rA ⟨g, need, code, outs⟩ i
          · rw [if_pos hgt] at hst
            rw [hst]
            simp only [d1, d3, d4, d5, d6, hw, hgt, EVb, EVc, Int.reduceEq, Int.reduceToNat, Int.reduceLE, Int.reduceLT, Int.reduceAdd, Int.reduceMul, Int.reduceSub, Int.reduceNeg, Nat.reduceAdd, Nat.reduceSub, Nat.reduceMul, Nat.reduceLT, Nat.reduceBEq, Nat.reduceEqDiff, Nat.reduceLeDiff, FACTS, TYPES]
            exact .inr ⟨_, _, hc, rfl, (by exact d1), (by exact d3), (by rfl), (by rfl), ⟨_, by rfl⟩⟩
          · rw [if_neg hgt] at hst
            rw [hst]
            simp only [d1, d3, d4, d5, d6, hw, hgt, EVb, EVc, Int.reduceEq, Int.reduceToNat, Int.reduceLE, Int.reduceLT, Int.reduceAdd, Int.reduceMul, Int.reduceSub, Int.reduceNeg, Nat.reduceAdd, Nat.reduceSub, Nat.reduceMul, Nat.reduceLT, Nat.reduceBEq, Nat.reduceEqDiff, Nat.reduceLeDiff, FACTS, TYPES]
            exact .inr ⟨_, _, hc, rfl, (by exact d1), (by exact d3), (by exact d4), (by rfl), ⟨_, by rfl⟩⟩
        · have hcA : 0 + cI ⟨g, need, code, outs⟩ i g + cJ ⟨g, need, code, outs⟩ i i = ((aliveR ⟨g, need, code, outs⟩ i).length : Int) := by rw [← hca, if_neg hN]
          simp only [loopR_succ, ht]
          simp only [a1, a3, a4, a5, hc', hc0, hw, hic, hin', hnb, hnl, hnd, hU, hN, loopR_succ, loopOf, findLoop, firstRegion, Option.some_or, Option.none_or, Option.getD_some, Option.some.injEq, Try.f52, EVb, EVc, Int.reduceEq, Int.reduceToNat, Int.reduceLE, Int.reduceLT, Int.reduceAdd, Int.reduceMul, Int.reduceSub, Int.reduceNeg, Nat.reduceAdd, Nat.reduceSub, Nat.reduceMul, Nat.reduceLT, Nat.reduceBEq, Nat.reduceEqDiff, Nat.reduceLeDiff, FACTS, TYPES]
          rw [evalCode_loopB LB52_11 lp52_11]; rotate_left; rfl; rfl; rfl
          generalize hz : loopR _ _ _ _ _ _ _ _ _ _ _ _ = z
          obtain ⟨l1, rfl, b1, b3, b4, b5, b6, _⟩ := loop_rAlive11 kf g n need code outs nl cap nl2 cap2 nl3 cap3 i _ 0 hg (by omega) hnd hl hl2 ho2 ho (by omega) _ _ z hz (by omega) (by rfl) (by rfl) (by rfl) (by rfl) (by simp only [cI, Int.add_zero]; rfl) (by rfl)
          clear hz
          simp only [b1, b3, b4, b5, b6, EVb, EVc, Int.reduceEq, Int.reduceToNat, Int.reduceLE, Int.reduceLT, Int.reduceAdd, Int.reduceMul, Int.reduceSub, Int.reduceNeg, Nat.reduceAdd, Nat.reduceSub, Nat.reduceMul, Nat.reduceLT, Nat.reduceBEq, Nat.reduceEqDiff, Nat.reduceLeDiff, FACTS, TYPES]
          rw [evalCode_loopB LB52_16 lp52_16]; rotate_left; rfl; rfl; rfl
          generalize hz : loopR _ _ _ _ _ _ _ _ _ _ _ _ = z
          obtain ⟨l2, rfl, d1, d3, d4, d5, d6, _⟩ := loop_rAlive16 kf g n need code outs nl cap nl2 cap2 nl3 cap3 i _ (0 + cI ⟨g, need, code, outs⟩ i g) (by omega) (by omega) hnd hl hl2 ho2 ho (by omega) _ _ z hz (by omega) (by exact b1) (by exact b3) (by exact b4) (by exact b5) (by simp only [cJ, Int.add_zero]; exact b6) (by rfl)
          clear hz
          rw [hcA] at d6
          by_cases hgt : ((aliveR ⟨g, need, code, outs⟩ i).length : Int) > rA ⟨g, need, code, outs⟩ i
          · rw [if_pos hgt] at hst
            rw [hst]
            simp only [d1, d3, d4, d5, d6, hw, hgt, EVb, EVc, Int.reduceEq, Int.reduceToNat, Int.reduceLE, Int.reduceLT, Int.reduceAdd, Int.reduceMul, Int.reduceSub, Int.reduceNeg, Nat.reduceAdd, Nat.reduceSub, Nat.reduceMul, Nat.reduceLT, Nat.reduceBEq, Nat.reduceEqDiff, Nat.reduceLeDiff, FACTS, TYPES]
            exact .inr ⟨_, _, hc, rfl, (by exact d1), (by exact d3), (by rfl), (by rfl), ⟨_, by rfl⟩⟩
          · rw [if_neg hgt] at hst
            rw [hst]
            simp only [d1, d3, d4, d5, d6, hw, hgt, EVb, EVc, Int.reduceEq, Int.reduceToNat, Int.reduceLE, Int.reduceLT, Int.reduceAdd, Int.reduceMul, Int.reduceSub, Int.reduceNeg, Nat.reduceAdd, Nat.reduceSub, Nat.reduceMul, Nat.reduceLT, Nat.reduceBEq, Nat.reduceEqDiff, Nat.reduceLeDiff, FACTS, TYPES]
            exact .inr ⟨_, _, hc, rfl, (by exact d1), (by exact d3), (by exact d4), (by rfl), ⟨_, by rfl⟩⟩
      · have hni' : need.getD i false = false := by simpa using hni
        rw [hni'] at hnb
        have hst := hll (S := ⟨g, need, code, outs⟩)
        rw [if_pos ⟨hin, hni'⟩] at hst
        simp only [loopR_succ, ht]
        simp only [a1, a3, a4, a5, hc', hc0, hw, hic, hin', hnb, hnl, hnd, loopR_succ, loopOf, findLoop, firstRegion, Option.some_or, Option.none_or, Option.getD_some, Option.some.injEq, Try.f52, EVb, EVc, Int.reduceEq, Int.reduceToNat, Int.reduceLE, Int.reduceLT, Int.reduceAdd, Int.reduceMul, Int.reduceSub, Int.reduceNeg, Nat.reduceAdd, Nat.reduceSub, Nat.reduceMul, Nat.reduceLT, Nat.reduceBEq, Nat.reduceEqDiff, Nat.reduceLeDiff, FACTS, TYPES]
        rw [hst]
        exact .inr ⟨_, _, hc, rfl, (by rfl), (by rfl), (by rfl), (by rfl), ⟨_, by rfl⟩⟩
    · have hin' : ¬ (i : Int) < code.length := by omega
      have hst := hll (S := ⟨g, need, code, outs⟩)
      rw [if_neg (fun x => hin x.1)] at hst
      by_cases hN : (i : Int) ≤ untilR ⟨g, need, code, outs⟩ (-1000)
      · have hcA : 1 + cI ⟨g, need, code, outs⟩ i g + cJ ⟨g, need, code, outs⟩ i i = ((aliveR ⟨g, need, code, outs⟩ i).length : Int) := by rw [← hca, if_pos hN]
        simp only [loopR_succ, ht]
        simp only [a1, a3, a4, a5, hc', hc0, hw, hic, hin', hnl, hnd, hU, hN, loopR_succ, loopOf, findLoop, firstRegion, Option.some_or, Option.none_or, Option.getD_some, Option.some.injEq, Try.f52, EVb, EVc, Int.reduceEq, Int.reduceToNat, Int.reduceLE, Int.reduceLT, Int.reduceAdd, Int.reduceMul, Int.reduceSub, Int.reduceNeg, Nat.reduceAdd, Nat.reduceSub, Nat.reduceMul, Nat.reduceLT, Nat.reduceBEq, Nat.reduceEqDiff, Nat.reduceLeDiff, FACTS, TYPES]
        rw [evalCode_loopB LB52_11 lp52_11]; rotate_left; rfl; rfl; rfl
        generalize hz : loopR _ _ _ _ _ _ _ _ _ _ _ _ = z
        obtain ⟨l1, rfl, b1, b3, b4, b5, b6, _⟩ := loop_rAlive11 kf g n need code outs nl cap nl2 cap2 nl3 cap3 i _ 1 hg (by omega) hnd hl hl2 ho2 ho (by omega) _ _ z hz (by omega) (by rfl) (by rfl) (by rfl) (by rfl) (by simp only [cI, Int.add_zero]; rfl) (by rfl)
        clear hz
        simp only [b1, b3, b4, b5, b6, EVb, EVc, Int.reduceEq, Int.reduceToNat, Int.reduceLE, Int.reduceLT, Int.reduceAdd, Int.reduceMul, Int.reduceSub, Int.reduceNeg, Nat.reduceAdd, Nat.reduceSub, Nat.reduceMul, Nat.reduceLT, Nat.reduceBEq, Nat.reduceEqDiff, Nat.reduceLeDiff, FACTS, TYPES]
        rw [evalCode_loopB LB52_16 lp52_16]; rotate_left; rfl; rfl; rfl
        generalize hz : loopR _ _ _ _ _ _ _ _ _ _ _ _ = z
        obtain ⟨l2, rfl, d1, d3, d4, d5, d6, _⟩ := loop_rAlive16 kf g n need code outs nl cap nl2 cap2 nl3 cap3 i _ (1 + cI ⟨g, need, code, outs⟩ i g) (by omega) (by omega) hnd hl hl2 ho2 ho (by omega) _ _ z hz (by omega) (by exact b1) (by exact b3) (by exact b4) (by exact b5) (by simp only [cJ, Int.add_zero]; exact b6) (by rfl)
        clear hz
        rw [hcA] at d6
        by_cases hgt : ((aliveR ⟨g, need, code, outs⟩ i).length : Int) > rA ⟨g, need, code, outs⟩ i
        · rw [if_pos hgt] at hst
          rw [hst]
          simp only [d1, d3, d4, d5, d6, hw, hgt, EVb, EVc, Int.reduceEq, Int.reduceToNat, Int.reduceLE, Int.reduceLT, Int.reduceAdd, Int.reduceMul, Int.reduceSub, Int.reduceNeg, Nat.reduceAdd, Nat.reduceSub, Nat.reduceMul, Nat.reduceLT, Nat.reduceBEq, Nat.reduceEqDiff, Nat.reduceLeDiff, FACTS, TYPES]
          exact .inr ⟨_, _, hc, rfl, (by exact d1), (by exact d3), (by rfl), (by rfl), ⟨_, by rfl⟩⟩
        · rw [if_neg hgt] at hst
          rw [hst]
          simp only [d1, d3, d4, d5, d6, hw, hgt, EVb, EVc, Int.reduceEq, Int.reduceToNat, Int.reduceLE, Int.reduceLT, Int.reduceAdd, Int.reduceMul, Int.reduceSub, Int.reduceNeg, Nat.reduceAdd, Nat.reduceSub, Nat.reduceMul, Nat.reduceLT, Nat.reduceBEq, Nat.reduceEqDiff, Nat.reduceLeDiff, FACTS, TYPES]
          exact .inr ⟨_, _, hc, rfl, (by exact d1), (by exact d3), (by exact d4), (by rfl), ⟨_, by rfl⟩⟩
      · have hcA : 0 + cI ⟨g, need, code, outs⟩ i g + cJ ⟨g, need, code, outs⟩ i i = ((aliveR ⟨g, need, code, outs⟩ i).length : Int) := by rw [← hca, if_neg hN]
        simp only [loopR_succ, ht]
        simp only [a1, a3, a4, a5, hc', hc0, hw, hic, hin', hnl, hnd, hU, hN, loopR_succ, loopOf, findLoop, firstRegion, Option.some_or, Option.none_or, Option.getD_some, Option.some.injEq, Try.f52, EVb, EVc, Int.reduceEq, Int.reduceToNat, Int.reduceLE, Int.reduceLT, Int.reduceAdd, Int.reduceMul, Int.reduceSub, Int.reduceNeg, Nat.reduceAdd, Nat.reduceSub, Nat.reduceMul, Nat.reduceLT, Nat.reduceBEq, Nat.reduceEqDiff, Nat.reduceLeDiff, FACTS, TYPES]
        rw [evalCode_loopB LB52_11 lp52_11]; rotate_left; rfl; rfl; rfl
        generalize hz : loopR _ _ _ _ _ _ _ _ _ _ _ _ = z
        obtain ⟨l1, rfl, b1, b3, b4, b5, b6, _⟩ := loop_rAlive11 kf g n need code outs nl cap nl2 cap2 nl3 cap3 i _ 0 hg (by omega) hnd hl hl2 ho2 ho (by omega) _ _ z hz (by omega) (by rfl) (by rfl) (by rfl) (by rfl) (by simp only [cI, Int.add_zero]; rfl) (by rfl)
        clear hz
        simp only [b1, b3, b4, b5, b6, EVb, EVc, Int.reduceEq, Int.reduceToNat, Int.reduceLE, Int.reduceLT, Int.reduceAdd, Int.reduceMul, Int.reduceSub, Int.reduceNeg, Nat.reduceAdd, Nat.reduceSub, Nat.reduceMul, Nat.reduceLT, Nat.reduceBEq, Nat.reduceEqDiff, Nat.reduceLeDiff, FACTS, TYPES]
        rw [evalCode_loopB LB52_16 lp52_16]; rotate_left; rfl; rfl; rfl
        generalize hz : loopR _ _ _ _ _ _ _ _ _ _ _ _ = z
        obtain ⟨l2, rfl, d1, d3, d4, d5, d6, _⟩ := loop_rAlive16 kf g n need code outs nl cap nl2 cap2 nl3 cap3 i _ (0 + cI ⟨g, need, code, outs⟩ i g) (by omega) (by omega) hnd hl hl2 ho2 ho (by omega) _ _ z hz (by omega) (by exact b1) (by exact b3) (by exact b4) (by exact b5) (by simp only [cJ, Int.add_zero]; exact b6) (by rfl)
        clear hz
        rw [hcA] at d6
        by_cases hgt : ((aliveR ⟨g, need, code, outs⟩ i).length : Int) > rA ⟨g, need, code, outs⟩ i
        · rw [if_pos hgt] at hst
          rw [hst]
          simp only [d1, d3, d4, d5, d6, hw, hgt, EVb, EVc, Int.reduceEq, Int.reduceToNat, Int.reduceLE, Int.reduceLT, Int.reduceAdd, Int.reduceMul, Int.reduceSub, Int.reduceNeg, Nat.reduceAdd, Nat.reduceSub, Nat.reduceMul, Nat.reduceLT, Nat.reduceBEq, Nat.reduceEqDiff, Nat.reduceLeDiff, FACTS, TYPES]
          exact .inr ⟨_, _, hc, rfl, (by exact d1), (by exact d3), (by rfl), (by rfl), ⟨_, by rfl⟩⟩
        · rw [if_neg hgt] at hst
          rw [hst]
          simp only [d1, d3, d4, d5, d6, hw, hgt, EVb, EVc, Int.reduceEq, Int.reduceToNat, Int.reduceLE, Int.reduceLT, Int.reduceAdd, Int.reduceMul, Int.reduceSub, Int.reduceNeg, Nat.reduceAdd, Nat.reduceSub, Nat.reduceMul, Nat.reduceLT, Nat.reduceBEq, Nat.reduceEqDiff, Nat.reduceLeDiff, FACTS, TYPES]
          exact .inr ⟨_, _, hc, rfl, (by exact d1), (by exact d3), (by exact d4), (by rfl), ⟨_, by rfl⟩⟩
  · refine .inl ?_
    obtain rfl : i = (code.length + 1) := by omega
    have hc' : ¬ ((((code.length + 1) : Nat) : Int) < (((code.length + 1) : Nat) : Int)) := by omega
    have hic : ¬ (((code.length + 1 : Nat) : Int) ≤ code.length) := by omega
    simp only [loopR_succ, ht]
    simp only [a1, a3, a4, a5, hic, loopR_succ, loopOf, findLoop, firstRegion, Option.some_or, Option.none_or, Option.getD_some, Option.some.injEq, Try.f52, EVb, EVc, Int.reduceEq, Int.reduceToNat, Int.reduceLE, Int.reduceLT, Int.reduceAdd, Int.reduceMul, Int.reduceSub, Int.reduceNeg, Nat.reduceAdd, Nat.reduceSub, Nat.reduceMul, Nat.reduceLT, Nat.reduceBEq, Nat.reduceEqDiff, Nat.reduceLeDiff, FACTS, TYPES]
    exact ⟨_, _, rfl, (by rfl)⟩

theorem rAlive_ev (k : Nat) (g n : Nat) (code : List Ins) (outs : List Int) (nl : Bool) (cap : Option Nat) (nl2 : Bool) (cap2 : Option Nat) (hk : code.length + outs.length + 3000 ≤ k) (hr : rightM ⟨g, n, code, outs⟩ = true) :
    run (k+1) 52 [aP ⟨g, n, code, outs⟩ nl cap nl2 cap2] = some (ii (rA (svP ⟨g, n, code, outs⟩) (code.length + 1))) := by
  obtain ⟨k, rfl⟩ : ∃ j, k = j + 1 := ⟨k - 1, by omega⟩
  have hN := rNeeded_ev k n g code outs nl cap nl2 cap2 (by omega) hr
  have hp := pgOk hr
  have hr' := hr
  simp only [rightM, headM, Bool.and_eq_true, decide_eq_true_eq] at hr'
  obtain ⟨⟨hh, ho⟩, hc⟩ := hr'
  have ho2 : ∀ r ∈ outs, 0 ≤ r ∧ r ≤ 1000000 := fun r h => by
    have := hp.inn.outs r h
    simp only [Int.toNat_natCast] at this
    omega
  have hask : ∀ j : Nat, j < code.length → (neededM ⟨(g : Int), n, code, outs⟩).getD j false = true → ∀ r ∈ asks (nth code j), 0 ≤ r ∧ r ≤ 1000000 := fun j hj hn r hr => by
    have := hp.inn.asks j hj hn r hr
    simp only [Int.toNat_natCast] at this
    omega
  simp only [run, aP, ii, sC, sI, sB] at hN
  rw [run, ev52, ans_trim]
  simp only [Try.f52, aP, ii, hN, EVb, EVc, Int.reduceEq, Int.reduceToNat, Int.reduceLE, Int.reduceLT, Int.reduceAdd, Int.reduceMul, Int.reduceSub, Int.reduceNeg, Nat.reduceAdd, Nat.reduceSub, Nat.reduceMul, Nat.reduceLT, Nat.reduceBEq, Nat.reduceEqDiff, Nat.reduceLeDiff, FACTS, TYPES]
  rw [evalCode_loopB LB52_4 lp52_4]; rotate_left; rfl; rfl; rfl
  generalize hz : loopR _ _ _ _ _ _ _ _ _ _ _ _ = z
  obtain ⟨l1, H1, rfl, e4⟩ := loop_rAlive4 k g n (neededM ⟨(g : Int), n, code, outs⟩) code outs nl cap nl2 cap2 _ _ (by omega) (needL_len2 _ _) (by omega) (by omega) ho2 hask (by omega) _ _ z hz (by omega) (by rfl) (by rfl) (by rfl) (by rfl)
  clear hz
  simp only [e4, EVb, EVc, Int.reduceEq, Int.reduceToNat, Int.reduceLE, Int.reduceLT, Int.reduceAdd, Int.reduceMul, Int.reduceSub, Int.reduceNeg, Nat.reduceAdd, Nat.reduceSub, Nat.reduceMul, Nat.reduceLT, Nat.reduceBEq, Nat.reduceEqDiff, Nat.reduceLeDiff, FACTS, TYPES]
  rfl
end Go.Proofs.Sw
