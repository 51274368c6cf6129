/- A part of the proof: an interpreter on abstract values, proved right for every program; no condition. -/
import Derived.Test.YtiiannaficbjeaaDoorAbDraw
import Derived.Test.YtiiannaficbjeaaDoorAbSound2
namespace Go.Ab
set_option linter.unusedVariables false
set_option linter.unusedSimpArgs false
set_option linter.unusedSectionVars false
theorem map_parts_congr {α : Type} {ρ ρ' : Operand → α} {ps : List (Nat × Operand)} (h : ∀ p ∈ ps, ρ p.2 = ρ' p.2) : (ps.map fun p => (p.1, ρ p.2)) = ps.map fun p => (p.1, ρ' p.2) :=
  List.map_congr_left fun p hp => by rw [h p hp]
theorem opt_map_congr {α : Type} {ρ ρ' : Operand → α} {x : Option Operand} (h : ∀ y, x = some y → ρ y = ρ' y) : x.map ρ = x.map ρ' := by
  cases x with
  | none => rfl
  | some y => simp [h y rfl]
theorem pureOp_congr [Globals] {P : Program} {ρ ρ' : Operand → AV} {H : Heap} {o : Oper} (h : ∀ x ∈ o.op.operands.toList, ρ x = ρ' x) : pureOp P ρ H o = pureOp P ρ' H o := by
  unfold pureOp
  cases ho : o.op with
  | call c =>
    rw [ho] at h
    obtain ⟨callee, args, argTypes⟩ := c
    have ha : ∀ x ∈ args.toList, ρ x = ρ' x := fun x hx => h x (by cases callee <;> simp [Op.operands, Call.operands] at hx ⊢ <;> first | exact .inr hx | exact hx)
    cases callee with
    | builtin b =>
      cases b with
      | len =>
        simp only
        split
        · rename_i x t e1 e2
          rw [ha x (by simp [e1])]
        · rfl
      | max =>
        simp only
        split
        · rename_i x xs e1
          rw [ha x (by simp [e1]), List.map_congr_left (f := ρ) (g := ρ') fun y hy => ha y (by simp [e1, hy])]
        · rfl
      | min =>
        simp only
        split
        · rename_i x xs e1
          rw [ha x (by simp [e1]), List.map_congr_left (f := ρ) (g := ρ') fun y hy => ha y (by simp [e1, hy])]
        · rfl
      | cap =>
        simp only
        split
        · rename_i x t e1 e2
          rw [ha x (by simp [e1])]
        · rfl
      | _ => rfl
    | _ => rfl
  | build t ps =>
    rw [ho] at h
    simp only
    rw [map_parts_congr (ρ := ρ) (ρ' := ρ') fun p hp => h p.2 (by simp [Op.operands]; exact ⟨p.1, by simpa using hp⟩)]
  | makeFunc f first captured =>
    rw [ho] at h
    cases f with
    | func f =>
      simp only
      rw [List.map_congr_left (f := ρ) (g := ρ') (l := first.toList) fun y hy => h y (by simp [Op.operands] at hy ⊢; exact .inl hy),
        List.map_congr_left (f := ρ) (g := ρ') (l := captured.toList) fun y hy => h y (by simp [Op.operands] at hy ⊢; exact .inr hy)]
    | _ => rfl
  | slice t x l hh m =>
    rw [ho] at h
    simp only
    rw [h x (by simp [Op.operands]), opt_map_congr (x := l) (ρ := ρ) (ρ' := ρ') fun y hy => h y (by simp [Op.operands, hy]),
      opt_map_congr (x := hh) (ρ := ρ) (ρ' := ρ') fun y hy => h y (by simp [Op.operands, hy]), opt_map_congr (x := m) (ρ := ρ) (ρ' := ρ') fun y hy => h y (by simp [Op.operands, hy])]
  | _ =>
    first
      | rfl
      | (rw [ho] at h; simp only [Op.operands] at h; simp [h])
theorem effOp_congr [Globals] {P : Program} {sl : Option Nat} {ρ ρ' : Operand → AV} {H : Heap} {o : Oper} (h : ∀ x ∈ o.op.operands.toList, ρ x = ρ' x) : effOp P sl ρ H o = effOp P sl ρ' H o := by
  unfold effOp
  cases ho : o.op with
  | call c =>
    rw [ho] at h
    obtain ⟨callee, args, argTypes⟩ := c
    have ha : ∀ x ∈ args.toList, ρ x = ρ' x := fun x hx => h x (by cases callee <;> simp [Op.operands, Call.operands] at hx ⊢ <;> first | exact .inr hx | exact hx)
    cases callee with
    | builtin b =>
      cases b with
      | append =>
        simp only
        split
        · rename_i s x t t2 e1 e2
          rw [ha x (by simp [e1]), ha s (by simp [e1])]
        · rfl
      | clear =>
        simp only
        split
        · rename_i x t e1 e2
          rw [ha x (by simp [e1])]
        · rfl
      | copy =>
        simp only
        split
        · rename_i d s t t2 e1 e2
          rw [ha d (by simp [e1]), ha s (by simp [e1])]
        · rfl
      | _ => rfl
    | _ => rfl
  | makeMap t r =>
    rw [ho] at h
    simp only
    rw [opt_map_congr (x := r) (ρ := ρ) (ρ' := ρ') fun y hy => h y (by simp [Op.operands, hy])]
  | buildSlice t len ps =>
    rw [ho] at h
    simp only
    rw [map_parts_congr (ρ := ρ) (ρ' := ρ') fun p hp => h p.2 (by simp [Op.operands]; exact ⟨p.1, by simpa using hp⟩)]
  | _ =>
    first
      | rfl
      | (rw [ho] at h; simp only [Op.operands] at h; simp [h])
theorem calleeA_congr {ρ ρ' : Operand → AV} {o : Oper} (h : ∀ x ∈ o.op.operands.toList, ρ x = ρ' x) : calleeA ρ o = calleeA ρ' o := by
  unfold calleeA
  cases ho : o.op with
  | call c =>
    rw [ho] at h
    obtain ⟨callee, args, argTypes⟩ := c
    cases callee with
    | value f =>
      simp only [Op.operands, Call.operands] at h
      simp only
      rw [h f (by simp), List.map_congr_left (f := ρ) (g := ρ') (l := args.toList) fun y hy => h y (by simp at hy ⊢; exact .inr hy)]
    | _ => rfl
  | _ => rfl
theorem yieldA_congr {ρ ρ' : Operand → AV} {o : Oper} (h : ∀ x ∈ o.op.operands.toList, ρ x = ρ' x) : yieldA ρ o = yieldA ρ' o := by
  unfold yieldA
  cases ho : o.op with
  | call c =>
    rw [ho] at h
    obtain ⟨callee, args, argTypes⟩ := c
    cases callee with
    | value f =>
      simp only [Op.operands, Call.operands] at h
      simp only
      rw [h f (by simp), List.map_congr_left (f := ρ) (g := ρ') (l := args.toList) fun y hy => h y (by simp at hy ⊢; exact .inr hy)]
    | _ => rfl
  | _ => rfl
theorem execA_congr [Globals] {P : Program} {cx : Cx} {r i : Nat} {F F' : Fr} {H : Heap} {o : Oper} (h : ∀ x ∈ o.op.operands.toList, evalA F x = evalA F' x) : execA P cx r i F H o = execA P cx r i F' H o := by
  unfold execA
  rw [pureOp_congr h, effOp_congr h, calleeA_congr h, yieldA_congr h]
theorem freeBuild_congr [Globals] {P : Program} {ρ ρ' : Operand → AV} {o : Oper} (h : ∀ x ∈ o.op.operands.toList, ρ x = ρ' x) : freeBuild P ρ o = freeBuild P ρ' o := by
  unfold freeBuild
  rw [effOp_congr (ρ := pureAt ρ) (ρ' := pureAt ρ') fun x hx => by unfold pureAt; rw [h x hx]]
theorem execD_congr [Globals] {P : Program} {cx : Cx} {r i : Nat} {F F' : Fr} {H : Heap} {o : Oper} (h : ∀ x ∈ o.op.operands.toList, evalA F x = evalA F' x) : execD P cx r i F H o = execD P cx r i F' H o := by
  unfold execD
  rw [freeBuild_congr h, execA_congr h]
theorem pure_execD [Globals] {P : Program} {cx : Cx} {r i : Nat} {F : Fr} {H : Heap} {o : Oper} {v : AV} (h : pureOp P (evalA F) H o = some v) : execD P cx r i F H o = some (v, H) := by
  unfold execD
  have hb : freeBuild P (evalA F) o = none := by
    unfold freeBuild
    split
    · rename_i ho
      simp [pureOp, ho] at h
    · rfl
  rw [hb]
  simp only [execA, h]
theorem stepD_sound [Globals] {P : Program} {rd : Option Nat} {n : Nat} {cx : Cx} (hc : CallSound P cx.call) (hrn : RoundSound P cx.round) {r i : Nat} {ops : Array Oper} {o : Oper} {F F' : Fr} {H H' : Heap} (h : stepD P cx r ops i o F H = some (F', H'))
    {S : Nat → Prop} {σ : List Nat} {w : World} {a : Act} (hI : Inv S σ H w) (hF : FRel S σ H w F a.tmps) (next : Act → World → Prop) (Q : Exit → Act → World → Prop)
    (hk : ∀ a' w', Next S σ H w a.defers F' H' a' w' → next a' w') :
    if Region.wanted o (yielded ops a.tmps) = true then o.wpIn (Fw rd) n P a w next Q else ((∀ f, o.about P w a.eval = some f → (Fw rd).fn f) ∧ next (a.put o.dst undef) w) := by
  cases hw : wantedA ops o F with
  | none => simp [stepD, hw] at h
  | some b =>
    cases b with
    | false => exact step_sound hc hrn (r := r) (i := i) (by simpa [stepD, stepOp, hw] using h) hI hF next Q hk
    | true =>
      cases hb : freeBuild P (evalA F) o with
      | none => exact step_sound hc hrn (r := r) (i := i) (by simpa [stepD, stepOp, execD, hw, hb] using h) hI hF next Q hk
      | some v =>
        simp only [stepD, execD, hw, hb, Option.map_some, Option.some.injEq, Prod.mk.injEq] at h
        obtain ⟨rfl, rfl⟩ := h
        rw [wanted_sound hw hF, if_pos rfl]
        unfold freeBuild at hb
        split at hb <;> first | (cases hb; done) | skip
        obtain ⟨⟨v1, H1⟩, he, hb⟩ := Option.bind_eq_some_iff.1 hb
        obtain ⟨⟨v2, H2⟩, hf, rfl⟩ := Option.map_eq_some_iff.1 hb
        have hρ : ∀ x, VRel S [] [] w (pureAt (evalA F) x) (a.eval x) := fun x => by
          unfold pureAt
          split
          · rename_i hp; exact (evalA_rel hI hF x).pure hp [] []
          · exact .unk
        obtain ⟨u, w', hr, S', σ', hI', hT, hv⟩ := effOp_sound (inv_empty hI) hρ he
        obtain ⟨S2, hI2, hT2, hv2, hst⟩ := frzR_sound hI' hf hv
        obtain ⟨hI3, hT3⟩ := outside hI (hT.trans hT2) hI2
        exact wpIn_value (effOp_defer he) hr (hk _ _ ⟨S2, σ, hI3, hT3, (hF.tr hI hT3).put (hv2.still hst σ _) _, marked_put _ _⟩)
theorem wantedA_congr {ops : Array Oper} {o : Oper} {F F' : Fr} (h : ∀ j b d, o.guard = some (j, b) → (ops[j]?).bind (·.dst) = some d → F.get d = F'.get d) : wantedA ops o F = wantedA ops o F' := by
  unfold wantedA
  split
  · rfl
  · rename_i j want hg
    split
    · rename_i d hd
      rw [h j want d hg hd]
    · rfl
theorem reads_agree [Globals] {ops : Array Oper} {o : Oper} {F F' : Fr} (h : ∀ t ∈ readsOf ops o, F.get t = F'.get t) :
    (∀ x ∈ o.op.operands.toList, evalA F x = evalA F' x) ∧ (∀ j b d, o.guard = some (j, b) → (ops[j]?).bind (·.dst) = some d → F.get d = F'.get d) := by
  refine ⟨fun x hx => ?_, fun j b d hg hd => h d ?_⟩
  · cases x with
    | tmp t =>
      have := h t (List.mem_append_left _ (List.mem_filterMap.2 ⟨.tmp t, hx, rfl⟩))
      simpa [evalA] using this
    | _ => rfl
  · refine List.mem_append_right _ ?_
    rw [hg]
    simp only [hd]
    exact List.mem_singleton.2 rfl
def HM (H K : Heap) : Prop := ∀ (i : Nat) (o : AObj), H[i]? = some o → o ≠ .slot → K[i]? = some o
theorem rowOf_mono {H K : Heap} (h : HM H K) {id ext : Nat} {r : TypeId × List IV} (hr : rowOf H id ext = some r) : rowOf K id ext = some r := by
  unfold rowOf at hr ⊢
  split at hr
  · rename_i fz t cs heq
    rw [h _ _ heq (by intro h; cases h)]
    exact hr
  · cases hr
theorem rowOf_monoS {H K : Heap} (h : HM H K) {id ext : Nat} (hr : (rowOf H id ext).isSome = true) : (rowOf K id ext).isSome = true := by
  obtain ⟨r, hr⟩ := Option.isSome_iff_exists.1 hr
  rw [rowOf_mono h hr]
  rfl
theorem loadA_mono {P : Program} {H K : Heap} (h : HM H K) {t : TypeId} {x v : AV} (hx : loadA P H t x = some v) : loadA P K t x = some v := by
  unfold loadA at hx ⊢
  split at hx
  · exact hx
  · split at hx
    · rename_i heq
      rw [h _ _ heq (by intro h; cases h)]
      exact hx
    · cases hx
  · obtain ⟨r, hr, hx⟩ := Option.bind_eq_some_iff.1 hx
    simp only [rowOf_mono h hr, Option.bind_some]
    exact hx
  · cases hx
theorem indexAddrA_mono {P : Program} {H K : Heap} (h : HM H K) {t : TypeId} {x i v : AV} (hx : indexAddrA P H t x i = some v) : indexAddrA P K t x i = some v := by
  unfold indexAddrA at hx ⊢
  split at hx
  · split at hx
    · rename_i hu
      try simp only [hu]
      obtain ⟨sz, hs, hx⟩ := Option.bind_eq_some_iff.1 hx
      simp only [hs, Option.bind_some]
      split at hx
      · exact hx
      · split at hx
        · rename_i hc
          rw [if_pos ⟨hc.1, hc.2.1, hc.2.2.1, rowOf_monoS h hc.2.2.2⟩]
          exact hx
        · cases hx
      · cases hx
    · rename_i hu
      try simp only [hu]
      exact hx
    · cases hx
  · cases hx
theorem sliceA_mono {P : Program} {H K : Heap} (h : HM H K) {t : TypeId} {x v : AV} {lo hi mx : Option AV} (hx : sliceA P H t x lo hi mx = some v) : sliceA P K t x lo hi mx = some v := by
  unfold sliceA at hx ⊢
  split at hx
  · rename_i hu
    try simp only [hu]
    exact hx
  · rename_i hu
    try simp only [hu]
    obtain ⟨sz, hs, hx⟩ := Option.bind_eq_some_iff.1 hx
    simp only [hs, Option.bind_some]
    split at hx
    · exact hx
    · split at hx
      · split at hx
        · rename_i hc
          rw [if_pos ⟨hc.1, hc.2.1, hc.2.2.1, hc.2.2.2.1, hc.2.2.2.2.1, hc.2.2.2.2.2.1, rowOf_monoS h hc.2.2.2.2.2.2⟩]
          exact hx
        · cases hx
      · obtain ⟨a, ha, hx⟩ := Option.bind_eq_some_iff.1 hx
        obtain ⟨b, hb, hx⟩ := Option.bind_eq_some_iff.1 hx
        split at hx
        · rename_i hc
          simp only [ha, hb, Option.bind_some]
          rw [if_pos ⟨hc.1, hc.2.1, hc.2.2.1, hc.2.2.2.1, rowOf_monoS h hc.2.2.2.2⟩]
          exact hx
        · cases hx
    · cases hx
  · rename_i hu
    try simp only [hu]
    exact hx
  · cases hx
theorem eqlA_mono {P : Program} {H K : Heap} (h : HM H K) {t : TypeId} {x y : AV} {b : Bool} (hx : eqlA P H t x y = some b) : eqlA P K t x y = some b := by
  unfold eqlA at hx ⊢
  split at hx
  all_goals first
    | exact hx
    | (split at hx
       · rename_i hc
         rw [if_pos ⟨hc.1, rowOf_monoS h hc.2⟩]
         exact hx
       · cases hx)
theorem lookupA_mono {P : Program} {H K : Heap} (h : HM H K) {t : TypeId} {x k v : AV} {ok : Bool} (hx : lookupA P H t x k ok = some v) : lookupA P K t x k ok = some v := by
  unfold lookupA at hx ⊢
  obtain ⟨m, hm, hx2⟩ := Option.bind_eq_some_iff.1 hx
  clear hx
  rw [hm, Option.bind_some]
  by_cases hk : keyOkA P m.1 k = true
  · rw [if_pos hk] at hx2
    rw [if_pos hk]
    cases x
    case hmap id =>
      obtain ⟨es, he, hx3⟩ := Option.bind_eq_some_iff.1 hx2
      clear hx2
      simp only at he ⊢
      split at he
      · rename_i heq
        injection he with he
        subst he
        rw [h _ _ heq (by intro h; cases h)]
        exact hx3
      · cases he
    case c y =>
      cases y
      all_goals exact hx2
    all_goals exact hx2
  · rw [if_neg hk] at hx2
    cases hx2
theorem capA_mono {P : Program} {H K : Heap} (h : HM H K) {t : TypeId} {x v : AV} (hx : capA P H t x = some v) : capA P K t x = some v := by
  unfold capA at hx ⊢
  split at hx
  all_goals first
    | (rename_i hu; (try simp only [hu]); exact hx)
    | (rename_i hu
       try simp only [hu]
       split at hx
       · rename_i hc
         rw [if_pos (rowOf_monoS h hc)]
         exact hx
       · cases hx)
    | cases hx
theorem binA_mono {P : Program} {H K : Heap} (h : HM H K) {op : BinOp} {t : TypeId} {x y v : AV} (hx : binA P H op t x y = some v) : binA P K op t x y = some v := by
  unfold binA at hx ⊢
  split at hx
  · exact hx
  · exact hx
  · split at hx
    · obtain ⟨b, hb, rfl⟩ := Option.map_eq_some_iff.1 hx
      rw [eqlA_mono h hb]
      rfl
    · obtain ⟨b, hb, rfl⟩ := Option.map_eq_some_iff.1 hx
      rw [eqlA_mono h hb]
      rfl
    · cases hx
theorem pureOp_mono [Globals] {P : Program} {ρ : Operand → AV} {H K : Heap} (h : HM H K) {o : Oper} {v : AV} (hx : pureOp P ρ H o = some v) : pureOp P ρ K o = some v := by
  obtain ⟨dst, op, ty, pos, after, guard⟩ := o
  unfold pureOp at hx ⊢
  cases op
  case load => exact loadA_mono h hx
  case makeFunc fn first captured => cases fn <;> exact hx
  case binOp => exact binA_mono h hx
  case slice => exact sliceA_mono h hx
  case indexAddr => exact indexAddrA_mono h hx
  case lookup => exact lookupA_mono h hx
  case call c =>
    obtain ⟨callee, args, argTypes⟩ := c
    cases callee
    case builtin b =>
      cases b
      case cap =>
        simp only at hx ⊢
        split at hx
        · rename_i e1 e2
          exact capA_mono h hx
        · cases hx
      all_goals exact hx
    all_goals exact hx
  all_goals exact hx
end Go.Ab
