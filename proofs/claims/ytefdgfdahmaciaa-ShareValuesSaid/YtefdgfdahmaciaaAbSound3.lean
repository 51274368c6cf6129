/- A part of the proof: an interpreter on abstract values for the program's form, and that its answers are right. It speaks of every program of the model's; no condition. -/
import Derived.Test.YtefdgfdahmaciaaAbDraw5
namespace Go.Ab
set_option linter.unusedVariables false
set_option linter.unusedSimpArgs false
open Go.RowKit
section
variable {S S' S'' : Nat → Prop} {σ σ' σ'' : List Nat} {H H' H'' : Heap} {w w' w'' : World} {P : Program} {rd : Option Nat} {n : Nat}

/-- What holds where code has come to an end. -/
def Post [Globals] (S : Nat → Prop) (σ : List Nat) (H : Heap) (w : World) (ds : List Deferred) : Out → Exit → Act → World → Prop
  | .norm F' H', .normal, a, w' => Next S σ H w ds F' H' a w'
  | .exit id F' H', .exit id', a, w' => id' = id ∧ Next S σ H w ds F' H' a w'
  | .ret F' H', .ret, a, w' => Next S σ H w ds F' H' a w'
  | _, _, _, _ => False

theorem Post.comp [Globals] {ds ds' : List Deferred} {o : Out} {e : Exit} {a : Act} (hT : Tr S σ H w S' σ' H' w') (hM : Marked w S' σ' H' w' ds ds') (h : Post S' σ' H' w' ds' o e a w'') : Post S σ H w ds o e a w'' := by
  cases o <;> cases e <;> first | exact h.elim | exact Next.comp hT hM h | exact ⟨h.1, Next.comp hT hM h.2⟩

/-! ### loops over functions -/

theorem Inv.allocOut [Globals] (hI : Inv S σ H w) (obj : Obj) : Inv S σ H (w.alloc obj) ∧ Tr S σ H w S σ H (w.alloc obj) := by
  have hold : ∀ k, k < w.heap.size → (w.alloc obj).heap[k]? = w.heap[k]? := fun k hk => Below.heap_alloc w obj k hk
  have hT : Tr S σ H w S σ H (w.alloc obj) := ⟨rfl, rfl, rfl, by simp, fun b hb _ => hold b hb, fun b cur t fr h => ⟨cur, by rw [hold b (Array.getElem?_eq_some_iff.1 h).1]; exact h, rfl⟩, fun _ h => h, fun _ h => .inl h,
    Nat.le_refl _, fun _ _ _ => rfl, fun _ _ _ _ => rfl, fun _ fz _ cs _ _ h => ⟨fz, cs, h, Nat.le_refl _, fun _ => rfl⟩, fun _ h => .inr h⟩
  exact ⟨⟨hI.len, fun i b o h ho hne => by have := hI.lt i b o h ho hne; simp; omega, fun b h => by have := hI.st b h; simp; omega, hI.free, hI.inj, fun i b o h ho => hI.obj_tr h ho hT (hold b), hI.fz, fun g cells h => (hI.glob g cells h).tr hI hT⟩, hT⟩

theorem enter_sound [Globals] (hI : Inv S σ H w) {F : Fr} {a : Act} (hF : FRel S σ H w F a.tmps) {ar : Option Nat} (hA : AroundRel σ H ar rd) (fn f : FuncId) (ps : Array Tmp) (as b : Code) :
    ∃ (l : Nat) (mark : List Deferred) (w1 : World), (Instr.enterLoop fn a.tmps ps as b rd).run P w = .ok (l, mark) w1 ∧
      Inv S (σ ++ [l]) (H ++ [.loop .ready none f F ps as b]) w1 ∧ Tr S σ H w S (σ ++ [l]) (H ++ [.loop .ready none f F ps as b]) w1 ∧
      Marked w S (σ ++ [l]) (H ++ [.loop .ready none f F ps as b]) w1 a.defers (mark ++ a.defers) := by
  cases ar with
  | none =>
    cases rd with
    | some _ => exact hA.elim
    | none =>
      obtain ⟨hI1, hT1⟩ := hI.allocOut (.deferred (some []))
      have hF1 := hF.tr hI hT1
      obtain ⟨hI2, hT2⟩ := hI1.grow (.loop .ready none f F ps as b) (.loop { state := .ready, pending := none, fn, tmps := a.tmps, params := ps, assign := as, body := b, defers := w.heap.size })
        ⟨a.tmps, w.heap.size, fn, World.alloc_heap_new _ _, hF1.1.symm, fun i => (hF1.2 i).tr hI1 (hI1.growTr _ _)⟩
      refine ⟨w.heap.size + 1, _, _, run_enterLoop_outer fn a.tmps ps as b, by simpa using hI2, by simpa using hT1.trans hT2, [w.heap.size], rfl, by simp, fun r hr => ?_⟩
      simp only [List.mem_singleton] at hr
      subst hr
      refine ⟨Nat.le_refl _, by simp; omega, ?_, fun hS => ?_, fun ho => ?_⟩
      · rw [Below.heap_alloc _ _ _ (by simp)]
        exact World.alloc_heap_new _ _
      · have := hI.st _ hS; omega
      · rcases owned_append hI.len ho with h | ⟨i, o, h1, h2, h3⟩
        · omega
        · have := hI.lt i _ o h1 h2 (live_slot h3); omega
  | some l0 =>
    cases rd with
    | none => exact hA.elim
    | some b0 =>
      obtain ⟨h1, h2⟩ := hA
      obtain ⟨o0, ho0⟩ : ∃ o0, H[l0]? = some o0 := ⟨H[l0]'(tagAt_lt h2), List.getElem?_eq_getElem _⟩
      unfold tagAt at h2
      rw [ho0] at h2
      cases o0 <;> simp [AObj.tag] at h2
      rename_i st pend f0 F0 ps0 as0 bd0
      obtain ⟨vs0, d0, g0, hb0, _, _⟩ := hI.obj l0 b0 _ h1 ho0
      obtain ⟨hI2, hT2⟩ := hI.grow (.loop .ready none f F ps as b) (.loop { state := .ready, pending := none, fn, tmps := a.tmps, params := ps, assign := as, body := b, defers := d0 })
        ⟨a.tmps, d0, fn, World.alloc_heap_new _ _, hF.1.symm, fun i => (hF.2 i).tr hI (hI.growTr _ _)⟩
      refine ⟨w.heap.size, [], _, ?_, hI2, hT2, Marked.refl _ _ _ _ _ _⟩
      unfold Instr.enterLoop
      simp only [Sem.run_bind, run_getLoop hb0, Result.andThen, Sem.run_pure, run_newObj_alloc]

theorem loop_put [Globals] (hI : Inv S σ H w) {l b : Nat} {st st' : LoopState} {pend pend' : Option Code} {f : FuncId} {F : Fr} {ps : Array Tmp} {as bd : Code} (hH : H[l]? = some (.loop st pend f F ps as bd)) (hb : σ[l]? = some b) :
    ∃ rec : Loop, w.heap[b]? = some (.loop rec) ∧ rec.state = st ∧ rec.pending = pend ∧
      Inv S σ (H.set l (.loop st' pend' f F ps as bd)) (w.putObj b (.loop { rec with state := st', pending := pend' })) ∧
      Tr S σ H w S σ (H.set l (.loop st' pend' f F ps as bd)) (w.putObj b (.loop { rec with state := st', pending := pend' })) := by
  obtain ⟨vs, d, g, h1, h2, h3⟩ := hI.obj l b _ hb hH
  refine ⟨_, h1, rfl, rfl, hI.put hH hb rfl rfl rfl rfl (by simp) (fun k hk => World.putObj_heap_other hk) (fun cur t fr h => by rw [h1] at h; cases h) rfl (fun fz t cs h => by cases h) fun hT => ?_⟩
  exact ⟨vs, d, g, World.putObj_heap_same (hI.lt l b _ hb hH (by intro e; cases e)), h2, fun i => (h3 i).tr hI hT⟩

theorem endLoop_sound [Globals] {F : Fr} {l : Nat} {out : Out} (h : endLoopA F l H = some out) (hI : Inv S σ H w) {b : Nat} (hb : σ[l]? = some b) :
    ∃ (jump : Option Code) (w' : World) (H' : Heap), (Instr.endLoop b).run P w = .ok jump w' ∧ Inv S σ H' w' ∧ Tr S σ H w S σ H' w' ∧
      ((jump = none ∧ out = .norm F H') ∨ (jump = some .ret ∧ out = .ret F H') ∨ ∃ id, jump = some (.exit id) ∧ out = .exit id F H') := by
  unfold endLoopA at h
  split at h <;> first | (cases h; done) | skip
  rename_i st pend f F0 ps as bd hH
  split at h <;> first | (cases h; done) | skip
  rename_i hst
  obtain ⟨rec, h1, h2, h3, h4, h5⟩ := loop_put (st' := .exhausted) (pend' := pend) hI hH hb
  have hr : ({ rec with state := LoopState.exhausted, pending := pend } : Loop) = { rec with state := .exhausted } := by rw [← h3]
  rw [hr] at h4 h5
  refine ⟨rec.pending, _, _, run_endLoop h1 (by rw [h2]; exact hst), h4, h5, ?_⟩
  rw [h3]
  split at h <;> first | (cases h; done) | skip
  · injection h with h; exact .inl ⟨rfl, h.symm⟩
  · injection h with h; exact .inr (.inl ⟨rfl, h.symm⟩)
  · injection h with h; exact .inr (.inr ⟨_, rfl, h.symm⟩)

theorem func_sound [Globals] {v x : AV} {u y : Value} (hv : VRel S σ H w v u) (hx : VRel S σ H w x y) {g : FuncId} {args : List AV} (h : funcA v x = some (g, args))
    (hfn : ∃ fn, P.funcs[g]? = some fn ∧ fn.body.isSome = true ∧ (fn.name == "runtime.NumGoroutine") = false) :
    ∃ (d : Deferred) (vs : Array Value), (∀ w1 : World, (Deferred.ofValue u #[y]).run P w1 = .ok d w1 ∧ (invoke d.target d.args).run P w1 = .ok (.enter g vs) w1) ∧ All2 (VRel S σ H w) args vs.toList := by
  obtain ⟨fn, h1, h2, h3⟩ := hfn
  have hcf : ∀ (vs : Array Value) (w1 : World), (callFunc g vs).run P w1 = .ok (.enter g vs) w1 := by
    intro vs w1
    have hb : fn.body.isNone = false := by cases hb : fn.body <;> simp_all
    unfold callFunc
    rw [Sem.run_bind, run_program, Result.andThen_ok, h1]
    simp only [h3, hb, Bool.false_eq_true, if_false, Sem.run_pure]
  unfold funcA at h
  split at h <;> first | (cases h; done) | skip
  · rename_i g0
    injection h with h
    injection h with e1 e2
    subst e1
    subst e2
    cases hv with
    | c hv =>
    cases hv
    exact ⟨{ target := .fn (.func g0) #[], args := #[] ++ #[y] }, #[y], fun w1 => ⟨by simp only [Deferred.ofValue, Sem.run_pure], by simp [invoke, hcf]⟩, .cons hx .nil⟩
  · rename_i g0 first0 cap0
    injection h with h
    injection h with e1 e2
    subst e1
    subst e2
    cases hv with
    | clo l1 l2 r1 r2 =>
    rename_i vf vc
    refine ⟨{ target := .fn (.func g0) vc, args := vf ++ #[y] }, vf ++ #[y] ++ vc, fun w1 => ⟨by simp only [Deferred.ofValue, Sem.run_pure], by simp [invoke, hcf]⟩, ?_⟩
    rw [Array.toList_append, Array.toList_append]
    have k1 : CRel S σ H w _ vf := ⟨l1, r1⟩
    have k2 : CRel S σ H w _ vc := ⟨l2, r2⟩
    exact all2_append (all2_append k1.list (.cons hx .nil)) k2.list

/-- A loop, from the head of a round on. -/
def LoopAt (F : Fence) (n : Nat) (P : Program) (c : Code) (Q : Exit → Act → World → Prop) (a : Act) (w : World) : Prop :=
  ∀ (b : Frame) (k : List Item) (cs : List Frame), b.roundOf = F.round → F.fn b.fn → F.room (cs.length + 1 + n) →
    ∃ e a' w', Q e a' w' ∧ ArrivesIn (Machine.fenced P F) P (lone (b.atR a (.code c :: .inLoop c :: k)) cs w) b k cs e a' w'

theorem loopAt_step {F : Fence} {c : Code} {Q : Exit → Act → World → Prop} {a : Act} (h : c.wpIn F n P (Exit.then (LoopAt F n P c Q) Q) a w) : LoopAt F n P c Q a w := by
  intro b k cs hro hb hr
  obtain ⟨e, a₁, w₁, hq, harr⟩ := h b (.inLoop c :: k) cs hro hb hr
  cases e with
  | normal =>
    obtain ⟨e₂, a₂, w₂, hq₂, harr₂⟩ := hq b k cs hro hb hr
    exact ⟨e₂, a₂, w₂, hq₂, .of_steps (StepsIn.trans harr (.one (fenced_calm hb hr rfl) stepR_inLoop)) harr₂⟩
  | exit id => exact ⟨_, a₁, w₁, hq, .pass (x := .inLoop c) rfl (fun _ _ => .inl (by simp)) harr⟩
  | goto l => exact ⟨_, a₁, w₁, hq, .pass (x := .inLoop c) rfl (fun _ _ => .inl (by simp)) harr⟩
  | ret => exact ⟨_, a₁, w₁, hq, .pass (x := .inLoop c) rfl (fun _ _ => .inl (by simp)) harr⟩
  | panic ch => exact ⟨_, a₁, w₁, hq, .pass (x := .inLoop c) rfl (fun _ _ => .inl (by simp)) harr⟩
  | outgrown => exact ⟨_, a₁, w₁, hq, .pass (x := .inLoop c) rfl (fun _ _ => .inl (by simp)) harr⟩

theorem wpIn_of_loopAt {F : Fence} {c : Code} {Q : Exit → Act → World → Prop} {a : Act} (h : LoopAt F n P c Q a w) : (Code.loop c).wpIn F n P Q a w := by
  intro b k cs hro hb hr
  obtain ⟨e, a', w', hq, harr⟩ := h b k cs hro hb hr
  exact ⟨e, a', w', hq, .of_steps (.one (fenced_calm hb hr rfl) stepR_loop) harr⟩

theorem stepR_scope' {b : Frame} {a : Act} {k : List Item} {cs : List Frame} {c : Code} : step P (lone (b.atR a (.code (.scope c) :: k)) cs w) = .next (lone (b.atR a (.code c :: .inScope c :: k)) cs w) :=
  step_lone_go (by simp [stepG, stepG.exec, Frame.atR])
theorem stepR_inScope' {b : Frame} {a : Act} {k : List Item} {cs : List Frame} {c : Code} : step P (lone (b.atR a (.inScope c :: k)) cs w) = .next (lone (b.atR a k) cs w) :=
  step_lone_go (by simp [stepG, stepG.exec, Frame.atR])

theorem wpIn_scope' [Globals] {F : Fence} {c : Code} {Q : Exit → Act → World → Prop} {a : Act} (h : c.wpIn F n P (Exit.noGoto Q) a w) : (Code.scope c).wpIn F n P Q a w := by
  intro b k cs hro hb hr
  obtain ⟨e, a₁, w₁, hq, harr⟩ := h b (.inScope c :: k) cs hro hb hr
  have h0 : (lone (b.atR a (.code (.scope c) :: k)) cs w).fenced P F := fenced_calm hb hr rfl
  cases e with
  | normal => exact ⟨.normal, a₁, w₁, hq, .head h0 stepR_scope' (StepsIn.trans harr (.one (fenced_calm hb hr rfl) stepR_inScope'))⟩
  | exit id =>
    refine ⟨.exit id, a₁, w₁, hq, fun k' hk => .head h0 stepR_scope' (harr.1 k' (by simp [exitTo, hk])), fun hr2 hk => ?_⟩
    obtain ⟨k₁, h1, h2⟩ := harr.2 hr2 (by simp [exitTo, hk])
    exact ⟨k₁, h1, .head h0 stepR_scope' h2⟩
  | goto l => exact hq.elim
  | ret => exact ⟨_, a₁, w₁, hq, .of_steps (.one h0 stepR_scope') harr⟩
  | panic ch => exact ⟨_, a₁, w₁, hq, .of_steps (.one h0 stepR_scope') harr⟩
  | outgrown => exact ⟨_, a₁, w₁, hq, .of_steps (.one h0 stepR_scope') harr⟩

theorem code_sound [Globals] {cx : Cx} (hc : CallSound P cx.call) (hrn : RoundSound P cx.round) (hm : P.follows .mixedOrders = true) : ∀ (c : Code) (F : Fr) (H : Heap) (out : Out), evalCode P cx c F H = some out →
    ∀ (S : Nat → Prop) (σ : List Nat) (w : World) (a : Act), Inv S σ H w → FRel S σ H w F a.tmps → AroundRel σ H cx.around rd → c.wpIn (Fw rd) n P (Post S σ H w a.defers out) a w := by
  intro c
  induction c with
  | skip =>
    intro F H out h S σ w a hI hF hA
    injection h with h
    subst h
    exact wpIn_skip ⟨S, σ, hI, Tr.refl _ _ _ _, hF, Marked.refl _ _ _ _ _ _⟩
  | label l =>
    intro F H out h S σ w a hI hF hA
    injection h with h
    subst h
    exact wpIn_label ⟨S, σ, hI, Tr.refl _ _ _ _, hF, Marked.refl _ _ _ _ _ _⟩
  | region id ops draw =>
    intro F H out h S σ w a hI hF hA
    simp only [evalCode] at h
    cases draw with
    | true =>
      rw [if_pos rfl] at h
      obtain ⟨⟨F', H'⟩, h1, rfl⟩ := Option.map_eq_some_iff.1 h
      exact draw_sound hc hrn hm h1 hI hF fun a' w' hn => hn
    | false =>
      rw [if_neg (by simp)] at h
      obtain ⟨⟨F', H'⟩, h1, rfl⟩ := Option.map_eq_some_iff.1 h
      refine wpIn_region ?_
      have h2 := ops_sound (rd := rd) (n := n) hc hrn _ 0 F H F' H' h1 (fun k _ => by simp) S σ w a (Post S σ H w a.defers (.norm F' H')) hI hF (fun a' w' hn => hn)
      rw [List.range_eq_range']
      simpa using h2
  | seq x y ihx ihy =>
    intro F H out h S σ w a hI hF hA
    simp only [evalCode] at h
    refine wpIn_seq ?_
    split at h
    · rename_i F1 H1 hx
      refine wpIn_mono (ihx F H _ hx S σ w a hI hF hA) ?_
      rintro e a' w' hp
      cases e <;> first | exact hp.elim | skip
      obtain ⟨S', σ', hI', hT, hF', hds⟩ := hp
      refine wpIn_mono (ihy F1 H1 out h S' σ' w' a' hI' hF' (hA.tr hT)) ?_
      intro e2 a2 w2 hp2
      exact hp2.comp hT hds
    · rename_i hne
      refine wpIn_mono (ihx F H _ h S σ w a hI hF hA) ?_
      rintro e a' w' hp
      cases e with
      | normal =>
        cases out with
        | norm F' H' => exact absurd h (hne F' H')
        | _ => exact hp.elim
      | _ => exact hp
  | cond c x y ihx ihy =>
    intro F H out h S σ w a hI hF hA
    simp only [evalCode] at h
    have hr := evalA_rel hI hF c
    split at h <;> first | (cases h; done) | skip
    · rename_i hc'
      rw [hc'] at hr
      generalize hu : a.eval c = u at hr
      cases hr with
      | c hx =>
      cases hx
      exact wpIn_cond_true hu (ihx F H out h S σ w a hI hF hA)
    · rename_i hc'
      rw [hc'] at hr
      generalize hu : a.eval c = u at hr
      cases hr with
      | c hx =>
      cases hx
      exact wpIn_cond_false hu (ihy F H out h S σ w a hI hF hA)
  | block id b ih =>
    intro F H out h S σ w a hI hF hA
    simp only [evalCode] at h
    refine wpIn_block ?_
    split at h
    · rename_i id' F' H' hb
      refine wpIn_mono (ih F H _ hb S σ w a hI hF hA) ?_
      rintro e a' w' hp
      cases e <;> first | exact hp.elim | skip
      obtain ⟨rfl, hp⟩ := hp
      simp only [Exit.inBlock]
      split at h
      · rename_i hid
        injection h with h
        subst h
        rw [if_pos hid]
        exact hp
      · rename_i hid
        injection h with h
        subst h
        rw [if_neg hid]
        exact ⟨rfl, hp⟩
    · rename_i hne
      refine wpIn_mono (ih F H _ h S σ w a hI hF hA) ?_
      rintro e a' w' hp
      cases e with
      | exit id2 =>
        cases out with
        | exit id3 F' H' => exact absurd h (hne id3 F' H')
        | _ => exact hp.elim
      | _ => exact hp
  | loop b ih =>
    intro F H out h S σ w a hI hF hA
    simp only [evalCode] at h
    split at h <;> first | (cases h; done) | skip
    rename_i haok
    refine wpIn_of_loopAt ?_
    generalize ((firstRegion b).map (cx.hints.clear cx.fn)).getD [] = cl at h
    generalize hn0 : H.length = n0 at h haok
    have key : ∀ (k : Nat) (F1 : Fr) (H1 : Heap) (out : Out), iter (evalCode P cx b) cl n0 k F1 H1 = some out → ∀ (S1 : Nat → Prop) (σ1 : List Nat) (w1 : World) (a1 : Act), Inv S1 σ1 H1 w1 → FRel S1 σ1 H1 w1 F1 a1.tmps → Tr S σ H w S1 σ1 H1 w1 → Marked w S1 σ1 H1 w1 a.defers a1.defers →
        LoopAt (Fw rd) n P b (Post S σ H w a.defers out) a1 w1 := by
      intro k
      induction k with
      | zero => intro F1 H1 out h; cases h
      | succ k ihk =>
        intro F1 H1 out h S1 σ1 w1 a1 hI1 hF1 hT1 hd1
        simp only [iter] at h
        have hFc := hF1.clear cl
        -- what lies at the round's head
        have hA1 := hA.tr hT1
        obtain ⟨σ2, hI2, hF2, hT2, hA2, hM2⟩ : ∃ σ2, Inv S1 σ2 (trim n0 (clearAll F1 cl) H1) w1 ∧ FRel S1 σ2 (trim n0 (clearAll F1 cl) H1) w1 (clearAll F1 cl) a1.tmps ∧ Tr S σ H w S1 σ2 (trim n0 (clearAll F1 cl) H1) w1 ∧
            AroundRel σ2 (trim n0 (clearAll F1 cl) H1) cx.around rd ∧ Marked w S1 σ2 (trim n0 (clearAll F1 cl) H1) w1 a.defers a1.defers := by
          unfold trim
          split
          · rename_i hu
            obtain ⟨u1, u2⟩ := hu
            exact ⟨σ1.take n0, hI1.trim u2, ⟨hFc.1, fun i => (hFc.2 i).trim (PT.all_get rfl _ u1 i)⟩, hT1.trim hn0.symm, hA1.trim haok, hd1.trim⟩
          · exact ⟨σ1, hI1, hFc, hT1, hA1, hd1⟩
        refine loopAt_step ?_
        split at h
        · rename_i F2 H2 hb
          refine wpIn_mono (ih _ _ _ hb S1 σ2 w1 a1 hI2 hF2 hA2) ?_
          rintro e a' w' hp
          cases e <;> first | exact hp.elim | skip
          obtain ⟨S3, σ3, hI3, hT3, hF3, hd3⟩ := hp
          exact ihk F2 H2 out h S3 σ3 w' a' hI3 hF3 (hT2.trans hT3) (hM2.comp hT2.size hT3 hd3)
        · rename_i hne
          refine wpIn_mono (ih _ _ _ h S1 σ2 w1 a1 hI2 hF2 hA2) ?_
          rintro e a' w' hp
          have hp' := hp.comp hT2 hM2
          cases e with
          | normal =>
            cases out with
            | norm F' H' => exact absurd h (hne F' H')
            | _ => exact hp.elim
          | _ => exact hp'
    exact key cx.fuel F H out h S σ w a hI hF (Tr.refl _ _ _ _) (Marked.refl _ _ _ _ _ _)
  | scope b ih =>
    intro F H out h S σ w a hI hF hA
    simp only [evalCode] at h
    refine wpIn_scope' (wpIn_mono (ih F H out h S σ w a hI hF hA) ?_)
    intro e a' w' hp
    cases e with
    | goto l => cases out <;> exact hp.elim
    | _ => exact hp
  | exit id =>
    intro F H out h S σ w a hI hF hA
    injection h with h
    subst h
    exact wpIn_exit ⟨rfl, S, σ, hI, Tr.refl _ _ _ _, hF, Marked.refl _ _ _ _ _ _⟩
  | ret =>
    intro F H out h S σ w a hI hF hA
    injection h with h
    subst h
    exact wpIn_ret ⟨S, σ, hI, Tr.refl _ _ _ _, hF, Marked.refl _ _ _ _ _ _⟩
  | rangeFunc f ps as b _ _ =>
    intro F H out h S σ w a hI hF hA
    simp only [evalCode] at h
    obtain ⟨⟨g, args⟩, hg, h⟩ := Option.bind_eq_some_iff.1 h
    obtain ⟨⟨v, H2⟩, hcall, h⟩ := Option.bind_eq_some_iff.1 h
    simp only at hcall h
    obtain ⟨hfn, hcs⟩ := hc g args _ v H2 hcall
    refine wpIn_rangeFunc fun fn _ => ?_
    obtain ⟨l, mark, w1, he, hI1, hT1, hM1⟩ := enter_sound (P := P) hI hF hA fn cx.fn ps as b
    have hl1 : (σ ++ [l])[H.length]? = some l := by rw [← hI.len]; simp
    have ht1 : tagAt (H ++ [AObj.loop .ready none cx.fn F ps as b]) H.length = some 3 := by simp [tagAt, AObj.tag]
    obtain ⟨d, vs, hrun, hargs⟩ := func_sound (P := P) ((evalA_rel hI hF f).tr hI hT1) (VRel.yld hl1 ht1) hg hfn
    refine ⟨l, mark, w1, d, w1, g, vs, w1, he, ?_, fun _ _ => trivial, (hrun w1).2, (fun hd => by cases hd), callsIn_Fw ((hcs S _ w1 vs hI1 hargs).mono ?_)⟩
    · have := (hrun w1).1
      simpa [resolve, rangeCall, Act.eval] using this
    · rintro e w2 ⟨u, S2, σ2, rfl, hI2, hT2, hv⟩
      have hl2 : σ2[H.length]? = some l := by rw [hT2.fix _ (by simp) (by rw [ht1]; simp) (by rw [ht1]; simp)]; exact hl1
      obtain ⟨jump, w3, H3, hend, hI3, hT3, hj⟩ := endLoop_sound (P := P) h hI2 hl2
      have hT : Tr S σ H w S2 σ2 H3 w3 := hT1.trans (hT2.trans hT3)
      have hN : Next S σ H w a.defers F H3 { a with defers := mark ++ a.defers } w3 :=
        ⟨S2, σ2, hI3, hT, hF.tr hI hT, hM1.comp hT1.size (hT2.trans hT3) (Marked.refl _ _ _ _ _ _)⟩
      refine ⟨jump, w3, hend, ?_⟩
      rcases hj with ⟨rfl, rfl⟩ | ⟨rfl, rfl⟩ | ⟨id, rfl, rfl⟩
      · exact hN
      · exact wpIn_ret hN
      · exact wpIn_exit ⟨rfl, hN⟩
  | goto l => intro F H out h; cases h
  | refuse why => intro F H out h; cases h

theorem setAll_rel : ∀ (ts : List Tmp) (xs : List AV) (vs : List Value) (F : Fr) (tmps : Array Value), ts.length = xs.length → All2 (VRel S σ H w) xs vs → FRel S σ H w F tmps →
    FRel S σ H w (setAll F ts xs) ((ts.zip vs).foldl (fun tmps (t, a) => tmps.setIfInBounds t a) tmps) := by
  intro ts
  induction ts with
  | nil => intro xs vs F tmps h ha hF; cases xs <;> exact hF
  | cons t ts ih =>
    intro xs vs F tmps h ha hF
    cases ha with
    | nil => simp at h
    | cons hx ha =>
      rw [setAll, List.zip_cons_cons, List.foldl_cons]
      exact ih _ _ _ _ (by simpa using h) ha (hF.set hx t)

theorem loopSet_sound [Globals] {l : Nat} {st : LoopState} {pend : Option Code} (h : loopSet H l st pend = some H') (hI : Inv S σ H w) {b : Nat} (hb : σ[l]? = some b) :
    ∃ rec : Loop, w.heap[b]? = some (.loop rec) ∧ Inv S σ H' (w.putObj b (.loop { rec with state := st, pending := pend })) ∧ Tr S σ H w S σ H' (w.putObj b (.loop { rec with state := st, pending := pend })) := by
  unfold loopSet at h
  split at h <;> first | (cases h; done) | skip
  rename_i st0 pend0 f F ps as bd hH
  injection h with h
  subst h
  obtain ⟨rec, h1, _, _, h4, h5⟩ := loop_put (st' := st) (pend' := pend) hI hH hb
  exact ⟨rec, h1, h4, h5⟩

/-- One round. -/
theorem round_sound [Globals] {cx : Cx} (hc : CallSound P cx.call) (hrn : RoundSound P cx.round) (hm : P.follows .mixedOrders = true) : RoundSound P (runRound P cx) := by
  intro id args H r H' h S σ w b vs hI hb ha
  unfold runRound at h
  split at h <;> first | (cases h; done) | skip
  rename_i st pend f F ps as bd hH
  split at h <;> first | (cases h; done) | skip
  rename_i hsz
  obtain ⟨tv, d, g, h1, h2, h3⟩ := hI.obj id b _ hb hH
  have hl := ha.length
  simp only [Array.length_toList] at hl
  refine ⟨_, h1, by simp; omega, fun rd n => roundIn_of_wpIn (F := Fw rd) trivial ?_⟩
  split at h <;> first | (cases h; done) | skip
  rename_i F1 H1 has
  split at h <;> first | (cases h; done) | skip
  rename_i pend1 f1 F01 ps1 as1 bd1 hH1
  obtain ⟨out, hbody, hend⟩ := Option.bind_eq_some_iff.1 h
  have hFr : FRel S σ H w (setAll F ps.toList args) ((ps.zip vs).foldl (fun tmps (t, a) => tmps.setIfInBounds t a) tv) := by
    have := setAll_rel ps.toList args vs.toList F tv (by simpa using hsz.symm) ha ⟨h2.symm, h3⟩
    rw [← Array.foldl_toList, Array.toList_zip]
    exact this
  have hA : AroundRel σ H (some id) (some b) := ⟨hb, by simp [tagAt, hH, AObj.tag]⟩
  have w1 := code_sound (n := n) (rd := some b) (P := P) (cx := { cx with fn := f, around := some id }) hc hrn hm as _ H _ has S σ w { tmps := (ps.zip vs).foldl (fun tmps (t, a) => tmps.setIfInBounds t a) tv, defers := [] } hI hFr hA
  refine wpIn_mono (F := Fw (some b)) w1 ?_
  intro e a1 w1 hp
  cases e <;> first | exact hp.elim | skip
  obtain ⟨S1, σ1, hI1, hT1, hF1, hM1⟩ := hp
  have hA1 := hA.tr hT1
  obtain ⟨rec, g1, g2, g3, hI2, hT2⟩ := loop_put (st' := .busy) (pend' := pend1) hI1 hH1 hA1.1
  have hr : ({ rec with state := LoopState.busy, pending := pend1 } : Loop) = { rec with state := .busy } := by rw [← g3]
  rw [hr] at hI2 hT2
  refine ⟨_, run_beginRound g1 g2, ?_⟩
  have w2 := code_sound (n := n) (rd := some b) (P := P) (cx := { cx with fn := f, around := some id }) hc hrn hm bd F1 _ _ hbody S1 σ1 _ a1 hI2 (hF1.tr hI1 hT2) (hA1.tr hT2)
  refine wpIn_mono (F := Fw (some b)) w2 ?_
  have key : ∀ (jump : Option Code) (F2 : Fr) (H2 : Heap) (a2 : Act) (w2 : World), Next S1 σ1 (H1.set id (.loop .busy pend1 f1 F01 ps1 as1 bd1)) (w1.putObj b (.loop { rec with state := .busy })) a1.defers F2 H2 a2 w2 →
      (loopSet H2 id (if jump.isNone = true then .ready else .done) jump).map (fun H' => (AV.c (.bool jump.isNone), H')) = some (r, H') →
      ∃ v w', (Instr.endRound b jump).run P w2 = .ok v w' ∧ CallPost S σ H w r H' (.returned v) w' := by
    intro jump F2 H2 a2 w2 hN hls
    obtain ⟨H3, hl3, he⟩ := Option.map_eq_some_iff.1 hls
    injection he with e1 e2
    subst e1
    subst e2
    obtain ⟨S2, σ2, hI3, hT3, hF3, hM3⟩ := hN
    have hb2 : σ2[id]? = some b := ((hA1.tr hT2).tr hT3).1
    obtain ⟨rec2, k1, k2, k3⟩ := loopSet_sound hl3 hI3 hb2
    exact ⟨_, _, run_endRound jump k1, _, S2, σ2, rfl, k2, hT1.trans (hT2.trans (hT3.trans k3)), .c (.bool _)⟩
  intro e a2 w2 hp
  cases e with
  | normal =>
    cases out <;> first | exact hp.elim | skip
    exact key none _ _ _ _ hp hend
  | ret =>
    cases out <;> first | exact hp.elim | skip
    exact key (some .ret) _ _ _ _ hp hend
  | exit j =>
    cases out <;> first | exact hp.elim | skip
    obtain ⟨rfl, hp⟩ := hp
    exact key (some (.exit _)) _ _ _ _ hp hend
  | _ => cases out <;> exact hp.elim

end
end Go.Ab
