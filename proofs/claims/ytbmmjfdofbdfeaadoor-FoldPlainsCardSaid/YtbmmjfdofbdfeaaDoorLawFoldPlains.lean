/- The statement FoldPlains: of any two instructions, their plain forms and what they melt into are the document's; the law of chapter 13 returns true whatever the two are, with math/bits' table tied to the program's text. -/
import Derived.Test.YtbmmjfdofbdfeaaDoorF13Args
import Derived.Test.YtbmmjfdofbdfeaaDoorTie
import Derived.Test.YtbmmjfdofbdfeaaDoorCards
import Derived.SevenTiedAt
import Derived.ShutString
import Derived.ChangeOld
import Derived.SizedLaws
namespace Go.Proofs.YtbmmjfdofbdfeaaDoor.foldPlains
open Go.ChangeShapes Go.WideShapes Go.ChangeAt Go.RowKit Go.Ab
open Go.Proofs.YtbmmjfdofbdfeaaDoor.tab
open Go.Proofs.F13 (aI bb run)
theorem w34 : Tryd.prog.wantsStandIn 34 = false := by kernel_rfl
theorem laidOut : laidOutB Tryd.prog = true := by kernel_rfl
theorem walk (w : World) (h : laidMetH Tryd.prog laid2 w) {v0 v1 : Value} {o t a b c o' t' a' b' c' : Int} (h0 : VRel (Old w) [] [] w (aI o t a b c) v0) (h1 : VRel (Old w) [] [] w (aI o' t' a' b' c') v1) :
    Calls Tryd.prog 5 #[v0, v1] w fun e w' => e = .returned (.bool true) ∧ Below w.heap.size w w' := by
  obtain ⟨H, he, _⟩ := ans_strict (Go.Proofs.F13.FoldPlains_ev 0 o t a b c o' t' a' b' c') rfl
  exact law_of_eval mixed he (.cons h0 (.cons h1 .nil)) (tables_rel h)
set_option maxRecDepth 100000 in
theorem lifted (os : Os) (started : os.Started) (H : Type) (enc : TypeId × Value → H) :
    ReturnsInHanded {} Tryd.checked os 5 .any (fun w args => (Rows.foldPlainsSpec.pre enc Tryd.prog Tryd.f5 [] false w args ∧ laidMetH Tryd.prog laid2 w) ∧ sizedMet enc Tryd.prog Tryd.f5 (OpenSpec.ofChange Rows.foldPlainsSpec) false w args)
      (Rows.foldPlainsSpec.post enc Tryd.prog Tryd.f5 false true false false) := by
  refine returnsInHanded_of_change_and (C := Tryd.checked) (X := fun w _ => laidMetH Tryd.prog laid2 w) (fun _ _ _ hh h => h.of_heap hh) own started (by kernel_rfl) Tryd.func5
    (ChangeSpec.witness_shaped (enc := enc) (C := Tryd.checked) (os := os) (X := fun w _ => laidMetH Tryd.prog laid2 w) false (World.doorLaid Tryd.prog 4000 os)
      #[.agg #[.int .i64 0, .int .i64 0, .int .i64 0, .int .i64 0, .int .i64 0], .agg #[.int .i64 0, .int .i64 0, .int .i64 0, .int .i64 0, .int .i64 0]] 8 rfl (World.shaped_of_RefB (by kernel_rfl) (by kernel_rfl)) (by kernel_rfl) (by kernel_rfl) (by kernel_rfl) (door_met os _)) ?_
  intro W base args ds gs before hval0 hW _ _ hL _
  have hW' := hW
  obtain ⟨p, q, hA0, hV, rfl, hfz, hnd⟩ := hW
  have hA : DataW.TrodAll enc Tryd.prog W 0 (fun _ => true) true Tryd.f5.params.toList args.toList ds p := hA0
  rw [Tryd.params5] at hA
  obtain ⟨v0, v1, d0, d1, p0, p1, rfl, rfl, rfl, h0, h1⟩ := trodAll_two hA
  obtain ⟨rfl, rfl⟩ := trodVars_none hV
  have k0 := h0
  have k1 := h1
  have lt0 : ∀ x ∈ p0, x.block < W.heap.size := by obtain ⟨m, hm⟩ := k0; exact DataW.trod_lt m _ _ _ hm
  have lt1 : ∀ x ∈ p1, x.block < W.heap.size := by obtain ⟨m, hm⟩ := k1; exact DataW.trod_lt m _ _ _ hm
  obtain ⟨o, t, a, b, c, r0⟩ := Go.Proofs.F13.open_insV h0
  obtain ⟨o', t', a', b', c', r1⟩ := Go.Proofs.F13.open_insV h1
  refine (walk W hL r0 r1).mono fun e W' ⟨he, bel⟩ => ?_
  subst he
  exact ⟨_, rfl, _, _, _, _, _, [], hW', trodAll_mk1 (shut_bool Tryd.underlying4 _), trodAll_mk2 (Below.trod laidOut (by kernel_rfl) (of_decide_eq_true (by kernel_rfl)) k0 bel lt0) (Below.trod laidOut (by kernel_rfl) (of_decide_eq_true (by kernel_rfl)) k1 bel lt1), rfl, bel.frame _, fun h => by cases h⟩
theorem over : Rows.FoldPlainsSaid :=
  OpenClaim.holds_of_wide 5 Tryd.f5 rfl rfl rfl rfl rfl rfl rfl ⟨rfl, rfl, rfl, rfl, rfl⟩ rfl rfl rfl rfl rfl (by kernel_rfl) Tryd.func5 (by kernel_rfl)
    (of_decide_eq_true (by kernel_rfl)) (by unfold Func.isWrapper; first | (rw [if_pos (by decide +kernel)]; kernel_rfl) | (rw [if_neg (by decide +kernel)]; exact ⟨rfl, rfl⟩))
    (fun os started H enc _ => lifted os started H enc)
theorem proved : Rows.FoldPlainsCardSaid :=
  Claim7.holds_tied_plain_at .later [] [.data, .data] true (true, "4b8e5e0519550b7fcfbef0c082249c73f73822ab298d5137a52af950ced00d86") false
    over (fun _ h => by cases h) (by kernel_rfl) (fun _ h => by cases h) foldPlains_row_tie rfl ⟨rfl, rfl⟩ (by kernel_rfl) rfl
    (fun f fn hf hfn => by
      obtain rfl : f = 5 := Option.some.inj ((show Tryd.prog.funcNamed "swage/swagelaw13.FoldPlains" = some 5 by kernel_rfl).symm.trans hf) |>.symm
      obtain rfl : fn = Tryd.f5 := (Option.some.inj (Tryd.func5.symm.trans hfn)).symm
      exact ⟨by kernel_rfl, fun j t ht => by
        rw [Tryd.params5] at ht
        have e : t = 34 := by
          match j, ht with
          | 0, ht => simpa using ht.symm
          | 1, ht => simpa using ht.symm
        subst e
        exact w34⟩)
    (by kernel_rfl)
end Go.Proofs.YtbmmjfdofbdfeaaDoor.foldPlains
namespace Go.Proofs.YtbmmjfdofbdfeaaDoor
/-- The card, under a short name, for the claim. -/
theorem foldPlains_holds : Rows.FoldPlainsCardSaid := foldPlains.proved
end Go.Proofs.YtbmmjfdofbdfeaaDoor
