/- The statement FoldKnown: the law of chapter 13 that names the document's examples returns true, with math/bits' table tied to the program's text. -/
import Derived.Test.YtbmmjfdofbdfeaaDoorTab
import Derived.Test.YtbmmjfdofbdfeaaDoorTie
import Derived.Test.YtbmmjfdofbdfeaaDoorCards
import Derived.SevenTiedAt
import Derived.ShutString
import Derived.ChangeOld
import Derived.SizedLaws
namespace Go.Proofs.YtbmmjfdofbdfeaaDoor.foldKnown
open Go.ChangeShapes Go.WideShapes Go.ChangeAt Go.RowKit Go.Ab
open Go.Proofs.YtbmmjfdofbdfeaaDoor.tab
def yes : Option (AV × Heap) → Bool
  | some (.c (.bool true), _) => true
  | _ => false
theorem yes_some {x : Option (AV × Heap)} (h : yes x = true) : ∃ H, x = some (.c (.bool true), H) := by
  unfold yes at h
  split at h
  · exact ⟨_, rfl⟩
  · cases h
theorem eval : yes (evalF Tryd.prog {} 100 4 [] []) = true := by kernel_rfl
theorem walk (w : World) (h : laidMetH Tryd.prog laid2 w) : Calls Tryd.prog 4 #[] w fun e w' => e = .returned (.bool true) ∧ Below w.heap.size w w' := by
  obtain ⟨H, he⟩ := yes_some eval
  exact law_of_eval mixed he .nil (tables_rel h)
set_option maxRecDepth 100000 in
theorem lifted (os : Os) (started : os.Started) (H : Type) (enc : TypeId × Value → H) :
    ReturnsInHanded {} Tryd.checked os 4 .any (fun w args => (Rows.foldKnownSpec.pre enc Tryd.prog Tryd.f4 [] false w args ∧ laidMetH Tryd.prog laid2 w) ∧ sizedMet enc Tryd.prog Tryd.f4 (OpenSpec.ofChange Rows.foldKnownSpec) false w args)
      (Rows.foldKnownSpec.post enc Tryd.prog Tryd.f4 false true false false) := by
  refine returnsInHanded_of_change_and (C := Tryd.checked) (X := fun w _ => laidMetH Tryd.prog laid2 w) (fun _ _ _ hh h => h.of_heap hh) own started (by kernel_rfl) Tryd.func4
    (ChangeSpec.witness_shaped (enc := enc) (C := Tryd.checked) (os := os) (X := fun w _ => laidMetH Tryd.prog laid2 w) false (World.doorLaid Tryd.prog 4000 os) #[] 8 rfl (World.shaped_of_RefB (by kernel_rfl) (by kernel_rfl)) (by kernel_rfl) (by kernel_rfl) (by kernel_rfl) (door_met os _)) ?_
  intro W base args ds gs before hval0 hW _ _ hL _
  have hW' := hW
  obtain ⟨p, q, hA0, hV, rfl, hfz, hnd⟩ := hW
  have hA : DataW.TrodAll enc Tryd.prog W 0 (fun _ => true) true Tryd.f4.params.toList args.toList ds p := hA0
  rw [Tryd.params4] at hA
  obtain ⟨hv, rfl, rfl⟩ := trodAll_none hA
  obtain rfl : args = #[] := by cases args; simp_all
  obtain ⟨rfl, rfl⟩ := trodVars_none hV
  refine (walk W hL).mono fun e W' ⟨he, bel⟩ => ?_
  subst he
  exact ⟨_, rfl, _, _, _, [], _, [], hW', trodAll_mk1 (shut_bool Tryd.underlying4 _), trodAll_mk0, rfl, bel.frame _, fun h => by cases h⟩
theorem over : Rows.FoldKnownSaid :=
  OpenClaim.holds_of_wide 4 Tryd.f4 rfl rfl rfl rfl rfl rfl rfl ⟨rfl, rfl, rfl, rfl, rfl⟩ rfl rfl rfl rfl rfl (by kernel_rfl) Tryd.func4 (by kernel_rfl)
    (of_decide_eq_true (by kernel_rfl)) (by unfold Func.isWrapper; first | (rw [if_pos (by decide +kernel)]; kernel_rfl) | (rw [if_neg (by decide +kernel)]; exact ⟨rfl, rfl⟩))
    (fun os started H enc _ => lifted os started H enc)
theorem proved : Rows.FoldKnownCardSaid :=
  Claim7.holds_tied_plain_at .later [] [.data, .data] true (true, "4b8e5e0519550b7fcfbef0c082249c73f73822ab298d5137a52af950ced00d86") false
    over (fun _ h => by cases h) (by kernel_rfl) (fun _ h => by cases h) foldKnown_row_tie rfl ⟨rfl, rfl⟩ (by kernel_rfl) rfl
    (fun f fn hf hfn => by
      obtain rfl : f = 4 := Option.some.inj ((show Tryd.prog.funcNamed "swage/swagelaw13.FoldKnown" = some 4 by kernel_rfl).symm.trans hf) |>.symm
      obtain rfl : fn = Tryd.f4 := (Option.some.inj (Tryd.func4.symm.trans hfn)).symm
      exact ⟨by kernel_rfl, fun j t ht => by
        rw [Tryd.params4] at ht
        simp at ht⟩)
    (by kernel_rfl)
end Go.Proofs.YtbmmjfdofbdfeaaDoor.foldKnown
namespace Go.Proofs.YtbmmjfdofbdfeaaDoor
/-- The card, under a short name, for the claim. -/
theorem foldKnown_holds : Rows.FoldKnownCardSaid := foldKnown.proved
end Go.Proofs.YtbmmjfdofbdfeaaDoor
