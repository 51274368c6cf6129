/- The statement DeadKnown: the law of chapter 15 that names the document's examples returns true. -/
import Derived.Test.YtefdgfdahmaciaaRows
import Derived.Test.YtefdgfdahmaciaaChecked
import Derived.Test.YtefdgfdahmaciaaAbLaw
import Derived.WalkKit
import Derived.ProofKit
import Derived.OpenShut
import Derived.ShutString
import Derived.ChangeOld
import Derived.SizedLaws
namespace Go.Proofs.Ytefdgfdahmaciaa.deadKnown
open Go.ChangeShapes Go.WideShapes Go.ChangeAt Go.RowKit Go.Ab
theorem own : ownKnob Try.prog.godebug = none := by kernel_rfl
theorem mixed : Try.prog.follows .mixedOrders = true := by kernel_rfl
def yes : Option (AV × Heap) → Bool
  | some (.c (.bool true), _) => true
  | _ => false
theorem yes_some {x : Option (AV × Heap)} (h : yes x = true) : ∃ H, x = some (.c (.bool true), H) := by
  unfold yes at h
  split at h
  · exact ⟨_, rfl⟩
  · cases h
theorem eval : yes (evalF Try.prog {} 100 6 [] []) = true := by kernel_rfl
theorem walk (w : World) : Calls Try.prog 6 #[] w fun e w' => e = .returned (.bool true) ∧ Below w.heap.size w w' := by
  obtain ⟨H, h⟩ := yes_some eval
  exact law_of_eval mixed h .nil
set_option maxRecDepth 100000 in
theorem lifted (os : Os) (started : os.Started) (H : Type) (enc : TypeId × Value → H) :
    ReturnsInHanded {} Try.checked os 6 .any (Rows.deadKnownSpec.pre6 enc Try.prog Try.f6 Rows.deadKnownRow.domain false) (Rows.deadKnownSpec.post enc Try.prog Try.f6 false true false false) := by
  refine returnsInHanded_of_change_sized (C := Try.checked) own started (by kernel_rfl) Try.func6
    (ChangeSpec.witness6 (enc := enc) (C := Try.checked) false ⟨#[], #[], []⟩ 8 (by kernel_rfl) (by kernel_rfl) (by kernel_rfl) (by kernel_rfl)) ?_
  intro W base args ds gs before hval0 hW hcnd hsz0 _
  have hW' := hW
  obtain ⟨p, q, hA0, hV, rfl, hfz, hnd⟩ := hW
  have hA : DataW.TrodAll enc Try.prog W 0 (fun _ => true) true Try.f6.params.toList args.toList ds p := hA0
  rw [Try.params6] at hA
  obtain ⟨hv, rfl, rfl⟩ := trodAll_none hA
  obtain rfl : args = #[] := by cases args; simp_all
  obtain ⟨rfl, rfl⟩ := trodVars_none hV
  refine (walk W).mono fun e W' ⟨he, bel⟩ => ?_
  subst he
  exact ⟨_, rfl, _, _, _, [], _, [], hW', trodAll_mk1 (shut_bool Try.underlying4 _), trodAll_mk0, rfl, bel.frame _, fun h => by cases h⟩
theorem over : Rows.deadKnownRow.holds Try.pinned (OpenSpec.ofChange Rows.deadKnownSpec) :=
  OpenClaim.holds_of_wide 6 Try.f6 rfl rfl rfl rfl rfl rfl rfl ⟨rfl, rfl, rfl, rfl, rfl⟩ rfl rfl rfl rfl rfl (by kernel_rfl) Try.func6 (by kernel_rfl)
    (of_decide_eq_true (by kernel_rfl)) (by unfold Func.isWrapper; first | (rw [if_pos (by decide +kernel)]; kernel_rfl) | (rw [if_neg (by decide +kernel)]; exact ⟨rfl, rfl⟩))
    (fun os started H enc _ => lifted os started H enc)
theorem proved : Rows.DeadKnownSaid := over
end Go.Proofs.Ytefdgfdahmaciaa.deadKnown
namespace Go.Proofs.Ytefdgfdahmaciaa
/-- The row, under a short name, for the claim. -/
theorem deadKnown_holds : Rows.DeadKnownSaid := deadKnown.proved
end Go.Proofs.Ytefdgfdahmaciaa
