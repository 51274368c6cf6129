/- The statement SharePass: P14.1, P14.5, of any program: what the pass makes of it is what the reference makes, in lists of its own, and the pass of that is that again; the law returns true whatever the program is. -/
import Derived.Test.YtefdgfdahmaciaaS14U
import Derived.Test.YtefdgfdahmaciaaSSize
import Derived.Test.YtefdgfdahmaciaaRows
import Derived.Test.YtefdgfdahmaciaaChecked
import Derived.Test.YtefdgfdahmaciaaAbLaw
import Derived.WalkKit
import Derived.ProofKit
import Derived.OpenShut
import Derived.ShutString
import Derived.ChangeOld
import Derived.SizedLaws
namespace Go.Proofs.Ytefdgfdahmaciaa.sharePass
set_option linter.unusedVariables false
open Go.ChangeShapes Go.WideShapes Go.ChangeAt Go.RowKit Go.Ab
open Go.Proofs.Sw (aP bb Pg)
instance glob : Globals := noGlobals
theorem own : ownKnob Try.prog.godebug = none := by kernel_rfl
theorem mixed : Try.prog.follows .mixedOrders = true := by kernel_rfl
theorem laidOut : laidOutB Try.prog = true := by kernel_rfl
theorem walk (w : World) {v0 : Value} {q : Pg} {nl nl2 : Bool} (h0 : VRel (Old w) [] [] w (aP q nl none nl2 none) v0) (hn : nl = true → q.code = []) (hn2 : nl2 = true → q.outs = []) (hs : q.code.length * 40 ≤ Go.Ab.roomBytes) (hs2 : q.outs.length * 8 ≤ Go.Ab.roomBytes) :
    Calls Try.prog 3 #[v0] w fun e w' => e = .returned (.bool true) ∧ Below w.heap.size w w' := by
  obtain ⟨H, he, _⟩ := ans_strict (Go.Proofs.Sw.SharePass_ev (q.outs.length + q.code.length + 6000) q nl none nl2 none (Nat.le_refl _) hn hn2 hs hs2) rfl
  exact law_of_eval mixed he (.cons h0 .nil) (fun g cells h => by cases h)
set_option maxRecDepth 100000 in
theorem lifted (os : Os) (started : os.Started) (H : Type) (enc : TypeId × Value → H) :
    ReturnsInHanded {} Try.checked os 3 .any (Rows.sharePassSpec.pre6 enc Try.prog Try.f3 Rows.sharePassRow.domain false) (Rows.sharePassSpec.post enc Try.prog Try.f3 false true false false) := by
  refine returnsInHanded_of_change_sized (C := Try.checked) own started (by kernel_rfl) Try.func3
    (ChangeSpec.witness6 (enc := enc) (C := Try.checked) false ⟨#[], #[.agg #[.int .i64 0, .int .i64 0, .slice none 0 0, .slice none 0 0]], []⟩ 8 (by kernel_rfl) (by kernel_rfl) (by kernel_rfl) (by kernel_rfl)) ?_
  intro W base args ds gs before hval0 hW hcnd hZ _
  have hW' := hW
  obtain ⟨p, q, hA0, hV, rfl, hfz, hnd⟩ := hW
  have hA : DataW.TrodAll enc Try.prog W 0 (fun _ => true) true Try.f3.params.toList args.toList ds p := hA0
  rw [Try.params3] at hA
  obtain ⟨v0, d0, rfl, rfl, h0⟩ := trodAll_one hA
  obtain ⟨rfl, rfl⟩ := trodVars_none hV
  have k0 := h0
  obtain ⟨pg, nl, nl2, r0, hn, hn2, hl, hl2⟩ := Go.Proofs.Sw.open_pgV h0
  have hz : (d0.weights Try.prog 25).all (· ≤ reachBytes) = true := List.all_eq_true.2 fun n hn => List.all_eq_true.1 hZ n (DataW.weights_mem_each (j := 0) (by rw [Try.params3]; rfl) rfl n hn)
  obtain ⟨hs, hs2⟩ := Go.Proofs.Sw.open_pgZ k0 r0 hz
  have lt0 : ∀ x ∈ p, x.block < W.heap.size := by obtain ⟨m, hm⟩ := k0; exact DataW.trod_lt m _ _ _ hm
  refine (walk W r0 hn hn2 (Go.Proofs.Sw.reach_room hs) (Go.Proofs.Sw.reach_room hs2)).mono fun e W' ⟨he, bel⟩ => ?_
  subst he
  exact ⟨_, rfl, _, _, _, _, _, [], hW', trodAll_mk1 (shut_bool Try.underlying4 _), trodAll_mk1 (Below.trod laidOut (by kernel_rfl) (of_decide_eq_true (by kernel_rfl)) k0 bel lt0), rfl, bel.frame _, fun h => by cases h⟩
theorem over : Rows.sharePassRow.holds Try.pinned (OpenSpec.ofChange Rows.sharePassSpec) :=
  OpenClaim.holds_of_wide 3 Try.f3 rfl rfl rfl rfl rfl rfl rfl ⟨rfl, rfl, rfl, rfl, rfl⟩ rfl rfl rfl rfl rfl (by kernel_rfl) Try.func3 (by kernel_rfl)
    (of_decide_eq_true (by kernel_rfl)) (by unfold Func.isWrapper; first | (rw [if_pos (by decide +kernel)]; kernel_rfl) | (rw [if_neg (by decide +kernel)]; exact ⟨rfl, rfl⟩))
    (fun os started H enc _ => lifted os started H enc)
theorem proved : Rows.SharePassSaid := over
end Go.Proofs.Ytefdgfdahmaciaa.sharePass
namespace Go.Proofs.Ytefdgfdahmaciaa
/-- The row, under a short name, for the claim. -/
theorem sharePass_holds : Rows.SharePassSaid := sharePass.proved
end Go.Proofs.Ytefdgfdahmaciaa
