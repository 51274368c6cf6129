/- The statement OrderPacks: P16.1, P16.2, P16.5, of any program: registers given anew are what the reference gives, as few as are alive at once, all of it is needed, and the pass of that is that again; the law returns true whatever the program is. -/
import Derived.Test.YtefdgfdahmaciaaWI
import Derived.Test.YtefdgfdahmaciaaWSize
import Derived.Test.YtefdgfdahmaciaaRows
import Derived.Test.YtefdgfdahmaciaaChecked
import Derived.Test.YtefdgfdahmaciaaAbLaw
import Derived.WalkKit
import Derived.ProofKit
import Derived.OpenShut
import Derived.ShutString
import Derived.ChangeOld
import Derived.SizedLaws
namespace Go.Proofs.Ytefdgfdahmaciaa.orderPacks
set_option linter.unusedVariables false
open Go.ChangeShapes Go.WideShapes Go.ChangeAt Go.RowKit Go.Ab
open Go.Proofs.Sw (aP bb Pg)
instance glob : Globals := noGlobals
theorem own : ownKnob Try.prog.godebug = none := by kernel_rfl
theorem mixed : Try.prog.follows .mixedOrders = true := by kernel_rfl
theorem laidOut : laidOutB Try.prog = true := by kernel_rfl
theorem walk (w : World) {v0 : Value} {q : Pg} {nl nl2 : Bool} (h0 : VRel (Old w) [] [] w (aP q nl none nl2 none) v0) (hn : nl = true → q.code = []) (hn2 : nl2 = true → q.outs = []) (hs : q.code.length * 40 ≤ Go.Ab.roomBytes) (hs2 : q.outs.length * 8 ≤ Go.Ab.roomBytes) :
    Calls Try.prog 10 #[v0] w fun e w' => e = .returned (.bool true) ∧ Below w.heap.size w w' := by
  obtain ⟨H, he, _⟩ := ans_strict (Go.Proofs.Sw.OrderPacks_ev (q.outs.length + q.code.length + 7000) q nl none nl2 none (Nat.le_refl _) hn hn2 hs hs2) rfl
  exact law_of_eval mixed he (.cons h0 .nil) (fun g cells h => by cases h)
set_option maxRecDepth 100000 in
theorem lifted (os : Os) (started : os.Started) (H : Type) (enc : TypeId × Value → H) :
    ReturnsInHanded {} Try.checked os 10 .any (Rows.orderPacksSpec.pre6 enc Try.prog Try.f10 Rows.orderPacksRow.domain false) (Rows.orderPacksSpec.post enc Try.prog Try.f10 false true false false) := by
  refine returnsInHanded_of_change_sized (C := Try.checked) own started (by kernel_rfl) Try.func10
    (ChangeSpec.witness6 (enc := enc) (C := Try.checked) false ⟨#[], #[.agg #[.int .i64 0, .int .i64 0, .slice none 0 0, .slice none 0 0]], []⟩ 8 (by kernel_rfl) (by kernel_rfl) (by kernel_rfl) (by kernel_rfl)) ?_
  intro W base args ds gs before hval0 hW hcnd hZ _
  have hW' := hW
  obtain ⟨p, q, hA0, hV, rfl, hfz, hnd⟩ := hW
  have hA : DataW.TrodAll enc Try.prog W 0 (fun _ => true) true Try.f10.params.toList args.toList ds p := hA0
  rw [Try.params10] at hA
  obtain ⟨v0, d0, rfl, rfl, h0⟩ := trodAll_one hA
  obtain ⟨rfl, rfl⟩ := trodVars_none hV
  have k0 := h0
  obtain ⟨pg, nl, nl2, r0, hn, hn2, hl, hl2⟩ := Go.Proofs.Sw.open_pgV h0
  have hz : (d0.weights Try.prog 25).all (· ≤ reachBytes) = true := List.all_eq_true.2 fun n hn => List.all_eq_true.1 hZ n (DataW.weights_mem_each (j := 0) (by rw [Try.params10]; rfl) rfl n hn)
  obtain ⟨hs, hs2⟩ := Go.Proofs.Sw.open_pgZ k0 r0 hz
  have lt0 : ∀ x ∈ p, x.block < W.heap.size := by obtain ⟨m, hm⟩ := k0; exact DataW.trod_lt m _ _ _ hm
  refine (walk W r0 hn hn2 (Go.Proofs.Sw.reach_room hs) (Go.Proofs.Sw.reach_room hs2)).mono fun e W' ⟨he, bel⟩ => ?_
  subst he
  exact ⟨_, rfl, _, _, _, _, _, [], hW', trodAll_mk1 (shut_bool Try.underlying4 _), trodAll_mk1 (Below.trod laidOut (by kernel_rfl) (of_decide_eq_true (by kernel_rfl)) k0 bel lt0), rfl, bel.frame _, fun h => by cases h⟩
theorem over : Rows.orderPacksRow.holds Try.pinned (OpenSpec.ofChange Rows.orderPacksSpec) :=
  OpenClaim.holds_of_wide 10 Try.f10 rfl rfl rfl rfl rfl rfl rfl ⟨rfl, rfl, rfl, rfl, rfl⟩ rfl rfl rfl rfl rfl (by kernel_rfl) Try.func10 (by kernel_rfl)
    (of_decide_eq_true (by kernel_rfl)) (by unfold Func.isWrapper; first | (rw [if_pos (by decide +kernel)]; kernel_rfl) | (rw [if_neg (by decide +kernel)]; exact ⟨rfl, rfl⟩))
    (fun os started H enc _ => lifted os started H enc)
theorem proved : Rows.OrderPacksSaid := over
end Go.Proofs.Ytefdgfdahmaciaa.orderPacks
namespace Go.Proofs.Ytefdgfdahmaciaa
/-- The row, under a short name, for the claim. -/
theorem orderPacks_holds : Rows.OrderPacksSaid := orderPacks.proved
end Go.Proofs.Ytefdgfdahmaciaa
