/- The statement OrderSame: P16.4, of any program and any grid: what Pack makes of it answers the same over the grid, if the program is judged exact there; the law returns true whatever the program is. -/
import Derived.Test.YtefdgfdahmaciaaVH
import Derived.Test.YtefdgfdahmaciaaRows
import Derived.Test.YtefdgfdahmaciaaChecked
import Derived.Test.YtefdgfdahmaciaaAbLaw
import Derived.WalkKit
import Derived.ProofKit
import Derived.OpenShut
import Derived.ShutString
import Derived.ChangeOld
import Derived.SizedLaws
namespace Go.Proofs.Ytefdgfdahmaciaa.orderSame
set_option linter.unusedVariables false
open Go.ChangeShapes Go.WideShapes Go.ChangeAt Go.RowKit Go.Ab
open Go.Proofs.Sw (aP bb Pg)
instance glob : Globals := noGlobals
theorem own : ownKnob Try.prog.godebug = none := by kernel_rfl
theorem mixed : Try.prog.follows .mixedOrders = true := by kernel_rfl
theorem laidOut : laidOutB Try.prog = true := by kernel_rfl
theorem walk (w : World) {v0 : Value} {q : Pg} {nl nl2 : Bool} (h0 : VRel (Old w) [] [] w (aP q nl none nl2 none) v0) {v1 : Value} {D : List Go.Proofs.Sw.Gr} {nl3 : Bool} (h1 : VRel (Old w) [] [] w (Go.Proofs.Sw.sG D nl3 none) v1) (hD : Go.Proofs.Sw.GrOk D) (hDl : D.length ≤ 4611686018427387904) (hDz : D.length * 24 ≤ Go.Ab.roomBytes) (hn : nl = true → q.code = []) (hn2 : nl2 = true → q.outs = []) (hs : q.code.length * 40 ≤ Go.Ab.roomBytes) (hs2 : q.outs.length * 8 ≤ Go.Ab.roomBytes) :
    Calls Try.prog 8 #[v0, v1] w fun e w' => e = .returned (.bool true) ∧ Below w.heap.size w w' := by
  obtain ⟨H, he, _⟩ := ans_strict (Go.Proofs.Sw.OrderSame_ev (q.outs.length + q.code.length + D.length + 70100) q nl none nl2 none D nl3 none (by omega) hn hn2 hs hs2 hD hDl hDz) rfl
  exact law_of_eval mixed he (.cons h0 (.cons h1 .nil)) (fun g cells h => by cases h)
set_option maxRecDepth 100000 in
theorem lifted (os : Os) (started : os.Started) (H : Type) (enc : TypeId × Value → H) :
    ReturnsInHanded {} Try.checked os 8 .any (Rows.orderSameSpec.pre6 enc Try.prog Try.f8 Rows.orderSameRow.domain false) (Rows.orderSameSpec.post enc Try.prog Try.f8 false true false false) := by
  refine returnsInHanded_of_change_sized (C := Try.checked) own started (by kernel_rfl) Try.func8
    (ChangeSpec.witness6 (enc := enc) (C := Try.checked) false ⟨#[], #[.agg #[.int .i64 0, .int .i64 0, .slice none 0 0, .slice none 0 0], .slice none 0 0], []⟩ 8 (by kernel_rfl) (by kernel_rfl) (by kernel_rfl) (by kernel_rfl)) ?_
  intro W base args ds gs before hval0 hW hcnd hZ _
  have hW' := hW
  obtain ⟨p, q, hA0, hV, rfl, hfz, hnd⟩ := hW
  have hA : DataW.TrodAll enc Try.prog W 0 (fun _ => true) true Try.f8.params.toList args.toList ds p := hA0
  rw [Try.params8] at hA
  obtain ⟨v0, v1, d0, d1, p0, p1, rfl, rfl, rfl, h0, h1⟩ := trodAll_two hA
  obtain ⟨rfl, rfl⟩ := trodVars_none hV
  have k0 := h0
  obtain ⟨pg, nl, nl2, r0, hn, hn2, hl, hl2⟩ := Go.Proofs.Sw.open_pgV h0
  have hz : (d0.weights Try.prog 25).all (· ≤ reachBytes) = true := List.all_eq_true.2 fun n hn => List.all_eq_true.1 hZ n (DataW.weights_mem_each (j := 0) (by rw [Try.params8]; rfl) rfl n hn)
  obtain ⟨hs, hs2⟩ := Go.Proofs.Sw.open_pgZ k0 r0 hz
  have lt0 : ∀ x ∈ p0, x.block < W.heap.size := by obtain ⟨m, hm⟩ := k0; exact DataW.trod_lt m _ _ _ hm
  have hval : ∀ (j : Nat) t v, Try.f8.params[j]? = some t → #[v0, v1][j]? = some v → Value.okWide Try.prog W .any base t v := hval0
  have k1 := h1
  have hsl := okWide_slice Try.underlying35 (hval 1 35 v1 (by rw [show Try.f8.params = #[25, 35] from rfl]; rfl) rfl)
  obtain ⟨D, nl3, r1, hD, hDl⟩ := Go.Proofs.Sw.open_gridV hsl h1
  have hz1 : (d1.weights Try.prog 35).all (· ≤ reachBytes) = true := List.all_eq_true.2 fun n hn => List.all_eq_true.1 hZ n (DataW.weights_mem_each (j := 1) (by rw [Try.params8]; rfl) rfl n hn)
  have hDz := Go.Proofs.Sw.open_gridZ hsl k1 r1 hz1
  have lt1 : ∀ x ∈ p1, x.block < W.heap.size := by obtain ⟨m, hm⟩ := k1; exact DataW.trod_lt m _ _ _ hm
  refine (walk W r0 r1 hD (Nat.le_trans (show D.length ≤ D.length * 24 by omega) (Nat.le_trans hDz (by decide))) (Go.Proofs.Sw.reach_room hDz) hn hn2 (Go.Proofs.Sw.reach_room hs) (Go.Proofs.Sw.reach_room hs2)).mono fun e' W' ⟨he, bel⟩ => ?_
  subst he
  exact ⟨_, rfl, _, _, _, _, _, [], hW', trodAll_mk1 (shut_bool Try.underlying4 _), trodAll_mk2 (Below.trod laidOut (by kernel_rfl) (of_decide_eq_true (by kernel_rfl)) k0 bel lt0) (Below.trod laidOut (by kernel_rfl) (of_decide_eq_true (by kernel_rfl)) k1 bel lt1), rfl, bel.frame _, fun h => by cases h⟩
theorem over : Rows.orderSameRow.holds Try.pinned (OpenSpec.ofChange Rows.orderSameSpec) :=
  OpenClaim.holds_of_wide 8 Try.f8 rfl rfl rfl rfl rfl rfl rfl ⟨rfl, rfl, rfl, rfl, rfl⟩ rfl rfl rfl rfl rfl (by kernel_rfl) Try.func8 (by kernel_rfl)
    (of_decide_eq_true (by kernel_rfl)) (by unfold Func.isWrapper; first | (rw [if_pos (by decide +kernel)]; kernel_rfl) | (rw [if_neg (by decide +kernel)]; exact ⟨rfl, rfl⟩))
    (fun os started H enc _ => lifted os started H enc)
theorem proved : Rows.OrderSameSaid := over
end Go.Proofs.Ytefdgfdahmaciaa.orderSame
namespace Go.Proofs.Ytefdgfdahmaciaa
/-- The row, under a short name, for the claim. -/
theorem orderSame_holds : Rows.OrderSameSaid := orderSame.proved
end Go.Proofs.Ytefdgfdahmaciaa
