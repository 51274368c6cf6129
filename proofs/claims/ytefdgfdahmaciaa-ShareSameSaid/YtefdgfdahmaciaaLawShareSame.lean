/- The statement ShareSame: P14.5, of any program and any numbers: what the pass makes of it runs to the same numbers, or fails as it does, and does nothing more often; the law returns true whatever the program is. -/
import Derived.Test.YtefdgfdahmaciaaVE
import Derived.Test.YtefdgfdahmaciaaVG
import Derived.Test.YtefdgfdahmaciaaRows
import Derived.Test.YtefdgfdahmaciaaChecked
import Derived.Test.YtefdgfdahmaciaaAbLaw
import Derived.WalkKit
import Derived.ProofKit
import Derived.OpenShut
import Derived.ShutString
import Derived.ChangeOld
import Derived.SizedLaws
namespace Go.Proofs.Ytefdgfdahmaciaa.shareSame
set_option linter.unusedVariables false
open Go.ChangeShapes Go.WideShapes Go.ChangeAt Go.RowKit Go.Ab
open Go.Proofs.Sw (aP bb Pg)
instance glob : Globals := noGlobals
theorem own : ownKnob Try.prog.godebug = none := by kernel_rfl
theorem mixed : Try.prog.follows .mixedOrders = true := by kernel_rfl
theorem laidOut : laidOutB Try.prog = true := by kernel_rfl
theorem walk (w : World) {v0 : Value} {q : Pg} {nl nl2 : Bool} (h0 : VRel (Old w) [] [] w (aP q nl none nl2 none) v0) {v1 : Value} {D : List Int} {nl3 : Bool} (h1 : VRel (Old w) [] [] w (Go.Proofs.Sw.sI D nl3 none) v1) (hD : ∀ x ∈ D, Go.Proofs.Sw.in64 x) (hn : nl = true → q.code = []) (hn2 : nl2 = true → q.outs = []) (hs : q.code.length * 40 ≤ Go.Ab.roomBytes) (hs2 : q.outs.length * 8 ≤ Go.Ab.roomBytes) :
    Calls Try.prog 11 #[v0, v1] w fun e w' => e = .returned (.bool true) ∧ Below w.heap.size w w' := by
  obtain ⟨H, he, _⟩ := ans_strict (Go.Proofs.Sw.W.ShareSame_ev (q.outs.length + q.code.length + D.length + 80100) q nl none nl2 none D nl3 none (by omega) hn hn2 hs hs2 hD) rfl
  exact law_of_eval mixed he (.cons h0 (.cons h1 .nil)) (fun g cells h => by cases h)
set_option maxRecDepth 100000 in
theorem lifted (os : Os) (started : os.Started) (H : Type) (enc : TypeId × Value → H) :
    ReturnsInHanded {} Try.checked os 11 .any (Rows.shareSameSpec.pre6 enc Try.prog Try.f11 Rows.shareSameRow.domain false) (Rows.shareSameSpec.post enc Try.prog Try.f11 false true false false) := by
  refine returnsInHanded_of_change_sized (C := Try.checked) own started (by kernel_rfl) Try.func11
    (ChangeSpec.witness6 (enc := enc) (C := Try.checked) false ⟨#[], #[.agg #[.int .i64 0, .int .i64 0, .slice none 0 0, .slice none 0 0], .slice none 0 0], []⟩ 8 (by kernel_rfl) (by kernel_rfl) (by kernel_rfl) (by kernel_rfl)) ?_
  intro W base args ds gs before hval0 hW hcnd hZ _
  have hW' := hW
  obtain ⟨p, q, hA0, hV, rfl, hfz, hnd⟩ := hW
  have hA : DataW.TrodAll enc Try.prog W 0 (fun _ => true) true Try.f11.params.toList args.toList ds p := hA0
  rw [Try.params11] at hA
  obtain ⟨v0, v1, d0, d1, p0, p1, rfl, rfl, rfl, h0, h1⟩ := trodAll_two hA
  obtain ⟨rfl, rfl⟩ := trodVars_none hV
  have k0 := h0
  obtain ⟨pg, nl, nl2, r0, hn, hn2, hl, hl2⟩ := Go.Proofs.Sw.open_pgV h0
  have hz : (d0.weights Try.prog 25).all (· ≤ reachBytes) = true := List.all_eq_true.2 fun n hn => List.all_eq_true.1 hZ n (DataW.weights_mem_each (j := 0) (by rw [Try.params11]; rfl) rfl n hn)
  obtain ⟨hs, hs2⟩ := Go.Proofs.Sw.open_pgZ k0 r0 hz
  have lt0 : ∀ x ∈ p0, x.block < W.heap.size := by obtain ⟨m, hm⟩ := k0; exact DataW.trod_lt m _ _ _ hm
  have hval : ∀ (j : Nat) t v, Try.f11.params[j]? = some t → #[v0, v1][j]? = some v → Value.okWide Try.prog W .any base t v := hval0
  have k1 := h1
  have hsl := okWide_slice Try.underlying38 (hval 1 38 v1 (by rw [show Try.f11.params = #[25, 38] from rfl]; rfl) rfl)
  obtain ⟨D, nl3, r1, hD, hDl⟩ := Go.Proofs.Sw.open_intsV hsl h1
  have lt1 : ∀ x ∈ p1, x.block < W.heap.size := by obtain ⟨m, hm⟩ := k1; exact DataW.trod_lt m _ _ _ hm
  refine (walk W r0 r1 hD hn hn2 (Go.Proofs.Sw.reach_room hs) (Go.Proofs.Sw.reach_room hs2)).mono fun e' W' ⟨he, bel⟩ => ?_
  subst he
  exact ⟨_, rfl, _, _, _, _, _, [], hW', trodAll_mk1 (shut_bool Try.underlying4 _), trodAll_mk2 (Below.trod laidOut (by kernel_rfl) (of_decide_eq_true (by kernel_rfl)) k0 bel lt0) (Below.trod laidOut (by kernel_rfl) (of_decide_eq_true (by kernel_rfl)) k1 bel lt1), rfl, bel.frame _, fun h => by cases h⟩
theorem over : Rows.shareSameRow.holds Try.pinned (OpenSpec.ofChange Rows.shareSameSpec) :=
  OpenClaim.holds_of_wide 11 Try.f11 rfl rfl rfl rfl rfl rfl rfl ⟨rfl, rfl, rfl, rfl, rfl⟩ rfl rfl rfl rfl rfl (by kernel_rfl) Try.func11 (by kernel_rfl)
    (of_decide_eq_true (by kernel_rfl)) (by unfold Func.isWrapper; first | (rw [if_pos (by decide +kernel)]; kernel_rfl) | (rw [if_neg (by decide +kernel)]; exact ⟨rfl, rfl⟩))
    (fun os started H enc _ => lifted os started H enc)
theorem proved : Rows.ShareSameSaid := over
end Go.Proofs.Ytefdgfdahmaciaa.shareSame
namespace Go.Proofs.Ytefdgfdahmaciaa
/-- The row, under a short name, for the claim. -/
theorem shareSame_holds : Rows.ShareSameSaid := shareSame.proved
end Go.Proofs.Ytefdgfdahmaciaa
