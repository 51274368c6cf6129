/- The statement DeadBlind: what a program answers does not hang on inputs whose beginning is not asked: run on two lists of numbers that differ there alone, it answers the same, or fails on one of them; the law returns true whatever its arguments are. -/
import Derived.Test.YtefdgfdahmaciaaVE
import Derived.Test.YtefdgfdahmaciaaVG
import Derived.Test.YtefdgfdahmaciaaRows
import Derived.Test.YtefdgfdahmaciaaChecked
import Derived.Test.YtefdgfdahmaciaaAbLaw
import Derived.WalkKit
import Derived.ProofKit
import Derived.OpenShut
import Derived.ShutString
import Derived.ChangeOld
import Derived.SizedLaws
namespace Go.Proofs.Ytefdgfdahmaciaa.deadBlind
set_option linter.unusedVariables false
open Go.ChangeShapes Go.WideShapes Go.ChangeAt Go.RowKit Go.Ab
open Go.Proofs.Sw (aP bb Pg)
instance glob : Globals := noGlobals
theorem own : ownKnob Try.prog.godebug = none := by kernel_rfl
theorem mixed : Try.prog.follows .mixedOrders = true := by kernel_rfl
theorem laidOut : laidOutB Try.prog = true := by kernel_rfl
theorem walk (w : World) {v0 : Value} {q0 : Pg} {nl0 mnl0 : Bool} (h0 : VRel (Old w) [] [] w (aP q0 nl0 none mnl0 none) v0) {v1 : Value} {D1 : List Int} {nl1 : Bool} (h1 : VRel (Old w) [] [] w (Go.Proofs.Sw.sI D1 nl1 none) v1) (e2 : Int) (hn0 : nl0 = true → q0.code = []) (hm0 : mnl0 = true → q0.outs = []) (hs0 : q0.code.length * 40 ≤ Go.Ab.roomBytes) (ht0 : q0.outs.length * 8 ≤ Go.Ab.roomBytes) (hD1 : ∀ x ∈ D1, Go.Proofs.Sw.in64 x) (hN1 : nl1 = true → D1 = []) (he2 : Go.Proofs.Sw.in64 e2) :
    Calls Try.prog 12 #[v0, v1, .int .i64 e2] w fun e w' => e = .returned (.bool true) ∧ Below w.heap.size w w' := by
  obtain ⟨H, he, _⟩ := ans_strict (Go.Proofs.Sw.W.DeadBlind_ev (q0.outs.length + q0.code.length + D1.length + 80100) q0 nl0 none mnl0 none D1 nl1 none e2 (by omega) hn0 hm0 hs0 ht0 hD1 hN1 he2) rfl
  exact law_of_eval mixed he (.cons h0 (.cons h1 (.cons (.c (.int _ _)) .nil))) (fun g cells h => by cases h)
set_option maxRecDepth 100000 in
theorem lifted (os : Os) (started : os.Started) (H : Type) (enc : TypeId × Value → H) :
    ReturnsInHanded {} Try.checked os 12 .any (Rows.deadBlindSpec.pre6 enc Try.prog Try.f12 Rows.deadBlindRow.domain false) (Rows.deadBlindSpec.post enc Try.prog Try.f12 false true false false) := by
  refine returnsInHanded_of_change_sized (C := Try.checked) own started (by kernel_rfl) Try.func12
    (ChangeSpec.witness6 (enc := enc) (C := Try.checked) false ⟨#[], #[.agg #[.int .i64 0, .int .i64 0, .slice none 0 0, .slice none 0 0], .slice none 0 0, .int .i64 0], []⟩ 8 (by kernel_rfl) (by kernel_rfl) (by kernel_rfl) (by kernel_rfl)) ?_
  intro W base args ds gs before hval0 hW hcnd hZ _
  have hW' := hW
  obtain ⟨p, q, hA0, hV, rfl, hfz, hnd⟩ := hW
  have hA : DataW.TrodAll enc Try.prog W 0 (fun _ => true) true Try.f12.params.toList args.toList ds p := hA0
  rw [Try.params12] at hA
  obtain ⟨v0, v1, v2, d0, d1, d2, p0, p1, p2, rfl, rfl, rfl, h0, h1, h2⟩ := trodAll_three hA
  obtain ⟨rfl, rfl⟩ := trodVars_none hV
  have hval : ∀ (j : Nat) t v, Try.f12.params[j]? = some t → #[v0, v1, v2][j]? = some v → Value.okWide Try.prog W .any base t v := hval0
  have k0 := h0
  obtain ⟨pg0, nl0, mnl0, r0, hn0, hm0, hl0, hll0⟩ := Go.Proofs.Sw.open_pgV h0
  have hz0 : (d0.weights Try.prog 25).all (· ≤ reachBytes) = true := List.all_eq_true.2 fun n hn => List.all_eq_true.1 hZ n (DataW.weights_mem_each (j := 0) (by rw [Try.params12]; rfl) rfl n hn)
  obtain ⟨hs0, ht0⟩ := Go.Proofs.Sw.open_pgZ k0 r0 hz0
  have lt0 : ∀ x ∈ p0, x.block < W.heap.size := by obtain ⟨m, hm⟩ := k0; exact DataW.trod_lt m _ _ _ hm
  have k1 := h1
  obtain ⟨D1, nl1, r1, hD1, hL1, hN1⟩ := Go.Proofs.Sw.open_intsV (okWide_slice Try.underlying38 (hval 1 38 v1 (by rw [show Try.f12.params = #[25, 38, 2] from rfl]; rfl) rfl)) h1
  have lt1 : ∀ x ∈ p1, x.block < W.heap.size := by obtain ⟨m, hm⟩ := k1; exact DataW.trod_lt m _ _ _ hm
  obtain ⟨e2, rfl, rfl, rfl, we2⟩ := open_int Try.underlying2 (hval 2 2 v2 (by rw [show Try.f12.params = #[25, 38, 2] from rfl]; rfl) rfl) h2
  have he2 : Go.Proofs.Sw.in64 e2 := by
    have hz' := we2
    simp [Lit.wf, IntKind.min, IntKind.max, IntKind.bits, IntKind.signed] at hz'
    unfold Go.Proofs.Sw.in64
    omega
  refine (walk W r0 r1 e2 hn0 hm0 (Go.Proofs.Sw.reach_room hs0) (Go.Proofs.Sw.reach_room ht0) hD1 hN1 he2).mono fun e' W' ⟨he, bel⟩ => ?_
  subst he
  exact ⟨_, rfl, _, _, _, _, _, [], hW', trodAll_mk1 (shut_bool Try.underlying4 _), trodAll_mk3 (Below.trod laidOut (by kernel_rfl) (of_decide_eq_true (by kernel_rfl)) k0 bel lt0) (Below.trod laidOut (by kernel_rfl) (of_decide_eq_true (by kernel_rfl)) k1 bel lt1) (shut_int Try.underlying2 we2), rfl, bel.frame _, fun h => by cases h⟩
theorem over : Rows.deadBlindRow.holds Try.pinned (OpenSpec.ofChange Rows.deadBlindSpec) :=
  OpenClaim.holds_of_wide 12 Try.f12 rfl rfl rfl rfl rfl rfl rfl ⟨rfl, rfl, rfl, rfl, rfl⟩ rfl rfl rfl rfl rfl (by kernel_rfl) Try.func12 (by kernel_rfl)
    (of_decide_eq_true (by kernel_rfl)) (by unfold Func.isWrapper; first | (rw [if_pos (by decide +kernel)]; kernel_rfl) | (rw [if_neg (by decide +kernel)]; exact ⟨rfl, rfl⟩))
    (fun os started H enc _ => lifted os started H enc)
theorem proved : Rows.DeadBlindSaid := over
end Go.Proofs.Ytefdgfdahmaciaa.deadBlind
namespace Go.Proofs.Ytefdgfdahmaciaa
/-- The row, under a short name, for the claim. -/
theorem deadBlind_holds : Rows.DeadBlindSaid := deadBlind.proved
end Go.Proofs.Ytefdgfdahmaciaa
