/- The statement FoldAnswers: on whatever numbers the program that the pass over constants makes answers the same as the given one, or both fail; the law returns true whatever its arguments are, with math/bits' tables tied to the program's text. -/
import Derived.Test.YtiiannaficbjeaaDoorVE
import Derived.Test.YtiiannaficbjeaaDoorTie
import Derived.Test.YtiiannaficbjeaaDoorCards
import Derived.SevenTiedAt
import Derived.ShutString
import Derived.ChangeOld
import Derived.SizedLaws
namespace Go.Proofs.YtiiannaficbjeaaDoor.foldAnswers
set_option linter.unusedVariables false
open Go.ChangeShapes Go.WideShapes Go.ChangeAt Go.RowKit Go.Ab
open Go.Proofs.YtiiannaficbjeaaDoor.tab
open Go.Proofs.Sw (aP bb Pg)
theorem w25 : Tryd.prog.wantsStandIn 25 = false := by kernel_rfl
theorem w44 : Tryd.prog.wantsStandIn 44 = false := by kernel_rfl
theorem laidOut : laidOutB Tryd.prog = true := by kernel_rfl
theorem walk (w : World) (h : laidMetH Tryd.prog laid2 w) {v0 : Value} {q0 : Pg} {nl0 mnl0 : Bool} (h0 : VRel (Old w) [] [] w (aP q0 nl0 none mnl0 none) v0) {v1 : Value} {D1 : List Int} {nl1 : Bool} (h1 : VRel (Old w) [] [] w (Go.Proofs.Sw.sI D1 nl1 none) v1) (hn0 : nl0 = true → q0.code = []) (hm0 : mnl0 = true → q0.outs = []) (hs0 : q0.code.length * 40 ≤ Go.Ab.roomBytes) (ht0 : q0.outs.length * 8 ≤ Go.Ab.roomBytes) (hD1 : ∀ x ∈ D1, Go.Proofs.Sw.in64 x) (hN1 : nl1 = true → D1 = []) :
    Calls Tryd.prog 4 #[v0, v1] w fun e w' => e = .returned (.bool true) ∧ Below w.heap.size w w' := by
  obtain ⟨H, he, _⟩ := ans_strict (Go.Proofs.Sw.W.FoldAnswers_ev (q0.outs.length + q0.code.length + D1.length + 80100) q0 nl0 none mnl0 none D1 nl1 none (by omega) hn0 hm0 hs0 ht0 hD1 hN1) rfl
  exact law_of_eval mixed he (.cons h0 (.cons h1 .nil)) (tables_rel h)
set_option maxRecDepth 100000 in
theorem lifted (os : Os) (started : os.Started) (H : Type) (enc : TypeId × Value → H) :
    ReturnsInHanded {} Tryd.checked os 4 .any (fun w args => (Rows.foldAnswersSpec.pre enc Tryd.prog Tryd.f4 [] false w args ∧ laidMetH Tryd.prog laid2 w) ∧ sizedMet enc Tryd.prog Tryd.f4 (OpenSpec.ofChange Rows.foldAnswersSpec) false w args)
      (Rows.foldAnswersSpec.post enc Tryd.prog Tryd.f4 false true false false) := by
  refine returnsInHanded_of_change_and (C := Tryd.checked) (X := fun w _ => laidMetH Tryd.prog laid2 w) (fun _ _ _ hh h => h.of_heap hh) own started (by kernel_rfl) Tryd.func4
    (ChangeSpec.witness_shaped (enc := enc) (C := Tryd.checked) (os := os) (X := fun w _ => laidMetH Tryd.prog laid2 w) false (World.doorLaid Tryd.prog 4000 os)
      #[.agg #[.int .i64 0, .int .i64 0, .slice none 0 0, .slice none 0 0], .slice none 0 0] 8 rfl (World.shaped_of_RefB (by kernel_rfl) (by kernel_rfl)) (by kernel_rfl) (by kernel_rfl) (by kernel_rfl) (door_met os _)) ?_
  intro W base args ds gs before hval0 hW _ hZ hL _
  have hW' := hW
  obtain ⟨p, q, hA0, hV, rfl, hfz, hnd⟩ := hW
  have hA : DataW.TrodAll enc Tryd.prog W 0 (fun _ => true) true Tryd.f4.params.toList args.toList ds p := hA0
  rw [Tryd.params4] at hA
  obtain ⟨v0, v1, d0, d1, p0, p1, rfl, rfl, rfl, h0, h1⟩ := trodAll_two hA
  obtain ⟨rfl, rfl⟩ := trodVars_none hV
  have hval : ∀ (j : Nat) t v, Tryd.f4.params[j]? = some t → #[v0, v1][j]? = some v → Value.okWide Tryd.prog W .any base t v := hval0
  have k0 := h0
  obtain ⟨pg0, nl0, mnl0, r0, hn0, hm0, hl0, hll0⟩ := Go.Proofs.Sw.open_pgV h0
  have hz0 : (d0.weights Tryd.prog 25).all (· ≤ reachBytes) = true := List.all_eq_true.2 fun n hn => List.all_eq_true.1 hZ n (DataW.weights_mem_each (j := 0) (by rw [Tryd.params4]; rfl) rfl n hn)
  obtain ⟨hs0, ht0⟩ := Go.Proofs.Sw.open_pgZ k0 r0 hz0
  have lt0 : ∀ x ∈ p0, x.block < W.heap.size := by obtain ⟨m, hm⟩ := k0; exact DataW.trod_lt m _ _ _ hm
  have k1 := h1
  obtain ⟨D1, nl1, r1, hD1, hL1, hN1⟩ := Go.Proofs.Sw.open_intsV (okWide_slice Tryd.underlying44 (hval 1 44 v1 (by rw [show Tryd.f4.params = #[25, 44] from rfl]; rfl) rfl)) h1
  have lt1 : ∀ x ∈ p1, x.block < W.heap.size := by obtain ⟨m, hm⟩ := k1; exact DataW.trod_lt m _ _ _ hm
  refine (walk W hL r0 r1 hn0 hm0 (Go.Proofs.Sw.reach_room hs0) (Go.Proofs.Sw.reach_room ht0) hD1 hN1).mono fun e' W' ⟨he, bel⟩ => ?_
  subst he
  exact ⟨_, rfl, _, _, _, _, _, [], hW', trodAll_mk1 (shut_bool Tryd.underlying4 _), trodAll_mk2 (Below.trod laidOut (by kernel_rfl) (of_decide_eq_true (by kernel_rfl)) k0 bel lt0) (Below.trod laidOut (by kernel_rfl) (of_decide_eq_true (by kernel_rfl)) k1 bel lt1), rfl, bel.frame _, fun h => by cases h⟩
theorem over : Rows.FoldAnswersSaid :=
  OpenClaim.holds_of_wide 4 Tryd.f4 rfl rfl rfl rfl rfl rfl rfl ⟨rfl, rfl, rfl, rfl, rfl⟩ rfl rfl rfl rfl rfl (by kernel_rfl) Tryd.func4 (by kernel_rfl)
    (of_decide_eq_true (by kernel_rfl)) (by unfold Func.isWrapper; first | (rw [if_pos (by decide +kernel)]; kernel_rfl) | (rw [if_neg (by decide +kernel)]; exact ⟨rfl, rfl⟩))
    (fun os started H enc _ => lifted os started H enc)
theorem proved : Rows.FoldAnswersCardSaid :=
  Claim7.holds_tied_plain_at .later [] [.data, .data] true (true, "4bb479b105420e881ea41ec455bd8efb6141ca87663fc14b19d8f6772821cb35") false
    over (fun _ h => by cases h) (by kernel_rfl) (fun _ h => by cases h) foldAnswers_row_tie rfl ⟨rfl, rfl⟩ (by kernel_rfl) rfl
    (fun f fn hf hfn => by
      obtain rfl : f = 4 := Option.some.inj ((show Tryd.prog.funcNamed "swage/swagelaw13.FoldAnswers" = some 4 by kernel_rfl).symm.trans hf) |>.symm
      obtain rfl : fn = Tryd.f4 := (Option.some.inj (Tryd.func4.symm.trans hfn)).symm
      exact ⟨by kernel_rfl, fun j t ht => by
        rw [Tryd.params4] at ht
        match j, ht with
        | 0, ht => have e : t = 25 := by simpa using ht.symm
                   subst e; exact w25
        | 1, ht => have e : t = 44 := by simpa using ht.symm
                   subst e; exact w44⟩)
    (by kernel_rfl)
end Go.Proofs.YtiiannaficbjeaaDoor.foldAnswers
namespace Go.Proofs.YtiiannaficbjeaaDoor
/-- The card, under a short name, for the claim. -/
theorem foldAnswers_holds : Rows.FoldAnswersCardSaid := foldAnswers.proved
end Go.Proofs.YtiiannaficbjeaaDoor
