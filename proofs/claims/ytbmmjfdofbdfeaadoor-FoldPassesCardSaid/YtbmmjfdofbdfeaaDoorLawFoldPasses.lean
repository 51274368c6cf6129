/- The statement FoldPasses: what the pass makes of any program is what the document's pass makes; a program that is not right is refused; what it makes is its own; the law of chapter 13 returns true whatever the program is, with math/bits' table tied to the program's text. -/
import Derived.Test.YtbmmjfdofbdfeaaDoorF13M5
import Derived.Test.YtbmmjfdofbdfeaaDoorF13Size
import Derived.Test.YtbmmjfdofbdfeaaDoorTie
import Derived.Test.YtbmmjfdofbdfeaaDoorCards
import Derived.SevenTiedAt
import Derived.ShutString
import Derived.ChangeOld
import Derived.SizedLaws
namespace Go.Proofs.YtbmmjfdofbdfeaaDoor.foldPasses
set_option linter.unusedVariables false
open Go.ChangeShapes Go.WideShapes Go.ChangeAt Go.RowKit Go.Ab
open Go.Proofs.YtbmmjfdofbdfeaaDoor.tab
open Go.Proofs.F13 (aP bb run Pg)
theorem w25 : Tryd.prog.wantsStandIn 25 = false := by kernel_rfl
theorem laidOut : laidOutB Tryd.prog = true := by kernel_rfl
theorem walk (w : World) (h : laidMetH Tryd.prog laid2 w) {v0 : Value} {q : Pg} {nl nl2 : Bool} (h0 : VRel (Old w) [] [] w (aP q nl none nl2 none) v0) (hn : nl = true → q.code = []) (hn2 : nl2 = true → q.outs = []) (hs : q.code.length * 40 ≤ Go.Ab.roomBytes) (hs2 : q.outs.length * 8 ≤ Go.Ab.roomBytes) :
    Calls Tryd.prog 3 #[v0] w fun e w' => e = .returned (.bool true) ∧ Below w.heap.size w w' := by
  obtain ⟨H, he, _⟩ := ans_strict (Go.Proofs.F13.FoldPasses_ev (q.outs.length + q.code.length + 100) q nl none nl2 none (Nat.le_refl _) hn2 hs hs2) rfl
  exact law_of_eval mixed he (.cons h0 .nil) (tables_rel h)
set_option maxRecDepth 100000 in
theorem lifted (os : Os) (started : os.Started) (H : Type) (enc : TypeId × Value → H) :
    ReturnsInHanded {} Tryd.checked os 3 .any (fun w args => (Rows.foldPassesSpec.pre enc Tryd.prog Tryd.f3 [] false w args ∧ laidMetH Tryd.prog laid2 w) ∧ sizedMet enc Tryd.prog Tryd.f3 (OpenSpec.ofChange Rows.foldPassesSpec) false w args)
      (Rows.foldPassesSpec.post enc Tryd.prog Tryd.f3 false true false false) := by
  refine returnsInHanded_of_change_and (C := Tryd.checked) (X := fun w _ => laidMetH Tryd.prog laid2 w) (fun _ _ _ hh h => h.of_heap hh) own started (by kernel_rfl) Tryd.func3
    (ChangeSpec.witness_shaped (enc := enc) (C := Tryd.checked) (os := os) (X := fun w _ => laidMetH Tryd.prog laid2 w) false (World.doorLaid Tryd.prog 4000 os)
      #[.agg #[.int .i64 0, .int .i64 0, .slice none 0 0, .slice none 0 0]] 8 rfl (World.shaped_of_RefB (by kernel_rfl) (by kernel_rfl)) (by kernel_rfl) (by kernel_rfl) (by kernel_rfl) (door_met os _)) ?_
  intro W base args ds gs before hval0 hW _ hZ hL _
  have hW' := hW
  obtain ⟨p, q, hA0, hV, rfl, hfz, hnd⟩ := hW
  have hA : DataW.TrodAll enc Tryd.prog W 0 (fun _ => true) true Tryd.f3.params.toList args.toList ds p := hA0
  rw [Tryd.params3] at hA
  obtain ⟨v0, d0, rfl, rfl, h0⟩ := trodAll_one hA
  obtain ⟨rfl, rfl⟩ := trodVars_none hV
  have k0 := h0
  have lt0 : ∀ x ∈ p, x.block < W.heap.size := by obtain ⟨m, hm⟩ := k0; exact DataW.trod_lt m _ _ _ hm
  obtain ⟨pg, nl, nl2, r0, hn, hn2, hl, hl2⟩ := Go.Proofs.F13.open_pgV h0
  have hz : (d0.weights Tryd.prog 25).all (· ≤ reachBytes) = true := List.all_eq_true.2 fun n hn => List.all_eq_true.1 hZ n (DataW.weights_mem_each (j := 0) (by rw [Tryd.params3]; rfl) rfl n hn)
  obtain ⟨hs, hs2⟩ := Go.Proofs.F13.open_pgZ k0 r0 hz
  refine (walk W hL r0 hn hn2 (Go.Proofs.F13.reach_room hs) (Go.Proofs.F13.reach_room hs2)).mono fun e W' ⟨he, bel⟩ => ?_
  subst he
  exact ⟨_, rfl, _, _, _, _, _, [], hW', trodAll_mk1 (shut_bool Tryd.underlying4 _), trodAll_mk1 (Below.trod laidOut (by kernel_rfl) (of_decide_eq_true (by kernel_rfl)) k0 bel lt0), rfl, bel.frame _, fun h => by cases h⟩
theorem over : Rows.FoldPassesSaid :=
  OpenClaim.holds_of_wide 3 Tryd.f3 rfl rfl rfl rfl rfl rfl rfl ⟨rfl, rfl, rfl, rfl, rfl⟩ rfl rfl rfl rfl rfl (by kernel_rfl) Tryd.func3 (by kernel_rfl)
    (of_decide_eq_true (by kernel_rfl)) (by unfold Func.isWrapper; first | (rw [if_pos (by decide +kernel)]; kernel_rfl) | (rw [if_neg (by decide +kernel)]; exact ⟨rfl, rfl⟩))
    (fun os started H enc _ => lifted os started H enc)
theorem proved : Rows.FoldPassesCardSaid :=
  Claim7.holds_tied_plain_at .later [] [.data, .data] true (true, "4b8e5e0519550b7fcfbef0c082249c73f73822ab298d5137a52af950ced00d86") false
    over (fun _ h => by cases h) (by kernel_rfl) (fun _ h => by cases h) foldPasses_row_tie rfl ⟨rfl, rfl⟩ (by kernel_rfl) rfl
    (fun f fn hf hfn => by
      obtain rfl : f = 3 := Option.some.inj ((show Tryd.prog.funcNamed "swage/swagelaw13.FoldPasses" = some 3 by kernel_rfl).symm.trans hf) |>.symm
      obtain rfl : fn = Tryd.f3 := (Option.some.inj (Tryd.func3.symm.trans hfn)).symm
      exact ⟨by kernel_rfl, fun j t ht => by
        rw [Tryd.params3] at ht
        have e : t = 25 := by
          match j, ht with
          | 0, ht => simpa using ht.symm
        subst e
        exact w25⟩)
    (by kernel_rfl)
end Go.Proofs.YtbmmjfdofbdfeaaDoor.foldPasses
namespace Go.Proofs.YtbmmjfdofbdfeaaDoor
/-- The card, under a short name, for the claim. -/
theorem foldPasses_holds : Rows.FoldPassesCardSaid := foldPasses.proved
end Go.Proofs.YtbmmjfdofbdfeaaDoor
