/- The statement OrderRounds: round by round what the passes make, each of what the one ahead made, each of which answers the same; All is the last one; left early; the law returns true whatever its arguments are, with math/bits' tables tied to the program's text. -/
import Derived.Test.YtiiannaficbjeaaDoorVM
import Derived.Test.YtiiannaficbjeaaDoorTie
import Derived.Test.YtiiannaficbjeaaDoorCards
import Derived.SevenTiedAt
import Derived.ShutString
import Derived.ChangeOld
import Derived.SizedLaws
namespace Go.Proofs.YtiiannaficbjeaaDoor.orderRounds
set_option linter.unusedVariables false
open Go.ChangeShapes Go.WideShapes Go.ChangeAt Go.RowKit Go.Ab
open Go.Proofs.YtiiannaficbjeaaDoor.tab
open Go.Proofs.Sw (aP bb Pg)
theorem w25 : Tryd.prog.wantsStandIn 25 = false := by kernel_rfl
theorem w26 : Tryd.prog.wantsStandIn 26 = false := by kernel_rfl
theorem w3 : Tryd.prog.wantsStandIn 3 = false := by kernel_rfl
theorem laidOut : laidOutB Tryd.prog = true := by kernel_rfl
theorem walk (w : World) (h : laidMetH Tryd.prog QyY w) {v0 : Value} {q0 : Pg} {nl0 mnl0 : Bool} (h0 : VRel (Old w) [] [] w (aP q0 nl0 none mnl0 none) v0) {v1 : Value} {D1 : List Go.Proofs.Sw.Gr} {nl1 : Bool} (h1 : VRel (Old w) [] [] w (Go.Proofs.Sw.sG D1 nl1 none) v1) (e2 : Int) (hn0 : nl0 = true → q0.code = []) (hm0 : mnl0 = true → q0.outs = []) (hs0 : q0.code.length * 40 ≤ Go.Ab.roomBytes) (ht0 : q0.outs.length * 8 ≤ Go.Ab.roomBytes) (hD1 : Go.Proofs.Sw.GrOk D1) (hL1 : D1.length ≤ 4611686018427387904) (hY1 : D1.length * 24 ≤ Go.Ab.roomBytes) :
    Calls Tryd.prog 3 #[v0, v1, .int .i64 e2] w fun e w' => e = .returned (.bool true) ∧ Below w.heap.size w w' := by
  obtain ⟨H, he, _⟩ := QnJ (Go.Proofs.Sw.OrderRounds_ev (q0.outs.length + q0.code.length + D1.length + 70100) q0 nl0 none mnl0 none D1 nl1 none e2 (by omega) hn0 hm0 hs0 ht0 hD1 hL1 hY1) rfl
  exact Qyk mixed he (.cons h0 (.cons h1 (.cons (.c (.int _ _)) .nil))) (Q5K h)
set_option maxRecDepth 100000 in
theorem lifted (os : Os) (started : os.Started) (H : Type) (enc : TypeId × Value → H) :
    ReturnsInHanded {} Tryd.checked os 3 .any (fun w args => (Rows.orderRoundsSpec.pre enc Tryd.prog Tryd.f3 [] false w args ∧ laidMetH Tryd.prog QyY w) ∧ sizedMet enc Tryd.prog Tryd.f3 (OpenSpec.ofChange Rows.orderRoundsSpec) false w args)
      (Rows.orderRoundsSpec.post enc Tryd.prog Tryd.f3 false true false false) := by
  refine returnsInHanded_of_change_and (C := Tryd.checked) (X := fun w _ => laidMetH Tryd.prog QyY w) (fun _ _ _ hh h => h.of_heap hh) own started (by kernel_rfl) Tryd.func3
    (ChangeSpec.witness_shaped (enc := enc) (C := Tryd.checked) (os := os) (X := fun w _ => laidMetH Tryd.prog QyY w) false (World.doorLaid Tryd.prog 4000 os)
      #[.agg #[.int .i64 0, .int .i64 0, .slice none 0 0, .slice none 0 0], .slice none 0 0, .int .i64 0] 8 rfl (World.shaped_of_RefB (by kernel_rfl) (by kernel_rfl)) (by kernel_rfl) (by kernel_rfl) (by kernel_rfl) (QAY os _)) ?_
  intro W base args ds gs before hval0 hW _ hZ hL _
  have hW' := hW
  obtain ⟨p, q, hA0, hV, rfl, hfz, hnd⟩ := hW
  have hA : DataW.TrodAll enc Tryd.prog W 0 (fun _ => true) true Tryd.f3.params.toList args.toList ds p := hA0
  rw [Tryd.params3] at hA
  obtain ⟨v0, v1, v2, d0, d1, d2, p0, p1, p2, rfl, rfl, rfl, h0, h1, h2⟩ := trodAll_three hA
  obtain ⟨rfl, rfl⟩ := trodVars_none hV
  have hval : ∀ (j : Nat) t v, Tryd.f3.params[j]? = some t → #[v0, v1, v2][j]? = some v → Value.okWide Tryd.prog W .any base t v := hval0
  have k0 := h0
  obtain ⟨pg0, nl0, mnl0, r0, hn0, hm0, hl0, hll0⟩ := Go.Proofs.Sw.open_pgV h0
  have hz0 : (d0.weights Tryd.prog 25).all (· ≤ reachBytes) = true := List.all_eq_true.2 fun n hn => List.all_eq_true.1 hZ n (DataW.weights_mem_each (j := 0) (by rw [Tryd.params3]; rfl) rfl n hn)
  obtain ⟨hs0, ht0⟩ := Go.Proofs.Sw.open_pgZ k0 r0 hz0
  have lt0 : ∀ x ∈ p0, x.block < W.heap.size := by obtain ⟨m, hm⟩ := k0; exact DataW.trod_lt m _ _ _ hm
  have k1 := h1
  have hsl1 := okWide_slice Tryd.underlying26 (hval 1 26 v1 (by rw [show Tryd.f3.params = #[25, 26, 3] from rfl]; rfl) rfl)
  obtain ⟨D1, nl1, r1, hD1, hDl1⟩ := Go.Proofs.Sw.open_gridV hsl1 h1
  have hy1 : (d1.weights Tryd.prog 26).all (· ≤ reachBytes) = true := List.all_eq_true.2 fun n hn => List.all_eq_true.1 hZ n (DataW.weights_mem_each (j := 1) (by rw [Tryd.params3]; rfl) rfl n hn)
  have hY1 := Go.Proofs.Sw.open_gridZ hsl1 k1 r1 hy1
  have lt1 : ∀ x ∈ p1, x.block < W.heap.size := by obtain ⟨m, hm⟩ := k1; exact DataW.trod_lt m _ _ _ hm
  obtain ⟨e2, rfl, rfl, rfl, we2⟩ := open_int Tryd.underlying3 (hval 2 3 v2 (by rw [show Tryd.f3.params = #[25, 26, 3] from rfl]; rfl) rfl) h2
  refine (walk W hL r0 r1 e2 hn0 hm0 (Go.Proofs.Sw.reach_room hs0) (Go.Proofs.Sw.reach_room ht0) hD1 (Nat.le_trans (show D1.length ≤ D1.length * 24 by omega) (Nat.le_trans hY1 (by decide))) (Go.Proofs.Sw.reach_room hY1)).mono fun e' W' ⟨he, bel⟩ => ?_
  subst he
  exact ⟨_, rfl, _, _, _, _, _, [], hW', trodAll_mk1 (shut_bool Tryd.underlying4 _), trodAll_mk3 (Below.trod laidOut (by kernel_rfl) (of_decide_eq_true (by kernel_rfl)) k0 bel lt0) (Below.trod laidOut (by kernel_rfl) (of_decide_eq_true (by kernel_rfl)) k1 bel lt1) (shut_int Tryd.underlying3 we2), rfl, bel.frame _, fun h => by cases h⟩
theorem over : Rows.OrderRoundsSaid :=
  OpenClaim.holds_of_wide 3 Tryd.f3 rfl rfl rfl rfl rfl rfl rfl ⟨rfl, rfl, rfl, rfl, rfl⟩ rfl rfl rfl rfl rfl (by kernel_rfl) Tryd.func3 (by kernel_rfl)
    (of_decide_eq_true (by kernel_rfl)) (by unfold Func.isWrapper; first | (rw [if_pos (by decide +kernel)]; kernel_rfl) | (rw [if_neg (by decide +kernel)]; exact ⟨rfl, rfl⟩))
    (fun os started H enc _ => lifted os started H enc)
theorem proved : Rows.OrderRoundsCardSaid :=
  Claim7.holds_tied_plain_at .later [] [.data, .data] true (true, "4bb479b105420e881ea41ec455bd8efb6141ca87663fc14b19d8f6772821cb35") false
    over (fun _ h => by cases h) (by kernel_rfl) (fun _ h => by cases h) orderRounds_row_tie rfl ⟨rfl, rfl⟩ (by kernel_rfl) rfl
    (fun f fn hf hfn => by
      obtain rfl : f = 3 := Option.some.inj ((show Tryd.prog.funcNamed "swage/swagelaw16.OrderRounds" = some 3 by kernel_rfl).symm.trans hf) |>.symm
      obtain rfl : fn = Tryd.f3 := (Option.some.inj (Tryd.func3.symm.trans hfn)).symm
      exact ⟨by kernel_rfl, fun j t ht => by
        rw [Tryd.params3] at ht
        match j, ht with
        | 0, ht => have e : t = 25 := by simpa using ht.symm
                   subst e; exact w25
        | 1, ht => have e : t = 26 := by simpa using ht.symm
                   subst e; exact w26
        | 2, ht => have e : t = 3 := by simpa using ht.symm
                   subst e; exact w3⟩)
    (by kernel_rfl)
end Go.Proofs.YtiiannaficbjeaaDoor.orderRounds
namespace Go.Proofs.YtiiannaficbjeaaDoor
/-- The card, under a short name, for the claim. -/
theorem orderRounds_holds : Rows.OrderRoundsCardSaid := orderRounds.proved
end Go.Proofs.YtiiannaficbjeaaDoor
