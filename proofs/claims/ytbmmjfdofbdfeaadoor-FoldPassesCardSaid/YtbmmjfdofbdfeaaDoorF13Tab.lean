/- What the listed table of math/bits gives: its 64 cells. -/
import Derived.Test.YtbmmjfdofbdfeaaDoorRows
import Derived.Test.YtbmmjfdofbdfeaaDoorChecked
import Derived.Test.YtbmmjfdofbdfeaaDoorAbLaw
import Derived.ProofKit
import Derived.LaidMore
import Derived.OpenShut
import Derived.Stop.Joined
import Derived.WalkKit
namespace Go.Proofs.YtbmmjfdofbdfeaaDoor.tab
open Go.ChangeShapes Go.WideShapes Go.ChangeAt Go.RowKit Go.Ab

def tab64 : List Int := [0, 1, 56, 2, 57, 49, 28, 3, 61, 58, 42, 50, 38, 29, 17, 4, 62, 47, 59, 36, 45, 43, 51, 22, 53, 39, 33, 30, 24, 18, 12, 5, 63, 55, 48, 27, 60, 41, 37, 16, 46, 35, 44, 21, 52, 32, 23, 11, 54, 26, 40, 15, 34, 20, 31, 10, 25, 14, 19, 9, 13, 8, 7, 6]
instance tables : Globals := ⟨fun g => if g = 1 then some (tab64.map (IV.int .u8)) else none⟩

def laid2 : List (String × DataW Unit) := [("math/bits.deBruijn32tab", Rows.laid_math_bits_deBruijn32tab), ("math/bits.deBruijn64tab", Rows.laid_math_bits_deBruijn64tab)]
theorem g32 : Tryd.prog.globalNamed "math/bits.deBruijn32tab" = some 0 := by kernel_rfl
theorem g64 : Tryd.prog.globalNamed "math/bits.deBruijn64tab" = some 1 := by kernel_rfl

/-- An array of numbers of one kind, opened. -/
theorem trod_nums {H : Type} {enc : TypeId × Value → H} {P : Program} {w : World} {base : Nat} {spare : Nat → Bool} {held : Bool} {fuel : Nat} {t e : TypeId} {n : Nat} {k : IntKind} {cs : List Value} {ns : List Int} {ps : List MemPlace}
    (ht : P.underlying t = some (.array n e)) (he : P.underlying e = some (.int k)) (hc : P.cellsOf e = 1)
    (h : DataW.trod enc P w base spare held fuel t cs = some (.agg (ns.map fun z => .lit (.int k z)), ps)) : ∀ i, i < n → cs[i]? = (ns[i]?).map (Value.int k) := by
  obtain ⟨xs, m, _, hx, _, hn, hel⟩ := DataW.trod_array ht h
  simp only [Prod.mk.injEq, DataW.agg.injEq] at hx
  intro i hi
  have h1 := hel i hi
  rw [hc, Nat.mul_one] at h1
  have hxi : xs[i]? = some (xs[i]'(by omega)) := List.getElem?_eq_getElem _
  rw [hxi] at h1
  obtain ⟨z, e1, e2, _⟩ := DataW.trod_int he h1
  have h2 : (xs.map (·.1))[i]? = (ns.map fun z => DataW.lit (H := H) (.int k z))[i]? := by rw [← hx.1]
  rw [List.getElem?_map, List.getElem?_map, hxi, e2] at h2
  have hcs : cs[i]? = some (.int k z) := by
    have := congrArg (fun l => l[0]?) e1
    simpa [List.getElem?_take, List.getElem?_drop] using this
  rw [hcs]
  cases hns : ns[i]? with
  | none => rw [hns] at h2; simp at h2
  | some z' =>
    rw [hns] at h2
    simp at h2
    rw [h2]
    rfl

/-- WHAT THE CONDITION GIVES. -/
theorem of_laid {W : World} (h : laidMetH Tryd.prog laid2 W) : ∀ (i : Nat), i < 64 → W.cell? ⟨1, i, none⟩ = (tab64[i]?).map (Value.int .u8) := by
  rw [MakeChecks.laidMetH_plain _ _ _ (by kernel_rfl)] at h
  obtain ⟨ps, ⟨g0, t0, cs0, f0, p0, q0, hg0, ht0, hv0, hd0, ⟨g1, t1, cs1, f1, p1, q1, hg1, ht1, hv1, hd1, _, _⟩, _⟩, _, _⟩ := h
  obtain rfl := Option.some.inj (g64.symm.trans hg1)
  have ht : t1 = 116 := Option.some.inj (ht1.symm.trans (by kernel_rfl))
  subst ht
  intro i hi
  rw [World.var?_cell hg1 hv1 i]
  have := trod_nums (n := 64) (k := .u8) (ns := tab64) (by kernel_rfl) (e := 5) (by kernel_rfl) (by kernel_rfl) hd1 i hi
  rw [← this]
  simp

theorem tables_rel {W : World} (h : laidMetH Tryd.prog laid2 W) : ∀ (g : Nat) (cells : List IV), Globals.gl g = some cells → IRel (fun b => b < W.heap.size) W (.iptr cells 0) (.pointer (some ⟨g, 0, none⟩)) := by
  intro g cells hg
  have hg' : (if g = 1 then some (tab64.map (IV.int .u8)) else none) = some cells := hg
  split at hg'
  · rename_i e
    subst e
    injection hg' with hg'
    subst hg'
    have hcell : ∀ j, j < 64 → W.cell? ⟨1, j, none⟩ = some (.int .u8 (tab64.getD j 0)) := by
      intro j hj
      rw [of_laid h j hj, List.getD_eq_getElem?_getD, List.getElem?_eq_getElem (show j < tab64.length from hj)]
      rfl
    have hb : 1 < W.heap.size := by
      have h0 := hcell 0 (by decide)
      rcases Nat.lt_or_ge 1 W.heap.size with hlt | hge
      · exact hlt
      · simp [World.cell?, Array.getElem?_eq_none hge] at h0
    have := IRel.iptr (S := fun b => b < W.heap.size) (w := W) (cells := tab64.map (IV.int .u8)) (off := 0) ⟨1, 0, none⟩ (fun j => .int .u8 (tab64.getD j 0))
      (fun j hj => ⟨hb, by rw [lit_add]; exact hcell j (by simpa [tab64] using hj)⟩)
      (fun j x hj => by
        rw [List.getElem?_map] at hj
        obtain ⟨z, hz, rfl⟩ := Option.map_eq_some_iff.1 hj
        rw [List.getD_eq_getElem?_getD, hz]
        exact .int _ _)
    rwa [lit_add] at this
  · cases hg'

theorem door_met (os : Os) (args : Array Value) : laidMetH Tryd.prog laid2 ((World.doorLaid Tryd.prog 4000 os).forCall (fun _ _ => 0) ⟨#[], args, []⟩).memory :=
  laidMetH_of_parts3 (fuel := 8) (laidMet_of_run' 8 (by kernel_rfl) (by kernel_rfl)) (by kernel_rfl) (by kernel_rfl)
theorem own : ownKnob Tryd.prog.godebug = none := by kernel_rfl
theorem mixed : Tryd.prog.follows .mixedOrders = true := by kernel_rfl

end Go.Proofs.YtbmmjfdofbdfeaaDoor.tab
