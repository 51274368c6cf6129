/-
  No cell of these rows narrows 'for every input' (looked for: loops, veiled, ifaces, maps, wideKeys, modest, calm, conditions, laid).
  DERIVED. THE GIVEN ROWS OF THIS SEAT. 10 by the template 'for every input the law returns true; each argument reads behind the call as it read before'; 0 by the template 'total and deterministic' (their statements: YtefdgfdahmaciaaTotals.lean).
  GIVEN WITH THE SEED: the statements are not yours to turn. If you find one false, say at which input.
  Laid BY PROGRAM, IN A SANDBOX (cutbox-rows.mjs): the forced cells as the released guide's own fill.sh prints them over the translation 7f79a883d7b17cd9… (all of the seat's roots in one cut). By AI agents, Wed Nov 11 2026. No macro, syntax, notation, axiom, sorry.
-/
import Derived.Test.YtefdgfdahmaciaaChecked
import GoSem.Claim
import GoSem.ClaimJoined
import GoSem.ClaimMapViews
import Derived.JoinedTies
import Derived.KernelRfl
namespace Go.Proofs.Ytefdgfdahmaciaa
/- THE CELL 'sum', in the pinned program and in every row, IS THE sha256 OF THE DUMP (.gsa) THAT YtefdgfdahmaciaaProg.lean LOADS. Nothing in Lean hashes anything: it is a label: what it is worth is what the hold of that sum in a sandbox is worth. -/
noncomputable def Try.pinned : Pinned := { name := "ytefdgfdahmaciaa", sum := "7f79a883d7b17cd9d429e3eddd7dafddb6cfe43c1202b332e67be44206a1a81f", checked := Try.checked }
namespace Rows
def none {H : Type} : Left H := { results := [], args := [] }

/-- 'swagelaw14.SharePass': WHATEVER THE INPUT: true; the input reads as it did. -/
def sharePassSpec : ChangeSpec := { name := "sharePass", fn := fun _ => fun
  | [d] => { results := [.lit (.bool true)], args := [d] }
  | _ => none }
def sharePassRow : OpenClaim := { program := "ytefdgfdahmaciaa", sum := "7f79a883d7b17cd9d429e3eddd7dafddb6cfe43c1202b332e67be44206a1a81f", func := "swage/swagelaw14.SharePass", spec := "sharePass", plainKeys := false, apart := false }
def SharePassSaid : Prop := sharePassRow.holds Try.pinned (OpenSpec.ofChange sharePassSpec)

/-- ITS FALSE NEIGHBOUR: 'it returns false'. Refute it at one input. -/
def sharePassWrong : ChangeSpec := { name := "sharePass", fn := fun _ => fun
  | [d] => { results := [.lit (.bool false)], args := [d] }
  | _ => none }
def SharePassWrongFalsely : Prop := sharePassRow.holds Try.pinned (OpenSpec.ofChange sharePassWrong)

/-- 'swagelaw14.ShareExact': WHATEVER THE INPUT: true; the input reads as it did. -/
def shareExactSpec : ChangeSpec := { name := "shareExact", fn := fun _ => fun
  | [d1, d2] => { results := [.lit (.bool true)], args := [d1, d2] }
  | _ => none }
def shareExactRow : OpenClaim := { program := "ytefdgfdahmaciaa", sum := "7f79a883d7b17cd9d429e3eddd7dafddb6cfe43c1202b332e67be44206a1a81f", func := "swage/swagelaw14.ShareExact", spec := "shareExact", plainKeys := false, apart := false }
def ShareExactSaid : Prop := shareExactRow.holds Try.pinned (OpenSpec.ofChange shareExactSpec)

/-- ITS FALSE NEIGHBOUR: 'it returns false'. Refute it at one input. -/
def shareExactWrong : ChangeSpec := { name := "shareExact", fn := fun _ => fun
  | [d1, d2] => { results := [.lit (.bool false)], args := [d1, d2] }
  | _ => none }
def ShareExactWrongFalsely : Prop := shareExactRow.holds Try.pinned (OpenSpec.ofChange shareExactWrong)

/-- 'swagelaw14.ShareValues': WHATEVER THE INPUT: true; the input reads as it did. -/
def shareValuesSpec : ChangeSpec := { name := "shareValues", fn := fun _ => fun
  | [d1, d2] => { results := [.lit (.bool true)], args := [d1, d2] }
  | _ => none }
def shareValuesRow : OpenClaim := { program := "ytefdgfdahmaciaa", sum := "7f79a883d7b17cd9d429e3eddd7dafddb6cfe43c1202b332e67be44206a1a81f", func := "swage/swagelaw14.ShareValues", spec := "shareValues", unfollowed := true, recurses := true, plainKeys := false, apart := false }
def ShareValuesSaid : Prop := shareValuesRow.holds Try.pinned (OpenSpec.ofChange shareValuesSpec)

/-- ITS FALSE NEIGHBOUR: 'it returns false'. Refute it at one input. -/
def shareValuesWrong : ChangeSpec := { name := "shareValues", fn := fun _ => fun
  | [d1, d2] => { results := [.lit (.bool false)], args := [d1, d2] }
  | _ => none }
def ShareValuesWrongFalsely : Prop := shareValuesRow.holds Try.pinned (OpenSpec.ofChange shareValuesWrong)

/-- 'swagelaw15.DeadKnown': WHATEVER THE INPUT: true; the input reads as it did. -/
def deadKnownSpec : ChangeSpec := { name := "deadKnown", fn := fun _ => fun
  | [] => { results := [.lit (.bool true)], args := [] }
  | _ => none }
def deadKnownRow : OpenClaim := { program := "ytefdgfdahmaciaa", sum := "7f79a883d7b17cd9d429e3eddd7dafddb6cfe43c1202b332e67be44206a1a81f", func := "swage/swagelaw15.DeadKnown", spec := "deadKnown", unfollowed := true, recurses := true, plainKeys := false, apart := false }
def DeadKnownSaid : Prop := deadKnownRow.holds Try.pinned (OpenSpec.ofChange deadKnownSpec)

/-- ITS FALSE NEIGHBOUR: 'it returns false'. Refute it at one input. -/
def deadKnownWrong : ChangeSpec := { name := "deadKnown", fn := fun _ => fun
  | [] => { results := [.lit (.bool false)], args := [] }
  | _ => none }
def DeadKnownWrongFalsely : Prop := deadKnownRow.holds Try.pinned (OpenSpec.ofChange deadKnownWrong)

/-- 'swagelaw15.DeadPasses': WHATEVER THE INPUT: true; the input reads as it did. -/
def deadPassesSpec : ChangeSpec := { name := "deadPasses", fn := fun _ => fun
  | [d1, d2] => { results := [.lit (.bool true)], args := [d1, d2] }
  | _ => none }
def deadPassesRow : OpenClaim := { program := "ytefdgfdahmaciaa", sum := "7f79a883d7b17cd9d429e3eddd7dafddb6cfe43c1202b332e67be44206a1a81f", func := "swage/swagelaw15.DeadPasses", spec := "deadPasses", unfollowed := true, recurses := true, plainKeys := false, apart := false }
def DeadPassesSaid : Prop := deadPassesRow.holds Try.pinned (OpenSpec.ofChange deadPassesSpec)

/-- ITS FALSE NEIGHBOUR: 'it returns false'. Refute it at one input. -/
def deadPassesWrong : ChangeSpec := { name := "deadPasses", fn := fun _ => fun
  | [d1, d2] => { results := [.lit (.bool false)], args := [d1, d2] }
  | _ => none }
def DeadPassesWrongFalsely : Prop := deadPassesRow.holds Try.pinned (OpenSpec.ofChange deadPassesWrong)

/-- 'swagelaw16.OrderSame': WHATEVER THE INPUT: true; the input reads as it did. -/
def orderSameSpec : ChangeSpec := { name := "orderSame", fn := fun _ => fun
  | [d1, d2] => { results := [.lit (.bool true)], args := [d1, d2] }
  | _ => none }
def orderSameRow : OpenClaim := { program := "ytefdgfdahmaciaa", sum := "7f79a883d7b17cd9d429e3eddd7dafddb6cfe43c1202b332e67be44206a1a81f", func := "swage/swagelaw16.OrderSame", spec := "orderSame", unfollowed := true, recurses := true, plainKeys := false, apart := false }
def OrderSameSaid : Prop := orderSameRow.holds Try.pinned (OpenSpec.ofChange orderSameSpec)

/-- ITS FALSE NEIGHBOUR: 'it returns false'. Refute it at one input. -/
def orderSameWrong : ChangeSpec := { name := "orderSame", fn := fun _ => fun
  | [d1, d2] => { results := [.lit (.bool false)], args := [d1, d2] }
  | _ => none }
def OrderSameWrongFalsely : Prop := orderSameRow.holds Try.pinned (OpenSpec.ofChange orderSameWrong)

/-- 'swagelaw15.DeadAgain': WHATEVER THE INPUT: true; the input reads as it did. -/
def deadAgainSpec : ChangeSpec := { name := "deadAgain", fn := fun _ => fun
  | [d] => { results := [.lit (.bool true)], args := [d] }
  | _ => none }
def deadAgainRow : OpenClaim := { program := "ytefdgfdahmaciaa", sum := "7f79a883d7b17cd9d429e3eddd7dafddb6cfe43c1202b332e67be44206a1a81f", func := "swage/swagelaw15.DeadAgain", spec := "deadAgain", unfollowed := true, recurses := true, plainKeys := false, apart := false }
def DeadAgainSaid : Prop := deadAgainRow.holds Try.pinned (OpenSpec.ofChange deadAgainSpec)

/-- ITS FALSE NEIGHBOUR: 'it returns false'. Refute it at one input. -/
def deadAgainWrong : ChangeSpec := { name := "deadAgain", fn := fun _ => fun
  | [d] => { results := [.lit (.bool false)], args := [d] }
  | _ => none }
def DeadAgainWrongFalsely : Prop := deadAgainRow.holds Try.pinned (OpenSpec.ofChange deadAgainWrong)

/-- 'swagelaw16.OrderPacks': WHATEVER THE INPUT: true; the input reads as it did. -/
def orderPacksSpec : ChangeSpec := { name := "orderPacks", fn := fun _ => fun
  | [d] => { results := [.lit (.bool true)], args := [d] }
  | _ => none }
def orderPacksRow : OpenClaim := { program := "ytefdgfdahmaciaa", sum := "7f79a883d7b17cd9d429e3eddd7dafddb6cfe43c1202b332e67be44206a1a81f", func := "swage/swagelaw16.OrderPacks", spec := "orderPacks", unfollowed := true, recurses := true, plainKeys := false, apart := false }
def OrderPacksSaid : Prop := orderPacksRow.holds Try.pinned (OpenSpec.ofChange orderPacksSpec)

/-- ITS FALSE NEIGHBOUR: 'it returns false'. Refute it at one input. -/
def orderPacksWrong : ChangeSpec := { name := "orderPacks", fn := fun _ => fun
  | [d] => { results := [.lit (.bool false)], args := [d] }
  | _ => none }
def OrderPacksWrongFalsely : Prop := orderPacksRow.holds Try.pinned (OpenSpec.ofChange orderPacksWrong)

/-- 'swagelaw14.ShareSame': WHATEVER THE INPUT: true; the input reads as it did. -/
def shareSameSpec : ChangeSpec := { name := "shareSame", fn := fun _ => fun
  | [d1, d2] => { results := [.lit (.bool true)], args := [d1, d2] }
  | _ => none }
def shareSameRow : OpenClaim := { program := "ytefdgfdahmaciaa", sum := "7f79a883d7b17cd9d429e3eddd7dafddb6cfe43c1202b332e67be44206a1a81f", func := "swage/swagelaw14.ShareSame", spec := "shareSame", unfollowed := true, recurses := true, plainKeys := false, apart := false }
def ShareSameSaid : Prop := shareSameRow.holds Try.pinned (OpenSpec.ofChange shareSameSpec)

/-- ITS FALSE NEIGHBOUR: 'it returns false'. Refute it at one input. -/
def shareSameWrong : ChangeSpec := { name := "shareSame", fn := fun _ => fun
  | [d1, d2] => { results := [.lit (.bool false)], args := [d1, d2] }
  | _ => none }
def ShareSameWrongFalsely : Prop := shareSameRow.holds Try.pinned (OpenSpec.ofChange shareSameWrong)

/-- 'swagelaw15.DeadBlind': WHATEVER THE INPUT: true; the input reads as it did. -/
def deadBlindSpec : ChangeSpec := { name := "deadBlind", fn := fun _ => fun
  | [d1, d2, d3] => { results := [.lit (.bool true)], args := [d1, d2, d3] }
  | _ => none }
def deadBlindRow : OpenClaim := { program := "ytefdgfdahmaciaa", sum := "7f79a883d7b17cd9d429e3eddd7dafddb6cfe43c1202b332e67be44206a1a81f", func := "swage/swagelaw15.DeadBlind", spec := "deadBlind", unfollowed := true, recurses := true, plainKeys := false, apart := false }
def DeadBlindSaid : Prop := deadBlindRow.holds Try.pinned (OpenSpec.ofChange deadBlindSpec)

/-- ITS FALSE NEIGHBOUR: 'it returns false'. Refute it at one input. -/
def deadBlindWrong : ChangeSpec := { name := "deadBlind", fn := fun _ => fun
  | [d1, d2, d3] => { results := [.lit (.bool false)], args := [d1, d2, d3] }
  | _ => none }
def DeadBlindWrongFalsely : Prop := deadBlindRow.holds Try.pinned (OpenSpec.ofChange deadBlindWrong)

/- THE SECOND FORM. 'bulk': how many values and letters a reading holds, each counted each time it is reached (what is shared counts as often as it is met; a slice's spare places count too). A statement '..UptoSaid' is the law's where the arguments, and the package variables that the reading takes, are together of bulk at most 1048576: NARROWER than '..Said'. Prove '..Said' where nothing that the law and all that it calls make is longer than what came in: it says more and counts as full. Else prove '..UptoSaid'. A law counts once. -/
mutual
def uptoBulk {H : Type} : DataW H → Nat
  | .lit (.string bytes) => bytes.length + 1
  | .lit _ => 1
  | .nil => 1
  | .ptr d => uptoBulk d + 1
  | .slice elems spare => uptoBulkAll elems + uptoBulkAll spare + 1
  | .agg parts => uptoBulkAll parts + 1
  | .iface _ d => uptoBulk d + 1
  | .map entries => uptoBulkEntries entries + 1
  | .held _ => 1
def uptoBulkAll {H : Type} : List (DataW H) → Nat
  | [] => 0
  | d :: r => uptoBulk d + uptoBulkAll r
def uptoBulkEntries {H : Type} : List (Lit × DataW H) → Nat
  | [] => 0
  | x :: r => uptoBulkEntry x + uptoBulkEntries r
def uptoBulkEntry {H : Type} : Lit × DataW H → Nat
  | (.string bytes, d) => bytes.length + uptoBulk d + 1
  | (_, d) => uptoBulk d + 1
 end
def uptoSmall : (H : Type) → List (DataW H) → Bool := fun _ ds => decide (uptoBulkAll ds ≤ 1048576)
def OpenSpec.upto (s : _root_.Go.ChangeSpec) : _root_.Go.OpenSpec := { _root_.Go.OpenSpec.ofChange s with cond := some uptoSmall }

/-- 'swagelaw14.SharePass', WHERE WHAT IT READS IS OF BULK AT MOST 1048576: true; the input reads as it did. -/
def sharePassUptoRow : OpenClaim := { program := "ytefdgfdahmaciaa", sum := "7f79a883d7b17cd9d429e3eddd7dafddb6cfe43c1202b332e67be44206a1a81f", func := "swage/swagelaw14.SharePass", spec := "sharePass", plainKeys := false, apart := false, narrowed := true }
def SharePassUptoSaid : Prop := sharePassUptoRow.holds Try.pinned (OpenSpec.upto sharePassSpec)

/-- 'swagelaw14.ShareExact', WHERE WHAT IT READS IS OF BULK AT MOST 1048576: true; the input reads as it did. -/
def shareExactUptoRow : OpenClaim := { program := "ytefdgfdahmaciaa", sum := "7f79a883d7b17cd9d429e3eddd7dafddb6cfe43c1202b332e67be44206a1a81f", func := "swage/swagelaw14.ShareExact", spec := "shareExact", plainKeys := false, apart := false, narrowed := true }
def ShareExactUptoSaid : Prop := shareExactUptoRow.holds Try.pinned (OpenSpec.upto shareExactSpec)

/-- 'swagelaw14.ShareValues', WHERE WHAT IT READS IS OF BULK AT MOST 1048576: true; the input reads as it did. -/
def shareValuesUptoRow : OpenClaim := { program := "ytefdgfdahmaciaa", sum := "7f79a883d7b17cd9d429e3eddd7dafddb6cfe43c1202b332e67be44206a1a81f", func := "swage/swagelaw14.ShareValues", spec := "shareValues", unfollowed := true, recurses := true, plainKeys := false, apart := false, narrowed := true }
def ShareValuesUptoSaid : Prop := shareValuesUptoRow.holds Try.pinned (OpenSpec.upto shareValuesSpec)

/-- 'swagelaw15.DeadKnown', WHERE WHAT IT READS IS OF BULK AT MOST 1048576: true; the input reads as it did. -/
def deadKnownUptoRow : OpenClaim := { program := "ytefdgfdahmaciaa", sum := "7f79a883d7b17cd9d429e3eddd7dafddb6cfe43c1202b332e67be44206a1a81f", func := "swage/swagelaw15.DeadKnown", spec := "deadKnown", unfollowed := true, recurses := true, plainKeys := false, apart := false, narrowed := true }
def DeadKnownUptoSaid : Prop := deadKnownUptoRow.holds Try.pinned (OpenSpec.upto deadKnownSpec)

/-- 'swagelaw15.DeadPasses', WHERE WHAT IT READS IS OF BULK AT MOST 1048576: true; the input reads as it did. -/
def deadPassesUptoRow : OpenClaim := { program := "ytefdgfdahmaciaa", sum := "7f79a883d7b17cd9d429e3eddd7dafddb6cfe43c1202b332e67be44206a1a81f", func := "swage/swagelaw15.DeadPasses", spec := "deadPasses", unfollowed := true, recurses := true, plainKeys := false, apart := false, narrowed := true }
def DeadPassesUptoSaid : Prop := deadPassesUptoRow.holds Try.pinned (OpenSpec.upto deadPassesSpec)

/-- 'swagelaw16.OrderSame', WHERE WHAT IT READS IS OF BULK AT MOST 1048576: true; the input reads as it did. -/
def orderSameUptoRow : OpenClaim := { program := "ytefdgfdahmaciaa", sum := "7f79a883d7b17cd9d429e3eddd7dafddb6cfe43c1202b332e67be44206a1a81f", func := "swage/swagelaw16.OrderSame", spec := "orderSame", unfollowed := true, recurses := true, plainKeys := false, apart := false, narrowed := true }
def OrderSameUptoSaid : Prop := orderSameUptoRow.holds Try.pinned (OpenSpec.upto orderSameSpec)

/-- 'swagelaw15.DeadAgain', WHERE WHAT IT READS IS OF BULK AT MOST 1048576: true; the input reads as it did. -/
def deadAgainUptoRow : OpenClaim := { program := "ytefdgfdahmaciaa", sum := "7f79a883d7b17cd9d429e3eddd7dafddb6cfe43c1202b332e67be44206a1a81f", func := "swage/swagelaw15.DeadAgain", spec := "deadAgain", unfollowed := true, recurses := true, plainKeys := false, apart := false, narrowed := true }
def DeadAgainUptoSaid : Prop := deadAgainUptoRow.holds Try.pinned (OpenSpec.upto deadAgainSpec)

/-- 'swagelaw16.OrderPacks', WHERE WHAT IT READS IS OF BULK AT MOST 1048576: true; the input reads as it did. -/
def orderPacksUptoRow : OpenClaim := { program := "ytefdgfdahmaciaa", sum := "7f79a883d7b17cd9d429e3eddd7dafddb6cfe43c1202b332e67be44206a1a81f", func := "swage/swagelaw16.OrderPacks", spec := "orderPacks", unfollowed := true, recurses := true, plainKeys := false, apart := false, narrowed := true }
def OrderPacksUptoSaid : Prop := orderPacksUptoRow.holds Try.pinned (OpenSpec.upto orderPacksSpec)

/-- 'swagelaw14.ShareSame', WHERE WHAT IT READS IS OF BULK AT MOST 1048576: true; the input reads as it did. -/
def shareSameUptoRow : OpenClaim := { program := "ytefdgfdahmaciaa", sum := "7f79a883d7b17cd9d429e3eddd7dafddb6cfe43c1202b332e67be44206a1a81f", func := "swage/swagelaw14.ShareSame", spec := "shareSame", unfollowed := true, recurses := true, plainKeys := false, apart := false, narrowed := true }
def ShareSameUptoSaid : Prop := shareSameUptoRow.holds Try.pinned (OpenSpec.upto shareSameSpec)

/-- 'swagelaw15.DeadBlind', WHERE WHAT IT READS IS OF BULK AT MOST 1048576: true; the input reads as it did. -/
def deadBlindUptoRow : OpenClaim := { program := "ytefdgfdahmaciaa", sum := "7f79a883d7b17cd9d429e3eddd7dafddb6cfe43c1202b332e67be44206a1a81f", func := "swage/swagelaw15.DeadBlind", spec := "deadBlind", unfollowed := true, recurses := true, plainKeys := false, apart := false, narrowed := true }
def DeadBlindUptoSaid : Prop := deadBlindUptoRow.holds Try.pinned (OpenSpec.upto deadBlindSpec)

end Rows
end Go.Proofs.Ytefdgfdahmaciaa
