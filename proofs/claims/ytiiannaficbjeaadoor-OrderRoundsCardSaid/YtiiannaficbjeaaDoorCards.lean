/-
  DERIVED. GIVEN WITH THE SEED: THE CARDS: each row of YtiiannaficbjeaaDoorRows.lean that lists a variable, with what it lists TIED to the program's text (the seventh form; the later family's looks); each row that meets fmt, with fmt's text TOLD by the authors' own Lean function (tested against real Go, not proved from fmt's source: count such statements apart). THE CARD IS WHAT COUNTS. Prove the row's statement (the work); the ties are given (YtiiannaficbjeaaDoorTie.lean); close each card by the builder's one call (the guide's Derived/Test/ToyasCard.lean, 'card_holds'). Laid BY PROGRAM, IN A SANDBOX (cutbox-door.mjs). By AI agents, Wed Nov 11 2026. No macro, syntax, notation, axiom, sorry.
-/
import Derived.Test.YtiiannaficbjeaaDoorRows
import GoSem.ClaimSeven
namespace Go.Proofs.YtiiannaficbjeaaDoor
namespace Rows

/-- THE TIED CARD OF 'swagelaw16.OrderRounds'. -/
def orderRoundsCard : Claim7 := { stood := { row := orderRoundsRow, standIns := [], harness := (true, "4bb479b105420e881ea41ec455bd8efb6141ca87663fc14b19d8f6772821cb35"), looks := false }, kinds := [], alts := [], laidByText := true, laidKinds := [.data, .data], laidTests := true, laidLooks := .later }
def OrderRoundsCardSaid : Prop := Claim7.holds Tryd.pinned (.plain (OpenSpec.ofChange orderRoundsSpec)) orderRoundsCard

/-- THE TIED CARD OF 'swagelaw13.FoldAnswers'. -/
def foldAnswersCard : Claim7 := { stood := { row := foldAnswersRow, standIns := [], harness := (true, "4bb479b105420e881ea41ec455bd8efb6141ca87663fc14b19d8f6772821cb35"), looks := false }, kinds := [], alts := [], laidByText := true, laidKinds := [.data, .data], laidTests := true, laidLooks := .later }
def FoldAnswersCardSaid : Prop := Claim7.holds Tryd.pinned (.plain (OpenSpec.ofChange foldAnswersSpec)) foldAnswersCard

/-- THE SECOND FORM's CARD OF 'swagelaw16.OrderRounds'. -/
def orderRoundsUptoCard : Claim7 := { stood := { row := orderRoundsUptoRow, standIns := [], harness := (true, "4bb479b105420e881ea41ec455bd8efb6141ca87663fc14b19d8f6772821cb35"), looks := false }, kinds := [], alts := [], laidByText := true, laidKinds := [.data, .data], laidTests := true, laidLooks := .later }
def OrderRoundsUptoCardSaid : Prop := Claim7.holds Tryd.pinned (.plain (OpenSpec.upto orderRoundsSpec)) orderRoundsUptoCard

/-- THE SECOND FORM's CARD OF 'swagelaw13.FoldAnswers'. -/
def foldAnswersUptoCard : Claim7 := { stood := { row := foldAnswersUptoRow, standIns := [], harness := (true, "4bb479b105420e881ea41ec455bd8efb6141ca87663fc14b19d8f6772821cb35"), looks := false }, kinds := [], alts := [], laidByText := true, laidKinds := [.data, .data], laidTests := true, laidLooks := .later }
def FoldAnswersUptoCardSaid : Prop := Claim7.holds Tryd.pinned (.plain (OpenSpec.upto foldAnswersSpec)) foldAnswersUptoCard
end Rows
end Go.Proofs.YtiiannaficbjeaaDoor
