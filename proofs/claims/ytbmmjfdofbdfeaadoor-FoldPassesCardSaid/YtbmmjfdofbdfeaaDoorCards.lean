/-
  DERIVED. GIVEN WITH THE SEED: THE CARDS: each row of YtbmmjfdofbdfeaaDoorRows.lean that lists a variable, with what it lists TIED to the program's text (the seventh form; the later family's looks); each row that meets fmt, with fmt's text TOLD by the authors' own Lean function (tested against real Go, not proved from fmt's source: count such statements apart). THE CARD IS WHAT COUNTS. Prove the row's statement (the work); the ties are given (YtbmmjfdofbdfeaaDoorTie.lean); close each card by the builder's one call (the guide's Derived/Test/ToyasCard.lean, 'card_holds'). Laid BY PROGRAM, IN A SANDBOX (cutbox-door.mjs). By AI agents, Wed Nov 11 2026. No macro, syntax, notation, axiom, sorry.
-/
import Derived.Test.YtbmmjfdofbdfeaaDoorRows
import GoSem.ClaimSeven
namespace Go.Proofs.YtbmmjfdofbdfeaaDoor
namespace Rows

/-- THE TIED CARD OF 'swagelaw13.FoldPasses'. -/
def foldPassesCard : Claim7 := { stood := { row := foldPassesRow, standIns := [], harness := (true, "4b8e5e0519550b7fcfbef0c082249c73f73822ab298d5137a52af950ced00d86"), looks := false }, kinds := [], alts := [], laidByText := true, laidKinds := [.data, .data], laidTests := true, laidLooks := .later }
def FoldPassesCardSaid : Prop := Claim7.holds Tryd.pinned (.plain (OpenSpec.ofChange foldPassesSpec)) foldPassesCard

/-- THE TIED CARD OF 'swagelaw13.FoldKnown'. -/
def foldKnownCard : Claim7 := { stood := { row := foldKnownRow, standIns := [], harness := (true, "4b8e5e0519550b7fcfbef0c082249c73f73822ab298d5137a52af950ced00d86"), looks := false }, kinds := [], alts := [], laidByText := true, laidKinds := [.data, .data], laidTests := true, laidLooks := .later }
def FoldKnownCardSaid : Prop := Claim7.holds Tryd.pinned (.plain (OpenSpec.ofChange foldKnownSpec)) foldKnownCard

/-- THE TIED CARD OF 'swagelaw13.FoldPlains'. -/
def foldPlainsCard : Claim7 := { stood := { row := foldPlainsRow, standIns := [], harness := (true, "4b8e5e0519550b7fcfbef0c082249c73f73822ab298d5137a52af950ced00d86"), looks := false }, kinds := [], alts := [], laidByText := true, laidKinds := [.data, .data], laidTests := true, laidLooks := .later }
def FoldPlainsCardSaid : Prop := Claim7.holds Tryd.pinned (.plain (OpenSpec.ofChange foldPlainsSpec)) foldPlainsCard

/-- THE TIED CARD OF 'swagelaw13.FoldAgain'. -/
def foldAgainCard : Claim7 := { stood := { row := foldAgainRow, standIns := [], harness := (true, "4b8e5e0519550b7fcfbef0c082249c73f73822ab298d5137a52af950ced00d86"), looks := false }, kinds := [], alts := [], laidByText := true, laidKinds := [.data, .data], laidTests := true, laidLooks := .later }
def FoldAgainCardSaid : Prop := Claim7.holds Tryd.pinned (.plain (OpenSpec.ofChange foldAgainSpec)) foldAgainCard

/-- THE TIED CARD OF 'swagelaw13.FoldAnswers'. -/
def foldAnswersCard : Claim7 := { stood := { row := foldAnswersRow, standIns := [], harness := (true, "4b8e5e0519550b7fcfbef0c082249c73f73822ab298d5137a52af950ced00d86"), looks := false }, kinds := [], alts := [], laidByText := true, laidKinds := [.data, .data], laidTests := true, laidLooks := .later }
def FoldAnswersCardSaid : Prop := Claim7.holds Tryd.pinned (.plain (OpenSpec.ofChange foldAnswersSpec)) foldAnswersCard

/-- THE SECOND FORM's CARD OF 'swagelaw13.FoldPasses'. -/
def foldPassesUptoCard : Claim7 := { stood := { row := foldPassesUptoRow, standIns := [], harness := (true, "4b8e5e0519550b7fcfbef0c082249c73f73822ab298d5137a52af950ced00d86"), looks := false }, kinds := [], alts := [], laidByText := true, laidKinds := [.data, .data], laidTests := true, laidLooks := .later }
def FoldPassesUptoCardSaid : Prop := Claim7.holds Tryd.pinned (.plain (OpenSpec.upto foldPassesSpec)) foldPassesUptoCard

/-- THE SECOND FORM's CARD OF 'swagelaw13.FoldKnown'. -/
def foldKnownUptoCard : Claim7 := { stood := { row := foldKnownUptoRow, standIns := [], harness := (true, "4b8e5e0519550b7fcfbef0c082249c73f73822ab298d5137a52af950ced00d86"), looks := false }, kinds := [], alts := [], laidByText := true, laidKinds := [.data, .data], laidTests := true, laidLooks := .later }
def FoldKnownUptoCardSaid : Prop := Claim7.holds Tryd.pinned (.plain (OpenSpec.upto foldKnownSpec)) foldKnownUptoCard

/-- THE SECOND FORM's CARD OF 'swagelaw13.FoldPlains'. -/
def foldPlainsUptoCard : Claim7 := { stood := { row := foldPlainsUptoRow, standIns := [], harness := (true, "4b8e5e0519550b7fcfbef0c082249c73f73822ab298d5137a52af950ced00d86"), looks := false }, kinds := [], alts := [], laidByText := true, laidKinds := [.data, .data], laidTests := true, laidLooks := .later }
def FoldPlainsUptoCardSaid : Prop := Claim7.holds Tryd.pinned (.plain (OpenSpec.upto foldPlainsSpec)) foldPlainsUptoCard

/-- THE SECOND FORM's CARD OF 'swagelaw13.FoldAgain'. -/
def foldAgainUptoCard : Claim7 := { stood := { row := foldAgainUptoRow, standIns := [], harness := (true, "4b8e5e0519550b7fcfbef0c082249c73f73822ab298d5137a52af950ced00d86"), looks := false }, kinds := [], alts := [], laidByText := true, laidKinds := [.data, .data], laidTests := true, laidLooks := .later }
def FoldAgainUptoCardSaid : Prop := Claim7.holds Tryd.pinned (.plain (OpenSpec.upto foldAgainSpec)) foldAgainUptoCard

/-- THE SECOND FORM's CARD OF 'swagelaw13.FoldAnswers'. -/
def foldAnswersUptoCard : Claim7 := { stood := { row := foldAnswersUptoRow, standIns := [], harness := (true, "4b8e5e0519550b7fcfbef0c082249c73f73822ab298d5137a52af950ced00d86"), looks := false }, kinds := [], alts := [], laidByText := true, laidKinds := [.data, .data], laidTests := true, laidLooks := .later }
def FoldAnswersUptoCardSaid : Prop := Claim7.holds Tryd.pinned (.plain (OpenSpec.upto foldAnswersSpec)) foldAnswersUptoCard
end Rows
end Go.Proofs.YtbmmjfdofbdfeaaDoor
