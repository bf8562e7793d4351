/-
  DERIVED. GIVEN WITH THE SEED: THE CARDS: each row of YtmoohjomkdcdhaaDoorRows.lean that lists a variable, with what it lists TIED to the program's text (the seventh form; the later family's looks); each row that meets fmt, with fmt's text TOLD by the authors' own Lean function (tested against real Go, not proved from fmt's source: count such statements apart). THE CARD IS WHAT COUNTS. Prove the row's statement (the work); the ties are given (YtmoohjomkdcdhaaDoorTie.lean); close each card by the builder's one call (the guide's Derived/Test/ToyasCard.lean, 'card_holds'). Laid BY PROGRAM, IN A SANDBOX (cutbox-door.mjs). By AI agents, Wed Nov 11 2026. No macro, syntax, notation, axiom, sorry.
-/
import Derived.Test.YtmoohjomkdcdhaaDoorRows
import GoSem.ClaimSeven
namespace Go.Proofs.YtmoohjomkdcdhaaDoor
namespace Rows

/-- THE TIED CARD OF 'cadastrelaw03.NumParses'. -/
def numParsesCard : Claim7 := { stood := { row := numParsesRow, standIns := [], harness := (true, "c61bf5cd17344c30dc6971779a3caa76b43155a0bb7aa196a627089859e5bc05"), looks := false }, kinds := [], alts := [], laidByText := true, laidKinds := [.data, .data, .data, .data, .pinned], laidTests := true, laidLooks := .later }
def NumParsesCardSaid : Prop := Claim7.holds Tryd.pinned (.plain (OpenSpec.ofChange numParsesSpec)) numParsesCard

/-- THE TIED CARD OF 'cadastrelaw03.NumPrints'. -/
def numPrintsCard : Claim7 := { stood := { row := numPrintsRow, standIns := [], harness := (true, "c61bf5cd17344c30dc6971779a3caa76b43155a0bb7aa196a627089859e5bc05"), looks := false }, kinds := [], alts := [], laidByText := true, laidKinds := [.data, .data, .data, .data, .pinned], laidTests := true, laidLooks := .later }
def NumPrintsCardSaid : Prop := Claim7.holds Tryd.pinned (.plain (OpenSpec.ofChange numPrintsSpec)) numPrintsCard

/-- THE TIED CARD OF 'cadastrelaw03.NumDigits'. -/
def numDigitsCard : Claim7 := { stood := { row := numDigitsRow, standIns := [], harness := (true, "c61bf5cd17344c30dc6971779a3caa76b43155a0bb7aa196a627089859e5bc05"), looks := false }, kinds := [], alts := [], laidByText := true, laidKinds := [.data, .data, .data, .data, .pinned], laidTests := true, laidLooks := .later }
def NumDigitsCardSaid : Prop := Claim7.holds Tryd.pinned (.plain (OpenSpec.ofChange numDigitsSpec)) numDigitsCard

/-- THE TIED CARD OF 'cadastrelaw03.NumNoughts'. -/
def numNoughtsCard : Claim7 := { stood := { row := numNoughtsRow, standIns := [], harness := (true, "c61bf5cd17344c30dc6971779a3caa76b43155a0bb7aa196a627089859e5bc05"), looks := false }, kinds := [], alts := [], laidByText := true, laidKinds := [.data, .data, .data, .data, .pinned], laidTests := true, laidLooks := .later }
def NumNoughtsCardSaid : Prop := Claim7.holds Tryd.pinned (.plain (OpenSpec.ofChange numNoughtsSpec)) numNoughtsCard

/-- THE TIED CARD OF 'cadastrelaw03.NumShort'. -/
def numShortCard : Claim7 := { stood := { row := numShortRow, standIns := [], harness := (true, "c61bf5cd17344c30dc6971779a3caa76b43155a0bb7aa196a627089859e5bc05"), looks := false }, kinds := [], alts := [], laidByText := true, laidKinds := [.data, .data, .data, .data, .pinned], laidTests := true, laidLooks := .later }
def NumShortCardSaid : Prop := Claim7.holds Tryd.pinned (.plain (OpenSpec.ofChange numShortSpec)) numShortCard

/-- THE TIED CARD OF 'cadastrelaw03.NumLong'. -/
def numLongCard : Claim7 := { stood := { row := numLongRow, standIns := [], harness := (true, "c61bf5cd17344c30dc6971779a3caa76b43155a0bb7aa196a627089859e5bc05"), looks := false }, kinds := [], alts := [], laidByText := true, laidKinds := [.data, .data, .data, .data, .pinned], laidTests := true, laidLooks := .later }
def NumLongCardSaid : Prop := Claim7.holds Tryd.pinned (.plain (OpenSpec.ofChange numLongSpec)) numLongCard

/-- THE SECOND FORM's CARD OF 'cadastrelaw03.NumParses'. -/
def numParsesUptoCard : Claim7 := { stood := { row := numParsesUptoRow, standIns := [], harness := (true, "c61bf5cd17344c30dc6971779a3caa76b43155a0bb7aa196a627089859e5bc05"), looks := false }, kinds := [], alts := [], laidByText := true, laidKinds := [.data, .data, .data, .data, .pinned], laidTests := true, laidLooks := .later }
def NumParsesUptoCardSaid : Prop := Claim7.holds Tryd.pinned (.plain (OpenSpec.upto numParsesSpec)) numParsesUptoCard

/-- THE SECOND FORM's CARD OF 'cadastrelaw03.NumPrints'. -/
def numPrintsUptoCard : Claim7 := { stood := { row := numPrintsUptoRow, standIns := [], harness := (true, "c61bf5cd17344c30dc6971779a3caa76b43155a0bb7aa196a627089859e5bc05"), looks := false }, kinds := [], alts := [], laidByText := true, laidKinds := [.data, .data, .data, .data, .pinned], laidTests := true, laidLooks := .later }
def NumPrintsUptoCardSaid : Prop := Claim7.holds Tryd.pinned (.plain (OpenSpec.upto numPrintsSpec)) numPrintsUptoCard

/-- THE SECOND FORM's CARD OF 'cadastrelaw03.NumDigits'. -/
def numDigitsUptoCard : Claim7 := { stood := { row := numDigitsUptoRow, standIns := [], harness := (true, "c61bf5cd17344c30dc6971779a3caa76b43155a0bb7aa196a627089859e5bc05"), looks := false }, kinds := [], alts := [], laidByText := true, laidKinds := [.data, .data, .data, .data, .pinned], laidTests := true, laidLooks := .later }
def NumDigitsUptoCardSaid : Prop := Claim7.holds Tryd.pinned (.plain (OpenSpec.upto numDigitsSpec)) numDigitsUptoCard

/-- THE SECOND FORM's CARD OF 'cadastrelaw03.NumNoughts'. -/
def numNoughtsUptoCard : Claim7 := { stood := { row := numNoughtsUptoRow, standIns := [], harness := (true, "c61bf5cd17344c30dc6971779a3caa76b43155a0bb7aa196a627089859e5bc05"), looks := false }, kinds := [], alts := [], laidByText := true, laidKinds := [.data, .data, .data, .data, .pinned], laidTests := true, laidLooks := .later }
def NumNoughtsUptoCardSaid : Prop := Claim7.holds Tryd.pinned (.plain (OpenSpec.upto numNoughtsSpec)) numNoughtsUptoCard

/-- THE SECOND FORM's CARD OF 'cadastrelaw03.NumShort'. -/
def numShortUptoCard : Claim7 := { stood := { row := numShortUptoRow, standIns := [], harness := (true, "c61bf5cd17344c30dc6971779a3caa76b43155a0bb7aa196a627089859e5bc05"), looks := false }, kinds := [], alts := [], laidByText := true, laidKinds := [.data, .data, .data, .data, .pinned], laidTests := true, laidLooks := .later }
def NumShortUptoCardSaid : Prop := Claim7.holds Tryd.pinned (.plain (OpenSpec.upto numShortSpec)) numShortUptoCard

/-- THE SECOND FORM's CARD OF 'cadastrelaw03.NumLong'. -/
def numLongUptoCard : Claim7 := { stood := { row := numLongUptoRow, standIns := [], harness := (true, "c61bf5cd17344c30dc6971779a3caa76b43155a0bb7aa196a627089859e5bc05"), looks := false }, kinds := [], alts := [], laidByText := true, laidKinds := [.data, .data, .data, .data, .pinned], laidTests := true, laidLooks := .later }
def NumLongUptoCardSaid : Prop := Claim7.holds Tryd.pinned (.plain (OpenSpec.upto numLongSpec)) numLongUptoCard
end Rows
end Go.Proofs.YtmoohjomkdcdhaaDoor
