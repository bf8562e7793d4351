/-
  DERIVED. GIVEN WITH THE SEED: THE CARDS: each row of YtaldfmbnfnagjaaDoorRows.lean that lists a variable, with what it lists TIED to the program's text (the seventh form; the later family's looks); each row that meets fmt, with fmt's text TOLD by the authors' own Lean function (tested against real Go, not proved from fmt's source: count such statements apart). THE CARD IS WHAT COUNTS. Prove the row's statement (the work); the ties are given (YtaldfmbnfnagjaaDoorTie.lean); close each card by the builder's one call (the guide's Derived/Test/ToyasCard.lean, 'card_holds'). Laid BY PROGRAM, IN A SANDBOX (cutbox-door.mjs). By AI agents, Wed Nov 11 2026. No macro, syntax, notation, axiom, sorry.
-/
import Derived.Test.YtaldfmbnfnagjaaDoorRows
import GoSem.ClaimSeven
namespace Go.Proofs.YtaldfmbnfnagjaaDoor
namespace Rows

/-- THE TIED CARD OF 'cadastrelaw19.ColumnOf'. -/
def columnOfCard : Claim7 := { stood := { row := columnOfRow, standIns := [], harness := (true, "beef5805a216456b57237f00ca10f178fb7c5698fcc37807c1b3f6c55c5e17fa"), looks := false }, kinds := [], alts := [], laidByText := true, laidKinds := [.data, .widerDeep, .pinned], laidTests := true, laidLooks := .later }
def ColumnOfCardSaid : Prop := Claim7.holds Tryd.pinned (.plain (OpenSpec.ofChange columnOfSpec)) columnOfCard

/-- THE TIED CARD OF 'cadastrelaw19.ColumnCan'. -/
def columnCanCard : Claim7 := { stood := { row := columnCanRow, standIns := [], harness := (true, "beef5805a216456b57237f00ca10f178fb7c5698fcc37807c1b3f6c55c5e17fa"), looks := false }, kinds := [], alts := [], laidByText := true, laidKinds := [.data, .widerDeep, .pinned], laidTests := true, laidLooks := .later }
def ColumnCanCardSaid : Prop := Claim7.holds Tryd.pinned (.plain (OpenSpec.ofChange columnCanSpec)) columnCanCard

/-- THE TIED CARD OF 'cadastrelaw19.ColumnJoins'. -/
def columnJoinsCard : Claim7 := { stood := { row := columnJoinsRow, standIns := [], harness := (true, "beef5805a216456b57237f00ca10f178fb7c5698fcc37807c1b3f6c55c5e17fa"), looks := false }, kinds := [], alts := [], laidByText := true, laidKinds := [.data, .widerDeep, .pinned], laidTests := true, laidLooks := .later }
def ColumnJoinsCardSaid : Prop := Claim7.holds Tryd.pinned (.plain (OpenSpec.ofChange columnJoinsSpec)) columnJoinsCard

/-- THE TIED CARD OF 'cadastrelaw19.ColumnCuts'. -/
def columnCutsCard : Claim7 := { stood := { row := columnCutsRow, standIns := [], harness := (true, "beef5805a216456b57237f00ca10f178fb7c5698fcc37807c1b3f6c55c5e17fa"), looks := false }, kinds := [], alts := [], laidByText := true, laidKinds := [.data, .widerDeep, .pinned], laidTests := true, laidLooks := .later }
def ColumnCutsCardSaid : Prop := Claim7.holds Tryd.pinned (.plain (OpenSpec.ofChange columnCutsSpec)) columnCutsCard

/-- THE SECOND FORM's CARD OF 'cadastrelaw19.ColumnOf'. -/
def columnOfUptoCard : Claim7 := { stood := { row := columnOfUptoRow, standIns := [], harness := (true, "beef5805a216456b57237f00ca10f178fb7c5698fcc37807c1b3f6c55c5e17fa"), looks := false }, kinds := [], alts := [], laidByText := true, laidKinds := [.data, .widerDeep, .pinned], laidTests := true, laidLooks := .later }
def ColumnOfUptoCardSaid : Prop := Claim7.holds Tryd.pinned (.plain (OpenSpec.upto columnOfSpec)) columnOfUptoCard

/-- THE SECOND FORM's CARD OF 'cadastrelaw19.ColumnCan'. -/
def columnCanUptoCard : Claim7 := { stood := { row := columnCanUptoRow, standIns := [], harness := (true, "beef5805a216456b57237f00ca10f178fb7c5698fcc37807c1b3f6c55c5e17fa"), looks := false }, kinds := [], alts := [], laidByText := true, laidKinds := [.data, .widerDeep, .pinned], laidTests := true, laidLooks := .later }
def ColumnCanUptoCardSaid : Prop := Claim7.holds Tryd.pinned (.plain (OpenSpec.upto columnCanSpec)) columnCanUptoCard

/-- THE SECOND FORM's CARD OF 'cadastrelaw19.ColumnJoins'. -/
def columnJoinsUptoCard : Claim7 := { stood := { row := columnJoinsUptoRow, standIns := [], harness := (true, "beef5805a216456b57237f00ca10f178fb7c5698fcc37807c1b3f6c55c5e17fa"), looks := false }, kinds := [], alts := [], laidByText := true, laidKinds := [.data, .widerDeep, .pinned], laidTests := true, laidLooks := .later }
def ColumnJoinsUptoCardSaid : Prop := Claim7.holds Tryd.pinned (.plain (OpenSpec.upto columnJoinsSpec)) columnJoinsUptoCard

/-- THE SECOND FORM's CARD OF 'cadastrelaw19.ColumnCuts'. -/
def columnCutsUptoCard : Claim7 := { stood := { row := columnCutsUptoRow, standIns := [], harness := (true, "beef5805a216456b57237f00ca10f178fb7c5698fcc37807c1b3f6c55c5e17fa"), looks := false }, kinds := [], alts := [], laidByText := true, laidKinds := [.data, .widerDeep, .pinned], laidTests := true, laidLooks := .later }
def ColumnCutsUptoCardSaid : Prop := Claim7.holds Tryd.pinned (.plain (OpenSpec.upto columnCutsSpec)) columnCutsUptoCard
end Rows
end Go.Proofs.YtaldfmbnfnagjaaDoor
