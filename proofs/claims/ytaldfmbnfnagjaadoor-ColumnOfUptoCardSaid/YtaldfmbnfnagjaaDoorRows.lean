/-
  NARROWER THAN 'FOR EVERY INPUT', by the rows' own cells (each row's printed sentence says how): ColumnOf: laid · ColumnCan: laid · ColumnJoins: laid · ColumnCuts: laid.
  DERIVED. THE GIVEN ROWS OF THIS SEAT. 4 by the template 'for every input the law returns true; each argument reads behind the call as it read before'; 0 by the template 'total and deterministic' (their statements: YtaldfmbnfnagjaaDoorTotals.lean).
  GIVEN WITH THE SEED: the statements are not yours to turn. If you find one false, say at which input.
  Laid BY PROGRAM, IN A SANDBOX (cutbox-rows.mjs): the forced cells as the released guide's own fill.sh prints them over the translation de1a490958c8fb6b… (all of the seat's roots in one cut). By AI agents, Wed Nov 11 2026. No macro, syntax, notation, axiom, sorry.
-/
import Derived.Test.YtaldfmbnfnagjaaDoorChecked
import GoSem.PinnedTables
import GoSem.Claim
import GoSem.ClaimJoined
import GoSem.ClaimMapViews
import Derived.JoinedTies
import Derived.KernelRfl
namespace Go.Proofs.YtaldfmbnfnagjaaDoor
/- THE CELL 'sum', in the pinned program and in every row, IS THE sha256 OF THE DUMP (.gsa) THAT YtaldfmbnfnagjaaDoorProg.lean LOADS. Nothing in Lean hashes anything: it is a label: what it is worth is what the hold of that sum in a sandbox is worth. -/
noncomputable def Tryd.pinned : Pinned := { name := "ytaldfmbnfnagjaadoor", sum := "de1a490958c8fb6b1cf3febdf337f66e0a2cc86380f99996b6919944b8f62b70", checked := Tryd.checked }
namespace Rows
def none {H : Type} : Left H := { results := [], args := [] }

/- WHAT THE LISTED PACKAGE-LEVEL VARIABLES READ AS WHEN THE CALL BEGINS. Each datum BY PROGRAM (the guide's laid-datum.mjs) off the statement by which the dump's own 'gosem.cut.vars' lays the variable. In a bare row this is a premise. The card (YtaldfmbnfnagjaaDoorCards.lean) ties it to the program's text. -/
def laid_unicode_utf8_acceptRanges {H : Type} : DataW H := .agg [.agg [.lit (.int .u8 128), .lit (.int .u8 191)], .agg [.lit (.int .u8 160), .lit (.int .u8 191)], .agg [.lit (.int .u8 128), .lit (.int .u8 159)], .agg [.lit (.int .u8 144), .lit (.int .u8 191)], .agg [.lit (.int .u8 128), .lit (.int .u8 143)], .agg [.lit (.int .u8 0), .lit (.int .u8 0)], .agg [.lit (.int .u8 0), .lit (.int .u8 0)], .agg [.lit (.int .u8 0), .lit (.int .u8 0)], .agg [.lit (.int .u8 0), .lit (.int .u8 0)], .agg [.lit (.int .u8 0), .lit (.int .u8 0)], .agg [.lit (.int .u8 0), .lit (.int .u8 0)], .agg [.lit (.int .u8 0), .lit (.int .u8 0)], .agg [.lit (.int .u8 0), .lit (.int .u8 0)], .agg [.lit (.int .u8 0), .lit (.int .u8 0)], .agg [.lit (.int .u8 0), .lit (.int .u8 0)], .agg [.lit (.int .u8 0), .lit (.int .u8 0)]]
def laid_cadastre_value_names {H : Type} : DataW H := .agg [.lit (.string []), .lit (.string [35, 82, 69, 70, 33]), .lit (.string [35, 86, 65, 76, 85, 69, 33]), .lit (.string [35, 68, 73, 86, 47, 48, 33]), .lit (.string [35, 78, 85, 77, 33]), .lit (.string [35, 67, 89, 67, 76, 69, 33])]
/-- One of Go's own tables, pinned by name: the form's constant. -/
def laid_unicode_utf8_first : DataW Unit := Go.Pinned.utf8First

/-- 'cadastrelaw19.ColumnOf': WHATEVER THE INPUT: true; the input reads as it did. -/
def columnOfSpec : ChangeSpec := { name := "columnOf", fn := fun _ => fun
  | [d1, d2] => { results := [.lit (.bool true)], args := [d1, d2] }
  | _ => none }
def columnOfRow : OpenClaim := { program := "ytaldfmbnfnagjaadoor", sum := "de1a490958c8fb6b1cf3febdf337f66e0a2cc86380f99996b6919944b8f62b70", func := "cadastre/cadastrelaw19.ColumnOf", spec := "columnOf", inPlace := ["internal/bytealg.IndexByteString", "internal/bytealg.IndexString"], named := ["cadastre/value.names", "internal/bytealg.MaxLen", "unicode/utf8.first", "unicode/utf8.acceptRanges"], apart := false, laid := [("unicode/utf8.acceptRanges", laid_unicode_utf8_acceptRanges), ("cadastre/value.names", laid_cadastre_value_names), ("unicode/utf8.first", laid_unicode_utf8_first)] }
def ColumnOfSaid : Prop := columnOfRow.holds Tryd.pinned (OpenSpec.ofChange columnOfSpec)

/-- ITS FALSE NEIGHBOUR: 'it returns false'. Refute it at one input. -/
def columnOfWrong : ChangeSpec := { name := "columnOf", fn := fun _ => fun
  | [d1, d2] => { results := [.lit (.bool false)], args := [d1, d2] }
  | _ => none }
def ColumnOfWrongFalsely : Prop := columnOfRow.holds Tryd.pinned (OpenSpec.ofChange columnOfWrong)

/-- 'cadastrelaw19.ColumnCan': WHATEVER THE INPUT: true; the input reads as it did. -/
def columnCanSpec : ChangeSpec := { name := "columnCan", fn := fun _ => fun
  | [d] => { results := [.lit (.bool true)], args := [d] }
  | _ => none }
def columnCanRow : OpenClaim := { program := "ytaldfmbnfnagjaadoor", sum := "de1a490958c8fb6b1cf3febdf337f66e0a2cc86380f99996b6919944b8f62b70", func := "cadastre/cadastrelaw19.ColumnCan", spec := "columnCan", inPlace := ["internal/bytealg.IndexByteString", "internal/bytealg.IndexString"], named := ["cadastre/value.names", "internal/bytealg.MaxLen", "unicode/utf8.first", "unicode/utf8.acceptRanges"], apart := false, laid := [("unicode/utf8.acceptRanges", laid_unicode_utf8_acceptRanges), ("cadastre/value.names", laid_cadastre_value_names), ("unicode/utf8.first", laid_unicode_utf8_first)] }
def ColumnCanSaid : Prop := columnCanRow.holds Tryd.pinned (OpenSpec.ofChange columnCanSpec)

/-- ITS FALSE NEIGHBOUR: 'it returns false'. Refute it at one input. -/
def columnCanWrong : ChangeSpec := { name := "columnCan", fn := fun _ => fun
  | [d] => { results := [.lit (.bool false)], args := [d] }
  | _ => none }
def ColumnCanWrongFalsely : Prop := columnCanRow.holds Tryd.pinned (OpenSpec.ofChange columnCanWrong)

/-- 'cadastrelaw19.ColumnJoins': WHATEVER THE INPUT: true; the input reads as it did. -/
def columnJoinsSpec : ChangeSpec := { name := "columnJoins", fn := fun _ => fun
  | [d1, d2] => { results := [.lit (.bool true)], args := [d1, d2] }
  | _ => none }
def columnJoinsRow : OpenClaim := { program := "ytaldfmbnfnagjaadoor", sum := "de1a490958c8fb6b1cf3febdf337f66e0a2cc86380f99996b6919944b8f62b70", func := "cadastre/cadastrelaw19.ColumnJoins", spec := "columnJoins", inPlace := ["internal/bytealg.IndexByteString", "internal/bytealg.IndexString"], named := ["cadastre/value.names", "internal/bytealg.MaxLen", "unicode/utf8.first", "unicode/utf8.acceptRanges"], apart := false, laid := [("unicode/utf8.acceptRanges", laid_unicode_utf8_acceptRanges), ("cadastre/value.names", laid_cadastre_value_names), ("unicode/utf8.first", laid_unicode_utf8_first)] }
def ColumnJoinsSaid : Prop := columnJoinsRow.holds Tryd.pinned (OpenSpec.ofChange columnJoinsSpec)

/-- ITS FALSE NEIGHBOUR: 'it returns false'. Refute it at one input. -/
def columnJoinsWrong : ChangeSpec := { name := "columnJoins", fn := fun _ => fun
  | [d1, d2] => { results := [.lit (.bool false)], args := [d1, d2] }
  | _ => none }
def ColumnJoinsWrongFalsely : Prop := columnJoinsRow.holds Tryd.pinned (OpenSpec.ofChange columnJoinsWrong)

/-- 'cadastrelaw19.ColumnCuts': WHATEVER THE INPUT: true; the input reads as it did. -/
def columnCutsSpec : ChangeSpec := { name := "columnCuts", fn := fun _ => fun
  | [d1, d2, d3] => { results := [.lit (.bool true)], args := [d1, d2, d3] }
  | _ => none }
def columnCutsRow : OpenClaim := { program := "ytaldfmbnfnagjaadoor", sum := "de1a490958c8fb6b1cf3febdf337f66e0a2cc86380f99996b6919944b8f62b70", func := "cadastre/cadastrelaw19.ColumnCuts", spec := "columnCuts", inPlace := ["internal/bytealg.IndexByteString", "internal/bytealg.IndexString"], named := ["cadastre/value.names", "internal/bytealg.MaxLen", "unicode/utf8.first", "unicode/utf8.acceptRanges"], apart := false, laid := [("unicode/utf8.acceptRanges", laid_unicode_utf8_acceptRanges), ("cadastre/value.names", laid_cadastre_value_names), ("unicode/utf8.first", laid_unicode_utf8_first)] }
def ColumnCutsSaid : Prop := columnCutsRow.holds Tryd.pinned (OpenSpec.ofChange columnCutsSpec)

/-- ITS FALSE NEIGHBOUR: 'it returns false'. Refute it at one input. -/
def columnCutsWrong : ChangeSpec := { name := "columnCuts", fn := fun _ => fun
  | [d1, d2, d3] => { results := [.lit (.bool false)], args := [d1, d2, d3] }
  | _ => none }
def ColumnCutsWrongFalsely : Prop := columnCutsRow.holds Tryd.pinned (OpenSpec.ofChange columnCutsWrong)

/- THE SECOND FORM. 'bulk': how many values and letters a reading holds, each counted each time it is reached (what is shared counts as often as it is met; a slice's spare places count too). A statement '..UptoSaid' is the law's where the arguments, and the package variables that the reading takes, are together of bulk at most 1048576: NARROWER than '..Said'. Prove '..Said' where nothing that the law and all that it calls make is longer than what came in: it says more and counts as full. Else prove '..UptoSaid'. A law counts once. -/
mutual
def uptoBulk {H : Type} : DataW H → Nat
  | .lit (.string bytes) => bytes.length + 1
  | .lit _ => 1
  | .nil => 1
  | .ptr d => uptoBulk d + 1
  | .slice elems spare => uptoBulkAll elems + uptoBulkAll spare + 1
  | .agg parts => uptoBulkAll parts + 1
  | .iface _ d => uptoBulk d + 1
  | .map entries => uptoBulkEntries entries + 1
  | .held _ => 1
def uptoBulkAll {H : Type} : List (DataW H) → Nat
  | [] => 0
  | d :: r => uptoBulk d + uptoBulkAll r
def uptoBulkEntries {H : Type} : List (Lit × DataW H) → Nat
  | [] => 0
  | x :: r => uptoBulkEntry x + uptoBulkEntries r
def uptoBulkEntry {H : Type} : Lit × DataW H → Nat
  | (.string bytes, d) => bytes.length + uptoBulk d + 1
  | (_, d) => uptoBulk d + 1
 end
def uptoSmall : (H : Type) → List (DataW H) → Bool := fun _ ds => decide (uptoBulkAll ds ≤ 1048576)
def OpenSpec.upto (s : _root_.Go.ChangeSpec) : _root_.Go.OpenSpec := { _root_.Go.OpenSpec.ofChange s with cond := some uptoSmall }

/-- 'cadastrelaw19.ColumnOf', WHERE WHAT IT READS IS OF BULK AT MOST 1048576: true; the input reads as it did. -/
def columnOfUptoRow : OpenClaim := { program := "ytaldfmbnfnagjaadoor", sum := "de1a490958c8fb6b1cf3febdf337f66e0a2cc86380f99996b6919944b8f62b70", func := "cadastre/cadastrelaw19.ColumnOf", spec := "columnOf", inPlace := ["internal/bytealg.IndexByteString", "internal/bytealg.IndexString"], named := ["cadastre/value.names", "internal/bytealg.MaxLen", "unicode/utf8.first", "unicode/utf8.acceptRanges"], apart := false, laid := [("unicode/utf8.acceptRanges", laid_unicode_utf8_acceptRanges), ("cadastre/value.names", laid_cadastre_value_names), ("unicode/utf8.first", laid_unicode_utf8_first)], narrowed := true }
def ColumnOfUptoSaid : Prop := columnOfUptoRow.holds Tryd.pinned (OpenSpec.upto columnOfSpec)

/-- 'cadastrelaw19.ColumnCan', WHERE WHAT IT READS IS OF BULK AT MOST 1048576: true; the input reads as it did. -/
def columnCanUptoRow : OpenClaim := { program := "ytaldfmbnfnagjaadoor", sum := "de1a490958c8fb6b1cf3febdf337f66e0a2cc86380f99996b6919944b8f62b70", func := "cadastre/cadastrelaw19.ColumnCan", spec := "columnCan", inPlace := ["internal/bytealg.IndexByteString", "internal/bytealg.IndexString"], named := ["cadastre/value.names", "internal/bytealg.MaxLen", "unicode/utf8.first", "unicode/utf8.acceptRanges"], apart := false, laid := [("unicode/utf8.acceptRanges", laid_unicode_utf8_acceptRanges), ("cadastre/value.names", laid_cadastre_value_names), ("unicode/utf8.first", laid_unicode_utf8_first)], narrowed := true }
def ColumnCanUptoSaid : Prop := columnCanUptoRow.holds Tryd.pinned (OpenSpec.upto columnCanSpec)

/-- 'cadastrelaw19.ColumnJoins', WHERE WHAT IT READS IS OF BULK AT MOST 1048576: true; the input reads as it did. -/
def columnJoinsUptoRow : OpenClaim := { program := "ytaldfmbnfnagjaadoor", sum := "de1a490958c8fb6b1cf3febdf337f66e0a2cc86380f99996b6919944b8f62b70", func := "cadastre/cadastrelaw19.ColumnJoins", spec := "columnJoins", inPlace := ["internal/bytealg.IndexByteString", "internal/bytealg.IndexString"], named := ["cadastre/value.names", "internal/bytealg.MaxLen", "unicode/utf8.first", "unicode/utf8.acceptRanges"], apart := false, laid := [("unicode/utf8.acceptRanges", laid_unicode_utf8_acceptRanges), ("cadastre/value.names", laid_cadastre_value_names), ("unicode/utf8.first", laid_unicode_utf8_first)], narrowed := true }
def ColumnJoinsUptoSaid : Prop := columnJoinsUptoRow.holds Tryd.pinned (OpenSpec.upto columnJoinsSpec)

/-- 'cadastrelaw19.ColumnCuts', WHERE WHAT IT READS IS OF BULK AT MOST 1048576: true; the input reads as it did. -/
def columnCutsUptoRow : OpenClaim := { program := "ytaldfmbnfnagjaadoor", sum := "de1a490958c8fb6b1cf3febdf337f66e0a2cc86380f99996b6919944b8f62b70", func := "cadastre/cadastrelaw19.ColumnCuts", spec := "columnCuts", inPlace := ["internal/bytealg.IndexByteString", "internal/bytealg.IndexString"], named := ["cadastre/value.names", "internal/bytealg.MaxLen", "unicode/utf8.first", "unicode/utf8.acceptRanges"], apart := false, laid := [("unicode/utf8.acceptRanges", laid_unicode_utf8_acceptRanges), ("cadastre/value.names", laid_cadastre_value_names), ("unicode/utf8.first", laid_unicode_utf8_first)], narrowed := true }
def ColumnCutsUptoSaid : Prop := columnCutsUptoRow.holds Tryd.pinned (OpenSpec.upto columnCutsSpec)

end Rows
end Go.Proofs.YtaldfmbnfnagjaaDoor
