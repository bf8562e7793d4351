/- From a row's list of laid variables to what the walks ask of them (GoodW); and a world in which a row's list is met, for the witness. -/
import Derived.Test.YtmoohjomkdcdhaaDoorExt
import Derived.Test.YtmoohjomkdcdhaaDoorRows
import Derived.ProofKit
import Derived.OpenShut
import Derived.Deep.DeepHandedRow
import Derived.Lib.LaidTab
import Derived.LaidSub
namespace Go.Proofs.YtmoohjomkdcdhaaDoor.X
open Go.ChangeShapes Go.WideShapes Go.ChangeAt Go.RowKit

theorem own : ownKnob Tryd.prog.godebug = none := by kernel_rfl
theorem gPow : Tryd.prog.globalNamed "internal/strconv.uint64pow10" = some 1 := by kernel_rfl
theorem gPowType : (Tryd.prog.globals[1]?).map (·.type) = some 74 := by kernel_rfl
theorem cPow : Tryd.prog.cellsOf 74 = 20 := by kernel_rfl
theorem cU64 : Tryd.prog.cellsOf 37 = 1 := by kernel_rfl
theorem powData : (Rows.laid_internal_strconv_uint64pow10 : DataW Unit) = Lib.tabData .u64 Lib.pow10Tab := by kernel_rfl

/-- What a row's list gives, if it lists strconv's table. -/
theorem goodW_of {l : List (String × DataW Unit)} {W : World} (hL : laidMetH Tryd.prog l W) (hsh : W.ShapedOpen Tryd.prog)
    (he : (l.filter fun x => x.1 == "internal/strconv.uint64pow10") = [("internal/strconv.uint64pow10", Rows.laid_internal_strconv_uint64pow10)]) : GoodW W := by
  refine ⟨?_, ?_⟩
  · exact Tryd.laysM145.s1_3 W hsh
  · have h1 := hL.filter (fun x => x.1 == "internal/strconv.uint64pow10")
    rw [he, powData] at h1
    exact Lib.tabIs_of_head (rest := []) gPow gPowType Tryd.underlying74 Tryd.underlying37 cU64 cPow h1

/-- A datum's cells. -/
noncomputable def flat1 : DataW Unit → List Value
  | .lit (.int k n) => [.int k n]
  | .lit (.bool b) => [.bool b]
  | .lit (.string s) => [.string ⟨s.toArray⟩]
  | _ => []
noncomputable def flat2 : DataW Unit → List Value
  | .agg l => l.flatMap flat1
  | d => flat1 d
noncomputable def flat3 : DataW Unit → List Value
  | .agg l => l.flatMap flat2
  | d => flat1 d
noncomputable def layOne (h : Array Obj) (g : Nat) (d : DataW Unit) : Array Obj :=
  h.modify g fun
    | .cells _ t frozen => .cells (flat3 d).toArray t frozen
    | o => o
noncomputable def layAll (h : Array Obj) : List (String × DataW Unit) → Array Obj
  | [] => h
  | (n, d) :: l => layAll (layOne h ((Tryd.prog.globalNamed n).getD 0) d) l
/-- The settled world, the listed variables holding what is listed. -/
noncomputable def laidWorld (l : List (String × DataW Unit)) (os : Os) : World :=
  { World.holding Tryd.prog os ⟨#[], #[], []⟩ with heap := layAll (World.holding Tryd.prog os ⟨#[], #[], []⟩).heap l }
end Go.Proofs.YtmoohjomkdcdhaaDoor.X
