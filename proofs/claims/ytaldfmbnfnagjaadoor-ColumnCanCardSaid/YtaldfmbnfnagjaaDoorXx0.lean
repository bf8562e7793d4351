-- Written by xprint.py, a program of this claim's own, over the kit's print: not trusted: Lean checks it.
import Derived.Test.YtaldfmbnfnagjaaDoorProg
import Derived.Below
import Derived.Deep.Draws
import Derived.Deep.AppendLies
import Derived.Maps.AppendAt
import Derived.OwnWalk
import Derived.Laws.BytesArg
import Derived.Laws.MakeOwn
import Derived.Laws.OwnMore
import Derived.Deep.OwnRows
import Derived.Tactics
import Derived.Lib.ConvBytes
import Derived.Laws.Slices
import Derived.WalkKit
import Derived.KernelRfl
import Derived.RowKit3
import Derived.Deep.LoopGhost
import Derived.Deep.QuietTactic
import Derived.BigQuiet
import Derived.WideLaws
import Derived.Deep.DeepCutAuto
import Derived.Deep.CutBlock
import Derived.Deep.RegionHeld3
import Derived.Laws.Rows
import Derived.Lib.AppendStr
import Derived.ArgAppend
import Derived.Laws.IdiomCopy
import Derived.OrdersHeld
import Derived.Laws.BitsLemmas
import Derived.RowKit
import Derived.Test.YtaldfmbnfnagjaaDoorExt
import Derived.Test.YtaldfmbnfnagjaaDoorWWords
import Derived.Test.YtaldfmbnfnagjaaDoorWLast
import Derived.Test.YtaldfmbnfnagjaaDoorWTab
import Derived.Test.YtaldfmbnfnagjaaDoorWFour
import Derived.Test.YtaldfmbnfnagjaaDoorWQPut
import Derived.Test.YtaldfmbnfnagjaaDoorWApart
import Derived.Test.YtaldfmbnfnagjaaDoorWArr
import Derived.Test.YtaldfmbnfnagjaaDoorWZeros
import Derived.Test.YtaldfmbnfnagjaaDoorWFoot
import Derived.Test.YtaldfmbnfnagjaaDoorWKept
import Derived.Test.YtaldfmbnfnagjaaDoorWShare
import Derived.Test.YtaldfmbnfnagjaaDoorWN
import Derived.Test.YtaldfmbnfnagjaaDoorWFootNe
import Derived.Test.YtaldfmbnfnagjaaDoorWAt
import Derived.Test.YtaldfmbnfnagjaaDoorWEqStruct
import Derived.Test.YtaldfmbnfnagjaaDoorWRepsOne
import Derived.Test.YtaldfmbnfnagjaaDoorWInv
import Derived.Test.YtaldfmbnfnagjaaDoorWInvWords
import Derived.Test.YtaldfmbnfnagjaaDoorWGuard
import Derived.Test.YtaldfmbnfnagjaaDoorWNEv
import Derived.Test.YtaldfmbnfnagjaaDoorWMore
namespace Go.Proofs.YtaldfmbnfnagjaaDoor.X
open Go.RowKit Go.Proofs.YtaldfmbnfnagjaaDoorW.PrintWords Go.Proofs.YtaldfmbnfnagjaaDoorW.PrintLast Go.Proofs.YtaldfmbnfnagjaaDoorW.PrintMore
attribute [local go_sem] max2_int min2_int max_two min_two max_three min_three max_four min_four   -- for this text's walks alone
set_option linter.unusedVariables false
set_option linter.unusedSimpArgs false



def errW : Option Int → Value
  | none => .nilIface
  | some c => .iface 0 (.int .i64 c)
theorem errW_none : errW none = .nilIface := rfl
theorem errW_some (c : Int) : errW (some c) = .iface 0 (.int .i64 c) := rfl

-- the values' own types

end Go.Proofs.YtaldfmbnfnagjaaDoor.X
