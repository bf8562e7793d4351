-- Written by xprint.py, a program of this claim's own, over the kit's print: not trusted: Lean checks it.
import Derived.Test.YtmoohjomkdcdhaaDoorProg
import Derived.Below
import Derived.Deep.Draws
import Derived.Deep.AppendLies
import Derived.Maps.AppendAt
import Derived.OwnWalk
import Derived.Laws.BytesArg
import Derived.Laws.MakeOwn
import Derived.Laws.OwnMore
import Derived.Deep.OwnRows
import Derived.Tactics
import Derived.Lib.ConvBytes
import Derived.Laws.Slices
import Derived.WalkKit
import Derived.KernelRfl
import Derived.RowKit3
import Derived.Deep.LoopGhost
import Derived.Deep.QuietTactic
import Derived.BigQuiet
import Derived.WideLaws
import Derived.Deep.DeepCutAuto
import Derived.Deep.CutBlock
import Derived.Deep.RegionHeld3
import Derived.Laws.Rows
import Derived.Lib.AppendStr
import Derived.ArgAppend
import Derived.Laws.IdiomCopy
import Derived.OrdersHeld
import Derived.Laws.BitsLemmas
import Derived.RowKit
import Derived.Test.YtmoohjomkdcdhaaDoorParse
import Derived.Test.YtmoohjomkdcdhaaDoorWWords
import Derived.Test.YtmoohjomkdcdhaaDoorWLast
import Derived.Test.YtmoohjomkdcdhaaDoorWTab
import Derived.Test.YtmoohjomkdcdhaaDoorWFour
import Derived.Test.YtmoohjomkdcdhaaDoorWQPut
import Derived.Test.YtmoohjomkdcdhaaDoorWApart
import Derived.Test.YtmoohjomkdcdhaaDoorWArr
import Derived.Test.YtmoohjomkdcdhaaDoorWZeros
import Derived.Test.YtmoohjomkdcdhaaDoorWFoot
import Derived.Test.YtmoohjomkdcdhaaDoorWKept
import Derived.Test.YtmoohjomkdcdhaaDoorWShare
import Derived.Test.YtmoohjomkdcdhaaDoorWN
import Derived.Test.YtmoohjomkdcdhaaDoorWFootNe
import Derived.Test.YtmoohjomkdcdhaaDoorWAt
import Derived.Test.YtmoohjomkdcdhaaDoorWEqStruct
import Derived.Test.YtmoohjomkdcdhaaDoorWRepsOne
import Derived.Test.YtmoohjomkdcdhaaDoorWInv
import Derived.Test.YtmoohjomkdcdhaaDoorWInvWords
import Derived.Test.YtmoohjomkdcdhaaDoorWGuard
import Derived.Test.YtmoohjomkdcdhaaDoorWNEv
import Derived.Test.YtmoohjomkdcdhaaDoorWMore
namespace Go.Proofs.YtmoohjomkdcdhaaDoor.Y
open Go.RowKit Go.Proofs.YtmoohjomkdcdhaaDoor.X Go.Proofs.YtmoohjomkdcdhaaDoorW.PrintWords Go.Proofs.YtmoohjomkdcdhaaDoorW.PrintLast Go.Proofs.YtmoohjomkdcdhaaDoorW.PrintMore
attribute [local go_sem] max2_int min2_int max_two min_two max_three min_three max_four min_four   -- for this text's walks alone
set_option linter.unusedVariables false
set_option linter.unusedSimpArgs false



def errW : Option Int → Value
  | none => .nilIface
  | some c => .iface 0 (.int .i64 c)
theorem errW_none : errW none = .nilIface := rfl
theorem errW_some (c : Int) : errW (some c) = .iface 0 (.int .i64 c) := rfl

theorem info2 : (Tryd.prog.info? 2).map (fun i => (i.zero, i.size, i.bytes)) = some (some (.int .i64 0), 1, 8) := by kernel_rfl
theorem info5 : (Tryd.prog.info? 5).map (fun i => (i.zero, i.size, i.bytes)) = some (some (.int .u8 0), 1, 1) := by kernel_rfl
-- the values' own types

end Go.Proofs.YtmoohjomkdcdhaaDoor.Y
