-- Written by xprint.py, a program of this claim's own, over the kit's print: not trusted: Lean checks it.
import Derived.Test.YtmoohjomkdcdhaaDoorYx0
import Derived.Test.YtmoohjomkdcdhaaDoorYx1
import Derived.Test.YtmoohjomkdcdhaaDoorYx2
import Derived.Test.YtmoohjomkdcdhaaDoorYx3
import Derived.Test.YtmoohjomkdcdhaaDoorYx4
import Derived.Test.YtmoohjomkdcdhaaDoorYx5
namespace Go.Proofs.YtmoohjomkdcdhaaDoor.Y
open Go.RowKit Go.Proofs.YtmoohjomkdcdhaaDoor.X Go.Proofs.YtmoohjomkdcdhaaDoorW.PrintWords Go.Proofs.YtmoohjomkdcdhaaDoorW.PrintLast Go.Proofs.YtmoohjomkdcdhaaDoorW.PrintMore
attribute [local go_sem] max2_int min2_int max_two min_two max_three min_three max_four min_four   -- for this text's walks alone
set_option linter.unusedVariables false
set_option linter.unusedSimpArgs false

end Go.Proofs.YtmoohjomkdcdhaaDoor.Y
