-- Written by xprint.py, a program of this claim's own, over the kit's print: not trusted: Lean checks it.
import Derived.Test.YtmoohjomkdcdhaaDoorXx0
import Derived.Test.YtmoohjomkdcdhaaDoorXx1
namespace Go.Proofs.YtmoohjomkdcdhaaDoor.X
open Go.RowKit Go.Proofs.YtmoohjomkdcdhaaDoorW.PrintWords Go.Proofs.YtmoohjomkdcdhaaDoorW.PrintLast Go.Proofs.YtmoohjomkdcdhaaDoorW.PrintMore
attribute [local go_sem] max2_int min2_int max_two min_two max_three min_three max_four min_four   -- for this text's walks alone
set_option linter.unusedVariables false
set_option linter.unusedSimpArgs false

end Go.Proofs.YtmoohjomkdcdhaaDoor.X
