-- Written by xprint.py, a program of this claim's own, over the kit's print: not trusted: Lean checks it.
import Derived.Test.YtaldfmbnfnagjaaDoorXx0
import Derived.Test.YtaldfmbnfnagjaaDoorXx1
namespace Go.Proofs.YtaldfmbnfnagjaaDoor.X
open Go.RowKit Go.Proofs.YtaldfmbnfnagjaaDoorW.PrintWords Go.Proofs.YtaldfmbnfnagjaaDoorW.PrintLast Go.Proofs.YtaldfmbnfnagjaaDoorW.PrintMore
attribute [local go_sem] max2_int min2_int max_two min_two max_three min_three max_four min_four   -- for this text's walks alone
set_option linter.unusedVariables false
set_option linter.unusedSimpArgs false

end Go.Proofs.YtaldfmbnfnagjaaDoor.X
