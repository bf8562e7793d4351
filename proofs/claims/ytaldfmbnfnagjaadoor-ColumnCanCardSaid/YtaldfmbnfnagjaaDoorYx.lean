-- Written by xprint.py, a program of this claim's own, over the kit's print: not trusted: Lean checks it.
import Derived.Test.YtaldfmbnfnagjaaDoorYx0
import Derived.Test.YtaldfmbnfnagjaaDoorYx1
import Derived.Test.YtaldfmbnfnagjaaDoorYx2
import Derived.Test.YtaldfmbnfnagjaaDoorYx3
import Derived.Test.YtaldfmbnfnagjaaDoorYx4
import Derived.Test.YtaldfmbnfnagjaaDoorYx5
import Derived.Test.YtaldfmbnfnagjaaDoorYx6
import Derived.Test.YtaldfmbnfnagjaaDoorYx7
namespace Go.Proofs.YtaldfmbnfnagjaaDoor.Y
open Go.RowKit Go.Proofs.YtaldfmbnfnagjaaDoor.X Go.Proofs.YtaldfmbnfnagjaaDoorW.PrintWords Go.Proofs.YtaldfmbnfnagjaaDoorW.PrintLast Go.Proofs.YtaldfmbnfnagjaaDoorW.PrintMore
attribute [local go_sem] max2_int min2_int max_two min_two max_three min_three max_four min_four   -- for this text's walks alone
set_option linter.unusedVariables false
set_option linter.unusedSimpArgs false

end Go.Proofs.YtaldfmbnfnagjaaDoor.Y
