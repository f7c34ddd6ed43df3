-- written by wip/myprint.py out of the translation
import Derived.Test.YtcnlgfoomeklbaaPSnx0
import Derived.Test.YtcnlgfoomeklbaaPSnx1
import Derived.Test.YtcnlgfoomeklbaaPSnx2
import Derived.Test.YtcnlgfoomeklbaaPSnx3
import Derived.Test.YtcnlgfoomeklbaaPSnx4
import Derived.Test.YtcnlgfoomeklbaaPSnx5
import Derived.Test.YtcnlgfoomeklbaaPSnx6
import Derived.Test.YtcnlgfoomeklbaaPSnx7
namespace Go.Proofs.Ytcnlgfoomeklbaa.PSn
open Go.RowKit Go.Proofs.YtcnlgfoomeklbaaW.PrintWords Go.Proofs.YtcnlgfoomeklbaaW.PrintLast Go.Proofs.YtcnlgfoomeklbaaW.PrintMore
attribute [local go_sem] max2_int min2_int max_two min_two max_three min_three max_four min_four   -- for this text's walks alone
set_option linter.unusedVariables false
set_option linter.unusedSimpArgs false

end Go.Proofs.Ytcnlgfoomeklbaa.PSn
