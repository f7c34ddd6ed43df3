-- written by wip/myprint.py out of the translation
import Derived.Test.YtammdlgpelljmaaPBmx0
import Derived.Test.YtammdlgpelljmaaPBmx1
import Derived.Test.YtammdlgpelljmaaPBmx2
import Derived.Test.YtammdlgpelljmaaPBmx3
namespace Go.Proofs.Ytammdlgpelljmaa.PBm
open Go.RowKit Go.Proofs.YtammdlgpelljmaaW.PrintWords Go.Proofs.YtammdlgpelljmaaW.PrintLast Go.Proofs.YtammdlgpelljmaaW.PrintMore
attribute [local go_sem] max2_int min2_int max_two min_two max_three min_three max_four min_four   -- for this text's walks alone
set_option linter.unusedVariables false
set_option linter.unusedSimpArgs false

end Go.Proofs.Ytammdlgpelljmaa.PBm
