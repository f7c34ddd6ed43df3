-- written by wip/myprint.py out of the translation
import Derived.Test.YtanpdbdpphdblaaPRqx0
import Derived.Test.YtanpdbdpphdblaaPRqx1
import Derived.Test.YtanpdbdpphdblaaPRqx2
import Derived.Test.YtanpdbdpphdblaaPRqx3
import Derived.Test.YtanpdbdpphdblaaPRqx4
import Derived.Test.YtanpdbdpphdblaaPRqx5
namespace Go.Proofs.Ytanpdbdpphdblaa.PRq
open Go.RowKit Go.Proofs.YtanpdbdpphdblaaW.PrintWords Go.Proofs.YtanpdbdpphdblaaW.PrintLast Go.Proofs.YtanpdbdpphdblaaW.PrintMore
open Go.Proofs.Ytanpdbdpphdblaa.Kit Go.Proofs.Ytanpdbdpphdblaa.NumMath Go.Proofs.Ytanpdbdpphdblaa.NumWalk
attribute [local go_sem] max2_int min2_int max_two min_two max_three min_three max_four min_four   -- for this text's walks alone
set_option linter.unusedVariables false
set_option linter.unusedSimpArgs false

end Go.Proofs.Ytanpdbdpphdblaa.PRq
