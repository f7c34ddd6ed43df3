-- written by wip/myprint.py out of the translation
import Derived.Test.YtoklgobjbelmjaaPRnx0
import Derived.Test.YtoklgobjbelmjaaPRnx1
import Derived.Test.YtoklgobjbelmjaaPRnx2
import Derived.Test.YtoklgobjbelmjaaPRnx3
import Derived.Test.YtoklgobjbelmjaaPRnx4
import Derived.Test.YtoklgobjbelmjaaPRnx5
namespace Go.Proofs.Ytoklgobjbelmjaa.PRn
open Go.RowKit Go.Proofs.YtoklgobjbelmjaaW.PrintWords Go.Proofs.YtoklgobjbelmjaaW.PrintLast Go.Proofs.YtoklgobjbelmjaaW.PrintMore
open Go.Proofs.Ytoklgobjbelmjaa.Kit Go.Proofs.Ytoklgobjbelmjaa.NumMath Go.Proofs.Ytoklgobjbelmjaa.NumWalk
attribute [local go_sem] max2_int min2_int max_two min_two max_three min_three max_four min_four   -- for this text's walks alone
set_option linter.unusedVariables false
set_option linter.unusedSimpArgs false

end Go.Proofs.Ytoklgobjbelmjaa.PRn
