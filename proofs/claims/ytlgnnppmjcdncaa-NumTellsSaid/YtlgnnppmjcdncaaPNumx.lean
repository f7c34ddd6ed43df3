-- written by wip/myprint.py out of the translation
import Derived.Test.YtlgnnppmjcdncaaPNumx0
import Derived.Test.YtlgnnppmjcdncaaPNumx1
import Derived.Test.YtlgnnppmjcdncaaPNumx2
import Derived.Test.YtlgnnppmjcdncaaPNumx3
import Derived.Test.YtlgnnppmjcdncaaPNumx4
import Derived.Test.YtlgnnppmjcdncaaPNumx5
import Derived.Test.YtlgnnppmjcdncaaPNumx6
namespace Go.Proofs.Ytlgnnppmjcdncaa.PNum
open Go.RowKit Go.Proofs.YtlgnnppmjcdncaaW.PrintWords Go.Proofs.YtlgnnppmjcdncaaW.PrintLast Go.Proofs.YtlgnnppmjcdncaaW.PrintMore
open Go.Proofs.Ytlgnnppmjcdncaa.Kit Go.Proofs.Ytlgnnppmjcdncaa.NumMath Go.Proofs.Ytlgnnppmjcdncaa.NumWalk
attribute [local go_sem] max2_int min2_int max_two min_two max_three min_three max_four min_four   -- for this text's walks alone
set_option linter.unusedVariables false
set_option linter.unusedSimpArgs false

end Go.Proofs.Ytlgnnppmjcdncaa.PNum
