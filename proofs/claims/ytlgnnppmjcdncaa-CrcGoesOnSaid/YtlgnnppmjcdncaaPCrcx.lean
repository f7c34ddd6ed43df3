-- written by wip/myprint.py out of the translation
import Derived.Test.YtlgnnppmjcdncaaPCrcx0
import Derived.Test.YtlgnnppmjcdncaaPCrcx1
import Derived.Test.YtlgnnppmjcdncaaPCrcx2
import Derived.Test.YtlgnnppmjcdncaaPCrcx3
import Derived.Test.YtlgnnppmjcdncaaPCrcx4
namespace Go.Proofs.Ytlgnnppmjcdncaa.PCrc
open Go.RowKit Go.Proofs.YtlgnnppmjcdncaaW.PrintWords Go.Proofs.YtlgnnppmjcdncaaW.PrintLast Go.Proofs.YtlgnnppmjcdncaaW.PrintMore
attribute [local go_sem] max2_int min2_int max_two min_two max_three min_three max_four min_four   -- for this text's walks alone
set_option linter.unusedVariables false
set_option linter.unusedSimpArgs false

end Go.Proofs.Ytlgnnppmjcdncaa.PCrc
