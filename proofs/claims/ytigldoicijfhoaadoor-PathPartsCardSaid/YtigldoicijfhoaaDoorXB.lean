-- Written by this claim's own program xprint.py (the kit's printer with contracts of this claim's own).
import Derived.Test.YtigldoicijfhoaaDoorXB0
import Derived.Test.YtigldoicijfhoaaDoorXB1
import Derived.Test.YtigldoicijfhoaaDoorXB2
import Derived.Test.YtigldoicijfhoaaDoorXB3
import Derived.Test.YtigldoicijfhoaaDoorXB4
namespace Go.Proofs.YtigldoicijfhoaaDoor.XB
open Go.RowKit Go.Proofs.YtigldoicijfhoaaDoorW.PrintWords Go.Proofs.YtigldoicijfhoaaDoorW.PrintLast Go.Proofs.YtigldoicijfhoaaDoorW.PrintMore
attribute [local go_sem] max2_int min2_int max_two min_two max_three min_three max_four min_four   -- for this text's walks alone
attribute [local go_sem] fldF0 fldF1
set_option linter.unusedVariables false
set_option linter.unusedSimpArgs false

end Go.Proofs.YtigldoicijfhoaaDoor.XB
