-- Written by this claim's own program xprint.py (the kit's printer with contracts of this claim's own).
import Derived.Test.YtigldoicijfhoaaXB0
import Derived.Test.YtigldoicijfhoaaXB1
import Derived.Test.YtigldoicijfhoaaXB2
import Derived.Test.YtigldoicijfhoaaXB3
import Derived.Test.YtigldoicijfhoaaXB4
import Derived.Test.YtigldoicijfhoaaXB5
import Derived.Test.YtigldoicijfhoaaXB6
import Derived.Test.YtigldoicijfhoaaXB7
namespace Go.Proofs.Ytigldoicijfhoaa.XB
open Go.RowKit Go.Proofs.YtigldoicijfhoaaW.PrintWords Go.Proofs.YtigldoicijfhoaaW.PrintLast Go.Proofs.YtigldoicijfhoaaW.PrintMore
attribute [local go_sem] max2_int min2_int max_two min_two max_three min_three max_four min_four   -- for this text's walks alone
attribute [local go_sem] fldF0 fldF1
set_option linter.unusedVariables false
set_option linter.unusedSimpArgs false

end Go.Proofs.Ytigldoicijfhoaa.XB
