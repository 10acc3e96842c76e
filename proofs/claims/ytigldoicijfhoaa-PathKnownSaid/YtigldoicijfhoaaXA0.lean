-- Written by this claim's own program xprint.py (the kit's printer with contracts of this claim's own).
import Derived.Test.YtigldoicijfhoaaProg
import Derived.Below
import Derived.Deep.Draws
import Derived.Deep.AppendLies
import Derived.Maps.AppendAt
import Derived.OwnWalk
import Derived.Laws.BytesArg
import Derived.Laws.MakeOwn
import Derived.Laws.OwnMore
import Derived.Deep.OwnRows
import Derived.Tactics
import Derived.Lib.ConvBytes
import Derived.Laws.Slices
import Derived.WalkKit
import Derived.KernelRfl
import Derived.RowKit3
import Derived.Deep.LoopGhost
import Derived.Deep.QuietTactic
import Derived.BigQuiet
import Derived.WideLaws
import Derived.Deep.DeepCutAuto
import Derived.Deep.CutBlock
import Derived.Deep.RegionHeld3
import Derived.Laws.Rows
import Derived.Lib.AppendStr
import Derived.ArgAppend
import Derived.Laws.IdiomCopy
import Derived.OrdersHeld
import Derived.Laws.BitsLemmas
import Derived.RowKit
import Derived.Test.YtigldoicijfhoaaPx
import Derived.Test.YtigldoicijfhoaaWWords
import Derived.Test.YtigldoicijfhoaaWLast
import Derived.Test.YtigldoicijfhoaaWTab
import Derived.Test.YtigldoicijfhoaaWFour
import Derived.Test.YtigldoicijfhoaaWQPut
import Derived.Test.YtigldoicijfhoaaWApart
import Derived.Test.YtigldoicijfhoaaWArr
import Derived.Test.YtigldoicijfhoaaWZeros
import Derived.Test.YtigldoicijfhoaaWFoot
import Derived.Test.YtigldoicijfhoaaWKept
import Derived.Test.YtigldoicijfhoaaWShare
import Derived.Test.YtigldoicijfhoaaWN
import Derived.Test.YtigldoicijfhoaaWFootNe
import Derived.Test.YtigldoicijfhoaaWAt
import Derived.Test.YtigldoicijfhoaaWEqStruct
import Derived.Test.YtigldoicijfhoaaWRepsOne
import Derived.Test.YtigldoicijfhoaaWInv
import Derived.Test.YtigldoicijfhoaaWInvWords
import Derived.Test.YtigldoicijfhoaaWGuard
import Derived.Test.YtigldoicijfhoaaWNEv
import Derived.Test.YtigldoicijfhoaaWMore
namespace Go.Proofs.Ytigldoicijfhoaa.XA
open Go.RowKit Go.Proofs.YtigldoicijfhoaaW.PrintWords Go.Proofs.YtigldoicijfhoaaW.PrintLast Go.Proofs.YtigldoicijfhoaaW.PrintMore
attribute [local go_sem] max2_int min2_int max_two min_two max_three min_three max_four min_four   -- for this text's walks alone
attribute [local go_sem] fldF0 fldF1
set_option linter.unusedVariables false
set_option linter.unusedSimpArgs false



def errW : Option Int → Value
  | none => .nilIface
  | some c => .iface 0 (.int .i64 c)
theorem errW_none : errW none = .nilIface := rfl
theorem errW_some (c : Int) : errW (some c) = .iface 0 (.int .i64 c) := rfl

theorem info9 : (Try.prog.info? 9).map (fun i => (i.zero, i.size, i.bytes)) = some (some (.string ⟨#[]⟩), 1, 16) := by kernel_rfl
-- the values' own types

end Go.Proofs.Ytigldoicijfhoaa.XA
