-- Written by this claim's own program xprint.py (the kit's printer with contracts of this claim's own).
import Derived.Test.YtigldoicijfhoaaDoorProg
import Derived.Below
import Derived.Deep.Draws
import Derived.Deep.AppendLies
import Derived.Maps.AppendAt
import Derived.OwnWalk
import Derived.Laws.BytesArg
import Derived.Laws.MakeOwn
import Derived.Laws.OwnMore
import Derived.Deep.OwnRows
import Derived.Tactics
import Derived.Lib.ConvBytes
import Derived.Laws.Slices
import Derived.WalkKit
import Derived.KernelRfl
import Derived.RowKit3
import Derived.Deep.LoopGhost
import Derived.Deep.QuietTactic
import Derived.BigQuiet
import Derived.WideLaws
import Derived.Deep.DeepCutAuto
import Derived.Deep.CutBlock
import Derived.Deep.RegionHeld3
import Derived.Laws.Rows
import Derived.Lib.AppendStr
import Derived.ArgAppend
import Derived.Laws.IdiomCopy
import Derived.OrdersHeld
import Derived.Laws.BitsLemmas
import Derived.RowKit
import Derived.Test.YtigldoicijfhoaaDoorPx
import Derived.Test.YtigldoicijfhoaaDoorWWords
import Derived.Test.YtigldoicijfhoaaDoorWLast
import Derived.Test.YtigldoicijfhoaaDoorWTab
import Derived.Test.YtigldoicijfhoaaDoorWFour
import Derived.Test.YtigldoicijfhoaaDoorWQPut
import Derived.Test.YtigldoicijfhoaaDoorWApart
import Derived.Test.YtigldoicijfhoaaDoorWArr
import Derived.Test.YtigldoicijfhoaaDoorWZeros
import Derived.Test.YtigldoicijfhoaaDoorWFoot
import Derived.Test.YtigldoicijfhoaaDoorWKept
import Derived.Test.YtigldoicijfhoaaDoorWShare
import Derived.Test.YtigldoicijfhoaaDoorWN
import Derived.Test.YtigldoicijfhoaaDoorWFootNe
import Derived.Test.YtigldoicijfhoaaDoorWAt
import Derived.Test.YtigldoicijfhoaaDoorWEqStruct
import Derived.Test.YtigldoicijfhoaaDoorWRepsOne
import Derived.Test.YtigldoicijfhoaaDoorWInv
import Derived.Test.YtigldoicijfhoaaDoorWInvWords
import Derived.Test.YtigldoicijfhoaaDoorWGuard
import Derived.Test.YtigldoicijfhoaaDoorWNEv
import Derived.Test.YtigldoicijfhoaaDoorWMore
namespace Go.Proofs.YtigldoicijfhoaaDoor.XA
open Go.RowKit Go.Proofs.YtigldoicijfhoaaDoorW.PrintWords Go.Proofs.YtigldoicijfhoaaDoorW.PrintLast Go.Proofs.YtigldoicijfhoaaDoorW.PrintMore
attribute [local go_sem] max2_int min2_int max_two min_two max_three min_three max_four min_four   -- for this text's walks alone
attribute [local go_sem] fldF0 fldF1
set_option linter.unusedVariables false
set_option linter.unusedSimpArgs false



def errW : Option Int → Value
  | none => .nilIface
  | some c => .iface 0 (.int .i64 c)
theorem errW_none : errW none = .nilIface := rfl
theorem errW_some (c : Int) : errW (some c) = .iface 0 (.int .i64 c) := rfl

theorem info9 : (Tryd.prog.info? 9).map (fun i => (i.zero, i.size, i.bytes)) = some (some (.string ⟨#[]⟩), 1, 16) := by kernel_rfl
-- the values' own types

end Go.Proofs.YtigldoicijfhoaaDoor.XA
