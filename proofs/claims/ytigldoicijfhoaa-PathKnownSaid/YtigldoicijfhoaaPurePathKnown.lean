/- PathKnown, over numbers and texts alone: the chapter's examples. No condition. -/
import Derived.Test.YtigldoicijfhoaaQa
namespace Go.Proofs.Ytigldoicijfhoaa.Pure
open Go.RowKit Go.Proofs.Ytigldoicijfhoaa Go.Proofs.Ytigldoicijfhoaa.H Go.Proofs.Ytigldoicijfhoaa.XB Go.Proofs.YtigldoicijfhoaaW.PrintWords Go.Proofs.YtigldoicijfhoaaW.PrintLast

theorem PathKnown : satchellaw07_PathKnown.Pure := ⟨3000, known_is⟩
end Go.Proofs.Ytigldoicijfhoaa.Pure
