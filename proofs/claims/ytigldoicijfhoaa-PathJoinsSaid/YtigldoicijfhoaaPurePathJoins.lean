/- PathJoins, over numbers and texts alone: the program's join is the reference's. No condition. -/
import Derived.Test.YtigldoicijfhoaaQa
namespace Go.Proofs.Ytigldoicijfhoaa.Pure
open Go.RowKit Go.Proofs.Ytigldoicijfhoaa Go.Proofs.Ytigldoicijfhoaa.H Go.Proofs.Ytigldoicijfhoaa.XB Go.Proofs.YtigldoicijfhoaaW.PrintWords Go.Proofs.YtigldoicijfhoaaW.PrintLast

theorem PathJoins : satchellaw07_PathJoins.Pure := by
  intro a b _ _
  refine ⟨3001, ?_⟩
  have hbig : satchellaw07_PathJoins.j0 3001 a b true = some true := by
    rw [show (3001 : Nat) = 3000 + 1 from rfl, satchellaw07_PathJoins.j0, if_pos rfl, awake_is]; rfl
  unfold satchellaw07_PathJoins.f
  by_cases ha : (a.size : Int) > 400
  · rw [if_pos ha]; exact hbig
  rw [if_neg ha]
  by_cases hb : (b.size : Int) > 400
  · rw [decide_eq_true hb]; exact hbig
  rw [decide_eq_false hb, show (3001 : Nat) = 3000 + 1 from rfl, satchellaw07_PathJoins.j0, if_neg (by simp), join_is 3000 a b (by omega) (by omega) (by omega), rjoin_is 3000 a b (by omega) (by omega) (by omega), awake_is]
  simp
end Go.Proofs.Ytigldoicijfhoaa.Pure
