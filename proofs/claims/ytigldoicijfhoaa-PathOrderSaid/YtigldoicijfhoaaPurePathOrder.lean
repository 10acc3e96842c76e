/- PathOrder, over numbers and texts alone: the order is one. No condition. -/
import Derived.Test.YtigldoicijfhoaaQa
namespace Go.Proofs.Ytigldoicijfhoaa.Pure
open Go.RowKit Go.Proofs.Ytigldoicijfhoaa Go.Proofs.Ytigldoicijfhoaa.H Go.Proofs.Ytigldoicijfhoaa.XB Go.Proofs.YtigldoicijfhoaaW.PrintWords Go.Proofs.YtigldoicijfhoaaW.PrintLast

theorem PathOrder : satchellaw07_PathOrder.Pure := by
  intro a b c _ _ _
  refine ⟨3000, ?_⟩
  have hbig : satchellaw07_PathOrder.j0 3000 a b c true true = some true := by
    rw [show (3000 : Nat) = 2999 + 1 from rfl, satchellaw07_PathOrder.j0, if_pos rfl]
  unfold satchellaw07_PathOrder.f
  rw [known_is]
  simp only [Option.bind_some]
  by_cases ha : (a.size : Int) > 300
  · rw [if_pos ha]; exact hbig
  rw [if_neg ha]
  by_cases hb : (b.size : Int) > 300
  · rw [if_pos hb]; exact hbig
  rw [if_neg hb]
  by_cases hc : (c.size : Int) > 300
  · rw [decide_eq_true hc]; exact hbig
  rw [decide_eq_false hc, show (3000 : Nat) = 2999 + 1 from rfl, satchellaw07_PathOrder.j0, if_neg (by simp), compare_is 2999 a b (by omega) (by omega) (by omega), compare_is 2999 b c (by omega) (by omega) (by omega),
    compare_is 2999 a c (by omega) (by omega) (by omega), compare_is 2999 b a (by omega) (by omega) (by omega)]
  simp only [Option.bind_some, list_eq]
  generalize a.data.toList = x
  generalize b.data.toList = y
  generalize c.data.toList = z
  have h1 := cmpP_law.anti x y
  have h2 := cmpP_law.rng x y; have h3 := cmpP_law.rng y x; have h4 := cmpP_law.rng y z; have h5 := cmpP_law.rng x z
  have h6 := cmpP_law.eq x y
  have h7 := cmpP_law.tr x y z
  have h8 := cmpP_law.tr z y x
  have h9 := cmpP_law.anti y z; have h10 := cmpP_law.anti x z
  have he : ((cmpP x y == 0) != (x == y)) = false := by
    by_cases e : x = y
    · have h0 := h6.2 e
      rw [h0, e]; simp
    · have : ¬ cmpP x y = 0 := fun h => e (h6.1 h)
      rw [beq_eq_false_iff_ne.2 this, beq_eq_false_iff_ne.2 e]; rfl
  rw [wrap_in (by omega) (by omega), if_pos h1, if_neg (by rw [he]; simp), if_neg (by omega), if_neg (by omega), if_pos trivial]
  repeat' split
  all_goals first | rfl | (exfalso; omega) | (congr 1; rw [decide_eq_true_eq]; omega)
end Go.Proofs.Ytigldoicijfhoaa.Pure
