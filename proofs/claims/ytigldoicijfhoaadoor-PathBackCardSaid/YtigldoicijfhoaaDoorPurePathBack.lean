/- PathBack, over numbers and texts alone: parts joined one by one are the path. No condition. -/
import Derived.Test.YtigldoicijfhoaaDoorQd
namespace Go.Proofs.YtigldoicijfhoaaDoor.Pure
open Go.RowKit Go.Proofs.YtigldoicijfhoaaDoor Go.Proofs.YtigldoicijfhoaaDoor.H Go.Proofs.YtigldoicijfhoaaDoor.XB Go.Proofs.YtigldoicijfhoaaDoorW.PrintWords Go.Proofs.YtigldoicijfhoaaDoorW.PrintLast

theorem PathBack : satchellaw07_PathBack.Pure := by
  intro a b _ _
  refine ⟨200, ?_⟩
  have hbig : satchellaw07_PathBack.j0 200 a b true true = some true := by
    rw [show (200 : Nat) = 199 + 1 from rfl, satchellaw07_PathBack.j0, if_pos rfl]
  unfold satchellaw07_PathBack.f
  rw [awake_is]
  simp only [Option.bind_some]
  by_cases ha : (a.size : Int) > 300
  · rw [if_pos ha]; exact hbig
  rw [if_neg ha]
  by_cases hb : (b.size : Int) > 300
  · rw [decide_eq_true hb]; exact hbig
  rw [decide_eq_false hb]
  have la := Lib.size_eq a; have lb := Lib.size_eq b
  have J1 : satchellaw07_PathBack.j1 199 a true = some true := by
    rw [show (199 : Nat) = 198 + 1 from rfl]
    simp only [satchellaw07_PathBack.j1]
    rw [parts_is, lvalid_is, parent_is a (by omega), base_is a (by omega)]
    simp only [Option.bind_some]
    cases hv : okP a.data.toList
    · have hbs : basE a.data.toList = [] := by unfold basE; rw [hv]; rfl
      simp [hbs]
    · rw [if_pos rfl, if_pos rfl]
      have l1 : (sp a.data.toList).length ≤ 20 := ((okP_iff _).1 hv).2.2.1
      have := back_l0 a (by omega) hv (sp a.data.toList).length 198 0 (by omega) (by omega)
      simpa [jn, mkB] using this
  rw [show (200 : Nat) = 199 + 1 from rfl]
  simp only [satchellaw07_PathBack.j0]
  rw [if_neg (by simp), join_is 199 a b (by omega) (by omega) (by omega)]
  simp only [Option.bind_some]
  by_cases h0 : (joinE a.data.toList b.data.toList).2 = 0
  · obtain ⟨h1, h2, h3, h4⟩ := join_back a.data.toList b.data.toList h0
    have hsz : (mkB (joinE a.data.toList b.data.toList).1).size ≤ 1000000 := by
      have := ((okP_iff _).1 h4).2.1
      rw [mkB_size]; omega
    rw [if_pos h0, parent_is _ hsz, base_is _ hsz, lvalid_is]
    simp only [Option.bind_some, mkB_list, mkB_toList, list_eq]
    rw [h1, h2, h3, h4, if_pos rfl, if_pos rfl, if_pos rfl, J1]
    have : ¬ ((decide (a.data.toList ≠ []) != (a.data.toList != [])) = true) := by
      by_cases e : a.data.toList = [] <;> simp [e]
    rw [if_neg this]
  · rw [if_neg h0]; exact J1
end Go.Proofs.YtigldoicijfhoaaDoor.Pure
