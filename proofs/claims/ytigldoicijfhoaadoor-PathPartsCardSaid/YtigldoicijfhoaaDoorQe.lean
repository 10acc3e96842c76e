/- The reference's Parts, Parent, Base as the plain law has them. Conditions: none. -/
import Derived.Test.YtigldoicijfhoaaDoorQd
namespace Go.Proofs.YtigldoicijfhoaaDoor.H
open Go.RowKit Go.Proofs.YtigldoicijfhoaaDoor Go.Proofs.YtigldoicijfhoaaDoor.XB Go.Proofs.YtigldoicijfhoaaDoorW.PrintWords Go.Proofs.YtigldoicijfhoaaDoorW.PrintLast

theorem rparts_is (a : ByteArray) : satchelref07_Parts.f a = some (if okP a.data.toList then (sp a.data.toList).map mkB else []) := by
  unfold satchelref07_Parts.f satchelref07_Valid.f satchelref07_split.f
  simp only [Option.bind_some]
  cases h : okP a.data.toList
  · rfl
  · have h2 := ((okP_iff _).1 h).2.1
    rw [← Lib.size_eq] at h2
    rw [if_pos rfl, if_pos (by omega), if_pos rfl]; rfl
theorem sp_last (s : Bs) : ∃ l x, sp s = l ++ [x] := ⟨(sp s).dropLast, (sp s).getLast (sp_ne s), (List.dropLast_concat_getLast (sp_ne s)).symm⟩
theorem ok_small {a : ByteArray} (h : okP a.data.toList = true) : a.size ≤ 200 ∧ (sp a.data.toList).length ≤ 201 := by
  have h2 := ((okP_iff _).1 h).2.1
  rw [← Lib.size_eq] at h2
  have h3 := sp_count a.data.toList
  have h4 := List.count_le_length (a := (47 : UInt8)) (l := a.data.toList)
  rw [← Lib.size_eq] at h4
  omega
theorem rd_last' (l : List Bs) (x : Bs) : rdOf ByteArray.empty (l.map mkB ++ [mkB x]) (l.length : Int) = mkB x := by
  have := rd_last (l.map mkB) (mkB x)
  rwa [List.length_map] at this
theorem rbase_is (a : ByteArray) : satchelref07_Base.f a = some (mkB (basE a.data.toList)) := by
  unfold satchelref07_Base.f
  rw [rparts_is]
  simp only [Option.bind_some]
  cases h : okP a.data.toList
  · have : basE a.data.toList = [] := by unfold basE; rw [h]; rfl
    rw [this]; rfl
  · obtain ⟨l, x, e⟩ := sp_last a.data.toList
    obtain ⟨h2, h3⟩ := ok_small h
    have hb : basE a.data.toList = x := by unfold basE; rw [h, if_pos rfl, e]; simp
    rw [e, List.length_append, List.length_singleton] at h3
    have hlen : ((l.map mkB ++ [mkB x]).length : Int) = (l.length : Int) + 1 := by simp
    have hw : wrap64 (((l.length : Int) + 1) - 1) = (l.length : Int) := by rw [wrap_in (by omega) (by omega)]; omega
    rw [hb, if_pos rfl, e, List.map_append, List.map_singleton, hlen, hw, rd_last', if_neg (by omega), if_pos (by omega), if_pos (by omega)]
theorem rparent_is (a : ByteArray) : satchelref07_Parent.f a = some (mkB (parE a.data.toList).1, (parE a.data.toList).2) := by
  unfold satchelref07_Parent.f
  rw [rparts_is]
  simp only [Option.bind_some]
  cases h : okP a.data.toList
  · have : parE a.data.toList = ([], false) := by unfold parE; rw [h]; simp
    rw [this]; rfl
  · obtain ⟨l, x, e⟩ := sp_last a.data.toList
    obtain ⟨h2, h3⟩ := ok_small h
    rw [e, List.length_append, List.length_singleton] at h3
    have hlen : ((l.map mkB ++ [mkB x]).length : Int) = (l.length : Int) + 1 := by simp
    have hw : wrap64 (((l.length : Int) + 1) - 1) = (l.length : Int) := by rw [wrap_in (by omega) (by omega)]; omega
    rw [if_pos rfl, e, List.map_append, List.map_singleton, hlen, hw, rd_last', mkB_size]
    by_cases hl : l = []
    · subst hl
      have : parE a.data.toList = ([], false) := by unfold parE; rw [e]; simp
      rw [this]; rfl
    · have hs : a.data.toList = jn l ++ 47 :: x := by
        have := jn_app hl (m := [x]) (by simp)
        rw [← jn_sp a.data.toList, e, this, jn_one]
      have hz : a.size = (jn l).length + 1 + x.length := by rw [Lib.size_eq, hs]; simp; omega
      have hpos : 0 < l.length := List.length_pos_iff.2 hl
      have hw2 : wrap64 (wrap64 ((a.size : Int) - (x.length : Int)) - 1) = ((jn l).length : Int) := by
        rw [wrap_in (x := (a.size : Int) - (x.length : Int)) (by omega) (by omega), wrap_in (by omega) (by omega)]; omega
      rw [if_neg (by omega), if_pos (by omega), if_pos (by omega), hw2, if_pos (by omega), if_pos (by omega), parE_of h hl e]
      congr 2
      rw [← mkB_of (a.extract 0 _), Lib.extract_data]
      congr 1
      rw [hs]
      simp
end Go.Proofs.YtigldoicijfhoaaDoor.H
