/- The printed functions of paths, as the plain law has them. Conditions: texts of at most 10^6 bytes. -/
import Derived.Test.YtigldoicijfhoaaDoorPc
import Derived.Test.YtigldoicijfhoaaDoorXB
import Derived.Test.YtigldoicijfhoaaDoorDa
namespace Go.Proofs.YtigldoicijfhoaaDoor.H
open Go.RowKit Go.Proofs.YtigldoicijfhoaaDoor Go.Proofs.YtigldoicijfhoaaDoor.XB Go.Proofs.YtigldoicijfhoaaDoorW.PrintWords Go.Proofs.YtigldoicijfhoaaDoorW.PrintLast

theorem valid_is (a : ByteArray) : path_valid.f a = some (okP a.data.toList) := by
  unfold path_valid.f path_Check.f okP
  by_cases h : (chk a.data.toList).1 = 0 <;> simp [h]
theorem lvalid_is (a : ByteArray) : satchellaw07_valid.f a = some (okP a.data.toList) := valid_is a
theorem compare_is (k : Nat) (a b : ByteArray) (ha : a.size ≤ 1000000) (hb : b.size ≤ 1000000) (hk : 1 ≤ k) : path_Compare.f k a b = some (cmpP a.data.toList b.data.toList) := by
  obtain ⟨k, rfl⟩ : ∃ m, k = m + 1 := ⟨k - 1, by omega⟩
  unfold path_Compare.f cmpP
  rw [valid_is, valid_is]
  simp only [Option.bind_some, path_Compare.j0, path_order.f, cmp_Compare_string.f]
  cases okP a.data.toList <;> cases okP b.data.toList <;> simp [ha, hb]
theorem app_list (a b : ByteArray) : (a ++ b).data.toList = a.data.toList ++ b.data.toList := by
  rw [ByteArray.data_append, Array.toList_append]
theorem prefix_is (a b : ByteArray) : strings_HasPrefix.f a b = some (b.data.toList.isPrefixOf a.data.toList) := by
  unfold strings_HasPrefix.f stringslite_HasPrefix.f
  have ea := Lib.size_eq a; have eb := Lib.size_eq b
  by_cases h : b.size ≤ a.size
  · rw [if_pos (by omega), if_pos (by omega), if_pos (by omega)]
    simp only [Option.bind_some, Option.some.injEq]
    rw [list_eq, list_eq, Lib.extract_data, Bool.eq_iff_iff, List.isPrefixOf_iff_prefix, beq_iff_eq]
    simp only [Int.toNat_natCast, List.drop_zero, Nat.sub_zero]
    rw [eb, List.prefix_iff_eq_take]
    exact eq_comm
  · rw [if_neg (by omega)]
    simp only [Option.bind_some, Option.some.injEq]
    symm
    rw [Bool.eq_false_iff]
    intro hp
    have := (List.isPrefixOf_iff_prefix.1 hp).length_le
    omega
theorem under_is (a b : ByteArray) (hb : b.size ≤ 1000000) : path_Under.f a b = some (undE a.data.toList b.data.toList) := by
  unfold path_Under.f undE
  rw [valid_is, valid_is]
  simp only [Option.bind_some]
  cases okP a.data.toList <;> cases okP b.data.toList <;> simp
  exact ⟨by omega, by rw [prefix_is, app_list]⟩
theorem rjoin_same (d p : Bs) : (47 ∈ p ∨ (partE p).1 ≠ 0) ↔ (stepE p).1 ≠ 0 := by
  by_cases h : 47 ∈ p
  · simp only [h, true_or, true_iff]
    intro e
    exact step_no e h
  · rw [part_same h]; simp [h]
theorem join_is (k : Nat) (a b : ByteArray) (ha : a.size ≤ 1000000) (hb : b.size ≤ 1000000) (hk : 1 ≤ k) : path_Join.f k a b = some (mkB (joinE a.data.toList b.data.toList).1, (joinE a.data.toList b.data.toList).2) := by
  obtain ⟨k, rfl⟩ : ∃ m, k = m + 1 := ⟨k - 1, by omega⟩
  unfold path_Join.f joinE path_step.f
  rw [if_pos (by omega), valid_is]
  have hl : ((a ++ (⟨#[47]⟩ : ByteArray)) ++ b).data.toList = a.data.toList ++ 47 :: b.data.toList := by rw [app_list, app_list]; simp
  have hm : (a ++ (⟨#[47]⟩ : ByteArray)) ++ b = mkB (a.data.toList ++ 47 :: b.data.toList) := by rw [← hl, mkB_of]
  have hs : (a ++ (⟨#[47]⟩ : ByteArray)).size = a.size + 1 := by rw [ByteArray.size_append]; rfl
  simp only [Option.bind_some, path_Join.j0, list_eq]
  rw [hs, valid_is, hl, hm]
  by_cases h1 : (stepE b.data.toList).1 = 0
  · by_cases h2 : a.data.toList = []
    · simp [h1, h2, mkB_of]
    · cases h3 : okP a.data.toList
      · simp [h1, h2, mkB]
      · simp only [h1, h2, if_true, if_false]
        simp only [ne_eq, not_true_eq_false, Bool.true_eq_false, and_false, or_false, if_false, Bool.not_true, Option.bind_some]
        rw [if_neg (by simp), if_pos (by omega), if_pos (by omega)]
        cases okP (a.data.toList ++ 47 :: b.data.toList) <;> simp [mkB]
  · simp [h1, mkB]
theorem last_split (a : ByteArray) : (Lib.lastIndexByte a 47 = -1 ∧ 47 ∉ a.data.toList) ∨ (∃ i : Nat, Lib.lastIndexByte a 47 = i ∧ i < a.size ∧ a.data.toList = a.data.toList.take i ++ 47 :: a.data.toList.drop (i + 1) ∧ 47 ∉ a.data.toList.drop (i + 1)) := by
  have hg : ∀ j, j < a.size → a.data[j]! = a.data.toList.getD j 0 := fun j hj => by
    have : j < a.data.toList.length := by rw [← Lib.size_eq]; exact hj
    rw [List.getD_eq_getElem?_getD, List.getElem?_eq_getElem this]
    have h2 : j < a.data.size := by simpa using this
    simp only [List.getD, Option.getD_some]
    exact getElem!_pos a.data j h2
  have h47 : ∀ c : UInt8, ((c.toNat : Int) = 47) ↔ c = 47 := fun c => by
    constructor
    · intro h
      apply UInt8.toNat_inj.1
      have : c.toNat = 47 := by omega
      rw [this]; rfl
    · rintro rfl; rfl
  have hs := Lib.size_eq a
  rcases Lib.lastIndexByte_spec a 47 with ⟨h1, h2⟩ | ⟨i, h1, h2, h3, h4⟩
  · refine .inl ⟨h1, fun hm => ?_⟩
    obtain ⟨j, hj, e⟩ := List.getElem_of_mem hm
    refine h2 j (by omega) ?_
    rw [hg j (by omega), h47, List.getD_eq_getElem?_getD, List.getElem?_eq_getElem hj, e]; rfl
  · have hi : i < a.data.toList.length := by omega
    refine .inr ⟨i, h2, h1, ?_, fun hm => ?_⟩
    · have h5 := h3
      rw [hg i h1, h47, List.getD_eq_getElem?_getD, List.getElem?_eq_getElem hi] at h5
      simp only [Option.getD_some] at h5
      have e := List.take_append_drop i a.data.toList
      rw [List.drop_eq_getElem_cons hi, h5] at e
      exact e.symm
    · obtain ⟨j, hj, e⟩ := List.getElem_of_mem hm
      simp only [List.length_drop] at hj
      rw [List.getElem_drop] at e
      refine h4 (i + 1 + j) (by omega) (by omega) ?_
      rw [hg _ (by omega), h47, List.getD_eq_getElem?_getD, List.getElem?_eq_getElem (by omega), e]; rfl
theorem parent_is (a : ByteArray) (ha : a.size ≤ 1000000) : path_Parent.f a = some (mkB (parE a.data.toList).1, (parE a.data.toList).2) := by
  unfold path_Parent.f strings_LastIndexByte.f
  rw [if_pos (by omega), valid_is]
  simp only [Option.bind_some]
  rcases last_split a with ⟨h1, h2⟩ | ⟨i, h1, h2, h3, h4⟩
  · rw [h1]
    have : parE a.data.toList = ([], false) := by
      unfold parE
      rw [if_neg]
      rw [sp_no h2]; simp
    rw [this]; rfl
  · rw [h1, if_neg (by omega)]
    have e := sp_join (a.data.toList.take i) (a.data.toList.drop (i + 1))
    rw [← h3, sp_no h4] at e
    cases h5 : okP a.data.toList
    · have : parE a.data.toList = ([], false) := by unfold parE; rw [h5]; simp
      rw [this]; simp [mkB]
    · rw [parE_of h5 (sp_ne _) e, jn_sp]
      rw [if_pos rfl, if_pos (by omega), if_pos (by omega)]
      congr 2
      rw [← mkB_of (a.extract 0 _), Lib.extract_data]; simp
theorem base_is (a : ByteArray) (ha : a.size ≤ 1000000) : path_Base.f a = some (mkB (basE a.data.toList)) := by
  unfold path_Base.f strings_LastIndexByte.f
  rw [if_pos (by omega), valid_is]
  simp only [Option.bind_some]
  cases h5 : okP a.data.toList
  · have : basE a.data.toList = [] := by unfold basE; rw [h5]; rfl
    rw [this]; rfl
  · have hb : basE a.data.toList = (sp a.data.toList).getLastD [] := by unfold basE; rw [h5]; rfl
    rw [hb, if_pos rfl]
    rcases last_split a with ⟨h1, h2⟩ | ⟨i, h1, h2, h3, h4⟩
    · have hw : wrap64 (Lib.lastIndexByte a 47 + 1) = 0 := by rw [h1, wrap_in (by omega) (by omega)]; omega
      rw [hw, if_pos (by omega), if_pos (by omega), sp_no h2]
      congr 1
      rw [← mkB_of (a.extract _ _), Lib.extract_data]
      congr 1
      simp only [Int.toNat_zero, List.drop_zero, Nat.sub_zero, List.getLastD]
      rw [Lib.size_eq, List.take_length]
      rfl
    · have hw : wrap64 (Lib.lastIndexByte a 47 + 1) = ((i + 1 : Nat) : Int) := by rw [h1, wrap_in (by omega) (by omega)]; omega
      have e := sp_join (a.data.toList.take i) (a.data.toList.drop (i + 1))
      rw [← h3, sp_no h4] at e
      rw [hw, if_pos (by omega), if_pos (by omega), e]
      congr 1
      rw [← mkB_of (a.extract _ _), Lib.extract_data]
      congr 1
      rw [List.getLastD_concat]
      apply List.take_of_length_le
      rw [Lib.size_eq]
      simp


/-! ### The laws' own -/
theorem awake_is : satchellaw07_awake.f 200 = some true := by kernel_rfl
theorem parts_is (a : ByteArray) : path_Parts.f a = some (if okP a.data.toList then (sp a.data.toList).map mkB else []) := by
  unfold path_Parts.f strings_Split.f
  rw [valid_is]
  simp only [Option.bind_some]
  cases h : okP a.data.toList
  · rfl
  · have h2 := ((okP_iff _).1 h).2.1
    rw [← Lib.size_eq] at h2
    rw [if_pos rfl, if_pos ⟨trivial, by omega⟩, if_pos rfl]; rfl
theorem same_l0 (l : List ByteArray) (hl : l.length ≤ 1000000) : ∀ (d k j : Nat), j + d = l.length → d < k → satchelkit_SameTexts.l0 k l l (j : Int) = some true := by
  intro d
  induction d with
  | zero =>
    intro k j hj hk
    obtain ⟨k, rfl⟩ : ∃ m, k = m + 1 := ⟨k - 1, by omega⟩
    simp only [satchelkit_SameTexts.l0]
    rw [if_neg (by omega)]
  | succ d ih =>
    intro k j hj hk
    obtain ⟨k, rfl⟩ : ∃ m, k = m + 1 := ⟨k - 1, by omega⟩
    simp only [satchelkit_SameTexts.l0]
    rw [if_pos (by omega), if_pos (by omega), if_pos (by omega), if_pos trivial, wrap_in (by omega) (by omega)]
    exact ih k (j + 1) (by omega) (by omega)
theorem same_is (k : Nat) (l : List ByteArray) (hl : l.length ≤ 1000000) (hk : l.length < k) : satchelkit_SameTexts.f k l l = some true := by
  unfold satchelkit_SameTexts.f
  rw [if_pos rfl]
  exact same_l0 l hl l.length k 0 (by omega) hk
theorem joins_is (k : Nat) (a b c : ByteArray) (ha : a.size ≤ 1000000) (hb : b.size ≤ 1000000) (hk : 1 ≤ k) (h : joinE a.data.toList b.data.toList = (c.data.toList, 0)) : satchellaw07_joins.f k a b c = some true := by
  unfold satchellaw07_joins.f
  rw [join_is k a b ha hb hk, h]
  simp only [Option.bind_some, mkB_toList, list_eq]
  simp
theorem jn_inter (l : List Bs) : Lib.join l [47] = jn l := by
  unfold Lib.join
  induction l with
  | nil => rfl
  | cons p q ih =>
    rcases q with _ | ⟨p', q⟩
    · simp [List.intercalate, jn]
    · rw [jn_cons p (by simp), ← ih]
      simp [List.intercalate, List.intersperse]
/-- The parts, joined one by one. -/
theorem back_l0 (a : ByteArray) (ha : a.size ≤ 300) (hv : okP a.data.toList = true) : ∀ (d k j : Nat), j + d = (sp a.data.toList).length → d + 100 < k →
    satchellaw07_PathBack.l0 k a true ((sp a.data.toList).map mkB) (mkB (parE a.data.toList).1) (mkB (jn ((sp a.data.toList).take j))) (j : Int) = some true := by
  have l1 : (sp a.data.toList).length ≤ 20 := ((okP_iff _).1 hv).2.2.1
  have hsz := Lib.size_eq a
  intro d
  induction d with
  | zero =>
    intro k j hj hk
    obtain ⟨k, rfl⟩ : ∃ m, k = m + 1 := ⟨k - 1, by omega⟩
    obtain rfl : j = (sp a.data.toList).length := by omega
    have hall : mkB (jn ((sp a.data.toList).take (sp a.data.toList).length)) = a := by rw [List.take_length, jn_sp, mkB_of]
    have hbl : (mkB (basE a.data.toList)).size ≤ 1000000 ∧ (mkB (parE a.data.toList).1).size ≤ 1000000 := by
      have e := join_base hv
      have h1 : (basE a.data.toList).length ≤ a.data.toList.length ∧ (parE a.data.toList).1.length ≤ a.data.toList.length := by
        unfold joinE at e
        split at e
        · exact absurd (congrArg Prod.snd e) (by simp)
        · split at e
          · rename_i h3
            have := congrArg Prod.fst e
            simp at this
            rw [this, h3]; simp
          · split at e
            · have := congrArg (fun x => x.1.length) e
              simp at this; omega
            · exact absurd (congrArg Prod.snd e) (by simp)
      simp only [mkB_size]; omega
    rw [hall]
    simp only [satchellaw07_PathBack.l0, List.length_map]
    rw [if_neg (by omega), if_pos trivial, if_pos trivial, base_is a (by omega)]
    simp only [Option.bind_some]
    rw [joins_is k (mkB (parE a.data.toList).1) (mkB (basE a.data.toList)) a hbl.2 hbl.1 (by omega) (by rw [mkB_list, mkB_list]; exact join_base hv)]
    simp only [Option.bind_some]
    rw [if_pos trivial, parts_is, hv]
    simp only [Option.bind_some, if_true]
    rw [same_is k _ (by rw [List.length_map]; omega) (by rw [List.length_map]; omega)]
    simp only [Option.bind_some, if_true]
    have hjl : (List.map (fun x : ByteArray => x.data.toList) (List.map mkB (sp a.data.toList))) = sp a.data.toList := by
      rw [List.map_map]
      have : ((fun x : ByteArray => x.data.toList) ∘ mkB) = id := by funext x; exact mkB_list x
      rw [this, List.map_id]
    have h47 : (⟨#[47]⟩ : ByteArray).data.toList = [47] := rfl
    unfold strings_Join.f
    rw [hjl, h47, jn_inter, jn_sp, if_pos ⟨by rw [List.length_map]; omega, by rw [← hsz]; omega⟩]
    have : (⟨a.data.toList.toArray⟩ : ByteArray) = a := mkB_of a
    simp [this]
  | succ d ih =>
    intro k j hj hk
    obtain ⟨k, rfl⟩ : ∃ m, k = m + 1 := ⟨k - 1, by omega⟩
    have hjl : j < (sp a.data.toList).length := by omega
    have hrd : rdOf ByteArray.empty ((sp a.data.toList).map mkB) (j : Int) = mkB (sp a.data.toList)[j] := by simp [rdOf, hjl]
    have e : sp a.data.toList = (sp a.data.toList).take j ++ (sp a.data.toList)[j] :: (sp a.data.toList).drop (j + 1) := by
      rw [List.getElem_cons_drop]; simp
    have hj2 := join_part hv e
    have htk : (sp a.data.toList).take j ++ [(sp a.data.toList)[j]] = (sp a.data.toList).take (j + 1) := (List.take_succ_eq_append_getElem hjl).symm
    rw [htk] at hj2
    have hlen : (jn ((sp a.data.toList).take j)).length ≤ 1000000 ∧ ((sp a.data.toList)[j]).length ≤ 1000000 := by
      have h1 := congrArg jn e
      rw [jn_sp] at h1
      have hpart : ((sp a.data.toList)[j]).length ≤ 60 := (stepE_zero.1 (((okP_iff _).1 hv).2.2.2 (sp a.data.toList)[j] (List.getElem_mem hjl))).2.2
      refine ⟨?_, by omega⟩
      rcases ht : (sp a.data.toList).take j with _ | ⟨x, y⟩
      · simp [jn]
      · rw [ht, jn_app (List.cons_ne_nil _ _) (List.cons_ne_nil _ _)] at h1
        have := congrArg List.length h1
        rw [List.length_append] at this
        omega
    simp only [satchellaw07_PathBack.l0, List.length_map]
    rw [if_pos (by omega), if_pos (by omega), hrd, join_is k _ _ (by rw [mkB_size]; omega) (by rw [mkB_size]; omega) (by omega)]
    simp only [Option.bind_some, mkB_list]
    rw [hj2, if_pos rfl, wrap_in (by omega) (by omega)]
    exact ih k (j + 1) (by omega) (by omega)
end Go.Proofs.YtigldoicijfhoaaDoor.H
