/- The printed functions of paths, as the plain law has them. Conditions: texts of at most 10^6 bytes. -/
import Derived.Test.YtigldoicijfhoaaPc
import Derived.Test.YtigldoicijfhoaaXB
namespace Go.Proofs.Ytigldoicijfhoaa.H
open Go.RowKit Go.Proofs.Ytigldoicijfhoaa Go.Proofs.Ytigldoicijfhoaa.XB Go.Proofs.YtigldoicijfhoaaW.PrintWords Go.Proofs.YtigldoicijfhoaaW.PrintLast

theorem valid_is (a : ByteArray) : path_valid.f a = some (okP a.data.toList) := by
  unfold path_valid.f path_Check.f okP
  by_cases h : (chk a.data.toList).1 = 0 <;> simp [h]
theorem lvalid_is (a : ByteArray) : satchellaw07_valid.f a = some (okP a.data.toList) := valid_is a
theorem compare_is (k : Nat) (a b : ByteArray) (ha : a.size ≤ 1000000) (hb : b.size ≤ 1000000) (hk : 1 ≤ k) : path_Compare.f k a b = some (cmpP a.data.toList b.data.toList) := by
  obtain ⟨k, rfl⟩ : ∃ m, k = m + 1 := ⟨k - 1, by omega⟩
  unfold path_Compare.f cmpP
  rw [valid_is, valid_is]
  simp only [Option.bind_some, path_Compare.j0, path_order.f, cmp_Compare_string.f]
  cases okP a.data.toList <;> cases okP b.data.toList <;> simp [ha, hb]
theorem app_list (a b : ByteArray) : (a ++ b).data.toList = a.data.toList ++ b.data.toList := by
  rw [ByteArray.data_append, Array.toList_append]
theorem prefix_is (a b : ByteArray) : strings_HasPrefix.f a b = some (b.data.toList.isPrefixOf a.data.toList) := by
  unfold strings_HasPrefix.f stringslite_HasPrefix.f
  have ea := Lib.size_eq a; have eb := Lib.size_eq b
  by_cases h : b.size ≤ a.size
  · rw [if_pos (by omega), if_pos (by omega), if_pos (by omega)]
    simp only [Option.bind_some, Option.some.injEq]
    rw [list_eq, list_eq, Lib.extract_data, Bool.eq_iff_iff, List.isPrefixOf_iff_prefix, beq_iff_eq]
    simp only [Int.toNat_natCast, List.drop_zero, Nat.sub_zero]
    rw [eb, List.prefix_iff_eq_take]
    exact eq_comm
  · rw [if_neg (by omega)]
    simp only [Option.bind_some, Option.some.injEq]
    symm
    rw [Bool.eq_false_iff]
    intro hp
    have := (List.isPrefixOf_iff_prefix.1 hp).length_le
    omega
theorem under_is (a b : ByteArray) (hb : b.size ≤ 1000000) : path_Under.f a b = some (undE a.data.toList b.data.toList) := by
  unfold path_Under.f undE
  rw [valid_is, valid_is]
  simp only [Option.bind_some]
  cases okP a.data.toList <;> cases okP b.data.toList <;> simp
  exact ⟨by omega, by rw [prefix_is, app_list]⟩
theorem rjoin_same (d p : Bs) : (47 ∈ p ∨ (partE p).1 ≠ 0) ↔ (stepE p).1 ≠ 0 := by
  by_cases h : 47 ∈ p
  · simp only [h, true_or, true_iff]
    intro e
    exact step_no e h
  · rw [part_same h]; simp [h]
theorem join_is (k : Nat) (a b : ByteArray) (ha : a.size ≤ 1000000) (hb : b.size ≤ 1000000) (hk : 1 ≤ k) : path_Join.f k a b = some (mkB (joinE a.data.toList b.data.toList).1, (joinE a.data.toList b.data.toList).2) := by
  obtain ⟨k, rfl⟩ : ∃ m, k = m + 1 := ⟨k - 1, by omega⟩
  unfold path_Join.f joinE path_step.f
  rw [if_pos (by omega), valid_is]
  have hl : ((a ++ (⟨#[47]⟩ : ByteArray)) ++ b).data.toList = a.data.toList ++ 47 :: b.data.toList := by rw [app_list, app_list]; simp
  have hm : (a ++ (⟨#[47]⟩ : ByteArray)) ++ b = mkB (a.data.toList ++ 47 :: b.data.toList) := by rw [← hl, mkB_of]
  have hs : (a ++ (⟨#[47]⟩ : ByteArray)).size = a.size + 1 := by rw [ByteArray.size_append]; rfl
  simp only [Option.bind_some, path_Join.j0, list_eq]
  rw [hs, valid_is, hl, hm]
  by_cases h1 : (stepE b.data.toList).1 = 0
  · by_cases h2 : a.data.toList = []
    · simp [h1, h2, mkB_of]
    · cases h3 : okP a.data.toList
      · simp [h1, h2, mkB]
      · simp only [h1, h2, if_true, if_false]
        simp only [ne_eq, not_true_eq_false, Bool.true_eq_false, and_false, or_false, if_false, Bool.not_true, Option.bind_some]
        rw [if_neg (by simp), if_pos (by omega), if_pos (by omega)]
        cases okP (a.data.toList ++ 47 :: b.data.toList) <;> simp [mkB]
  · simp [h1, mkB]
theorem last_split (a : ByteArray) : (Lib.lastIndexByte a 47 = -1 ∧ 47 ∉ a.data.toList) ∨ (∃ i : Nat, Lib.lastIndexByte a 47 = i ∧ i < a.size ∧ a.data.toList = a.data.toList.take i ++ 47 :: a.data.toList.drop (i + 1) ∧ 47 ∉ a.data.toList.drop (i + 1)) := by
  have hg : ∀ j, j < a.size → a.data[j]! = a.data.toList.getD j 0 := fun j hj => by
    have : j < a.data.toList.length := by rw [← Lib.size_eq]; exact hj
    rw [List.getD_eq_getElem?_getD, List.getElem?_eq_getElem this]
    have h2 : j < a.data.size := by simpa using this
    simp only [List.getD, Option.getD_some]
    exact getElem!_pos a.data j h2
  have h47 : ∀ c : UInt8, ((c.toNat : Int) = 47) ↔ c = 47 := fun c => by
    constructor
    · intro h
      apply UInt8.toNat_inj.1
      have : c.toNat = 47 := by omega
      rw [this]; rfl
    · rintro rfl; rfl
  have hs := Lib.size_eq a
  rcases Lib.lastIndexByte_spec a 47 with ⟨h1, h2⟩ | ⟨i, h1, h2, h3, h4⟩
  · refine .inl ⟨h1, fun hm => ?_⟩
    obtain ⟨j, hj, e⟩ := List.getElem_of_mem hm
    refine h2 j (by omega) ?_
    rw [hg j (by omega), h47, List.getD_eq_getElem?_getD, List.getElem?_eq_getElem hj, e]; rfl
  · have hi : i < a.data.toList.length := by omega
    refine .inr ⟨i, h2, h1, ?_, fun hm => ?_⟩
    · have h5 := h3
      rw [hg i h1, h47, List.getD_eq_getElem?_getD, List.getElem?_eq_getElem hi] at h5
      simp only [Option.getD_some] at h5
      have e := List.take_append_drop i a.data.toList
      rw [List.drop_eq_getElem_cons hi, h5] at e
      exact e.symm
    · obtain ⟨j, hj, e⟩ := List.getElem_of_mem hm
      simp only [List.length_drop] at hj
      rw [List.getElem_drop] at e
      refine h4 (i + 1 + j) (by omega) (by omega) ?_
      rw [hg _ (by omega), h47, List.getD_eq_getElem?_getD, List.getElem?_eq_getElem (by omega), e]; rfl
theorem parent_is (a : ByteArray) (ha : a.size ≤ 1000000) : path_Parent.f a = some (mkB (parE a.data.toList).1, (parE a.data.toList).2) := by
  unfold path_Parent.f strings_LastIndexByte.f
  rw [if_pos (by omega), valid_is]
  simp only [Option.bind_some]
  rcases last_split a with ⟨h1, h2⟩ | ⟨i, h1, h2, h3, h4⟩
  · rw [h1]
    have : parE a.data.toList = ([], false) := by
      unfold parE
      rw [if_neg]
      rw [sp_no h2]; simp
    rw [this]; rfl
  · rw [h1, if_neg (by omega)]
    have e := sp_join (a.data.toList.take i) (a.data.toList.drop (i + 1))
    rw [← h3, sp_no h4] at e
    cases h5 : okP a.data.toList
    · have : parE a.data.toList = ([], false) := by unfold parE; rw [h5]; simp
      rw [this]; simp [mkB]
    · rw [parE_of h5 (sp_ne _) e, jn_sp]
      rw [if_pos rfl, if_pos (by omega), if_pos (by omega)]
      congr 2
      rw [← mkB_of (a.extract 0 _), Lib.extract_data]; simp
theorem base_is (a : ByteArray) (ha : a.size ≤ 1000000) : path_Base.f a = some (mkB (basE a.data.toList)) := by
  unfold path_Base.f strings_LastIndexByte.f
  rw [if_pos (by omega), valid_is]
  simp only [Option.bind_some]
  cases h5 : okP a.data.toList
  · have : basE a.data.toList = [] := by unfold basE; rw [h5]; rfl
    rw [this]; rfl
  · have hb : basE a.data.toList = (sp a.data.toList).getLastD [] := by unfold basE; rw [h5]; rfl
    rw [hb, if_pos rfl]
    rcases last_split a with ⟨h1, h2⟩ | ⟨i, h1, h2, h3, h4⟩
    · have hw : wrap64 (Lib.lastIndexByte a 47 + 1) = 0 := by rw [h1, wrap_in (by omega) (by omega)]; omega
      rw [hw, if_pos (by omega), if_pos (by omega), sp_no h2]
      congr 1
      rw [← mkB_of (a.extract _ _), Lib.extract_data]
      congr 1
      simp only [Int.toNat_zero, List.drop_zero, Nat.sub_zero, List.getLastD]
      rw [Lib.size_eq, List.take_length]
      rfl
    · have hw : wrap64 (Lib.lastIndexByte a 47 + 1) = ((i + 1 : Nat) : Int) := by rw [h1, wrap_in (by omega) (by omega)]; omega
      have e := sp_join (a.data.toList.take i) (a.data.toList.drop (i + 1))
      rw [← h3, sp_no h4] at e
      rw [hw, if_pos (by omega), if_pos (by omega), e]
      congr 1
      rw [← mkB_of (a.extract _ _), Lib.extract_data]
      congr 1
      rw [List.getLastD_concat]
      apply List.take_of_length_le
      rw [Lib.size_eq]
      simp

/-! ### The reference -/
theorem rcmp_l0 (x y : List Bs) : ∀ (d k j : Nat), j + d = x.length → 2 * d + 2 < k → j ≤ y.length → j ≤ 1000 →
    x.length ≤ 1000 → y.length ≤ 1000 → satchelref07_Compare.l0 k (x.map mkB) (y.map mkB) (j : Int) = some (ordP (x.drop j) (y.drop j)) := by
  have hout : ∀ (k j : Nat), (j = x.length ∨ j = y.length) → j ≤ x.length → j ≤ y.length → satchelref07_Compare.j2 (k + 1) (x.map mkB) (y.map mkB) (j : Int) false = some (ordP (x.drop j) (y.drop j)) := fun k j hj hx hy => by
    simp only [satchelref07_Compare.j2, List.length_map]
    rw [if_neg (by simp)]
    by_cases h1 : x.length < y.length
    · rw [if_pos (by omega)]
      have : j = x.length := by omega
      rw [List.drop_of_length_le (show x.length ≤ j by omega), List.drop_eq_getElem_cons (l := y) (by omega)]; rfl
    · rw [if_neg (by omega)]
      by_cases h2 : y.length < x.length
      · rw [if_pos (by omega), List.drop_of_length_le (show y.length ≤ j by omega), List.drop_eq_getElem_cons (l := x) (by omega)]; rfl
      · rw [if_neg (by omega), List.drop_of_length_le (show y.length ≤ j by omega), List.drop_of_length_le (show x.length ≤ j by omega)]; rfl
  intro d
  induction d with
  | zero =>
    intro k j hj hk hy h1 h2 h3
    obtain ⟨k, rfl⟩ : ∃ m, k = m + 2 := ⟨k - 2, by omega⟩
    rw [satchelref07_Compare.l0]
    simp only [List.length_map]
    rw [if_neg (by omega)]
    exact hout k j (.inl (by omega)) (by omega) hy
  | succ d ih =>
    intro k j hj hk hy h1 h2 h3
    obtain ⟨k, rfl⟩ : ∃ m, k = m + 2 := ⟨k - 2, by omega⟩
    rw [satchelref07_Compare.l0]
    simp only [List.length_map]
    rw [if_pos (by omega)]
    by_cases hjy : j < y.length
    · have hx : j < x.length := by omega
      have r1 : rdOf ByteArray.empty (x.map mkB) (j : Int) = mkB x[j] := by simp [rdOf, hx]
      have r2 : rdOf ByteArray.empty (y.map mkB) (j : Int) = mkB y[j] := by simp [rdOf, hjy]
      rw [decide_eq_true (show (j : Int) < (y.length : Int) by omega)]
      simp only [satchelref07_Compare.j2, List.length_map]
      rw [if_pos trivial, if_pos (by omega), if_pos (by omega), if_pos (by omega), r1, r2, mkB_toList, mkB_toList, List.drop_eq_getElem_cons hx, List.drop_eq_getElem_cons hjy, ordP]
      by_cases e : x[j] = y[j]
      · rw [if_pos e, if_pos e, wrap_in (by omega) (by omega)]
        exact ih k (j + 1) (by omega) (by omega) (by omega) (by omega) h2 h3
      · rw [if_neg e, if_neg e]
        simp [satchelref07_bytes.f]
    · rw [decide_eq_false (show ¬ (j : Int) < (y.length : Int) by omega)]
      exact hout k j (.inr (by omega)) (by omega) (by omega)
theorem sp_len (s : Bs) : (sp s).length ≤ s.length + 1 := by
  have h := jn_length (sp_ne s)
  rw [jn_sp] at h
  have h2 : ∀ l : List Bs, l.length ≤ (l.map (fun p => p.length + 1)).sum := fun l => by
    induction l with
    | nil => simp
    | cons a b ih => simp only [List.length_cons, List.map_cons, List.sum_cons]; omega
  have := h2 (sp s)
  omega
theorem rcompare_is (a b : ByteArray) (ha : a.size ≤ 400) (hb : b.size ≤ 400) : satchelref07_Compare.f 3000 a b = some (cmpP a.data.toList b.data.toList) := by
  unfold satchelref07_Compare.f cmpP satchelref07_Valid.f
  simp only [Option.bind_some]
  rw [show (3000 : Nat) = 2999 + 1 from rfl]
  simp only [satchelref07_Compare.j0, satchelref07_bytes.f, satchelref07_split.f]
  rw [if_pos (show a.size ≤ 1000000 by omega), if_pos (show b.size ≤ 1000000 by omega)]
  have l1 := sp_len a.data.toList; have l2 := sp_len b.data.toList
  rw [← Lib.size_eq] at l1 l2
  have := rcmp_l0 (sp a.data.toList) (sp b.data.toList) (sp a.data.toList).length 2999 0 (by omega) (by omega) (by omega) (by omega) (by omega) (by omega)
  simp only [List.drop_zero] at this
  cases okP a.data.toList <;> cases okP b.data.toList <;> simp
  exact this
theorem rjoin_is (k : Nat) (a b : ByteArray) (ha : a.size ≤ 400) (hb : b.size ≤ 400) (hk : 1 ≤ k) : satchelref07_Join.f k a b = some (mkB (joinE a.data.toList b.data.toList).1, (joinE a.data.toList b.data.toList).2) := by
  obtain ⟨k, rfl⟩ : ∃ m, k = m + 1 := ⟨k - 1, by omega⟩
  unfold satchelref07_Join.f joinE satchelref07_part.f satchelref07_split.f satchelref07_Valid.f
  rw [if_pos (by omega), if_pos (by omega)]
  have hl : ((a ++ (⟨#[47]⟩ : ByteArray)) ++ b).data.toList = a.data.toList ++ 47 :: b.data.toList := by rw [app_list, app_list]; simp
  have hm : (a ++ (⟨#[47]⟩ : ByteArray)) ++ b = mkB (a.data.toList ++ 47 :: b.data.toList) := by rw [← hl, mkB_of]
  have hs : (a ++ (⟨#[47]⟩ : ByteArray)).size = a.size + 1 := by rw [ByteArray.size_append]; rfl
  have hn : ((((sp b.data.toList).map mkB).length : Int) != 1) = decide (47 ∈ b.data.toList) := by
    rw [List.length_map]
    by_cases h : 47 ∈ b.data.toList
    · obtain ⟨p, q, e⟩ := List.append_of_mem h
      rw [e, sp_join]
      have h1 := List.length_pos_iff.2 (sp_ne p); have h2 := List.length_pos_iff.2 (sp_ne q)
      simp; omega
    · rw [sp_no h]; simp [h]
  simp only [Option.bind_some, satchelref07_Join.j0, list_eq, satchelref07_Valid.f]
  rw [hs, hl, hm, hn]
  have hj := rjoin_same a.data.toList b.data.toList
  by_cases h1 : (stepE b.data.toList).1 = 0
  · have h47 : 47 ∉ b.data.toList := step_no h1
    have hp : (partE b.data.toList).1 = 0 := by rw [part_same h47]; exact h1
    have hv := okP_one h1
    by_cases h2 : a.data.toList = []
    · simp [h1, h2, h47, hp, hv, mkB_of]
    · cases h3 : okP a.data.toList
      · simp [h1, h2, mkB]
      · simp only [h1, h2, hp, h47, if_true, if_false]
        simp only [ne_eq, not_true_eq_false, Bool.true_eq_false, and_false, or_false, if_false, decide_false, Option.bind_some]
        rw [if_neg (by simp), if_pos (by omega), if_pos (by omega)]
        cases okP (a.data.toList ++ 47 :: b.data.toList) <;> simp [mkB]
  · have hor := hj.2 h1
    by_cases h47 : 47 ∈ b.data.toList
    · simp only [h47, decide_true]
      by_cases h2 : a.data.toList = []
      · by_cases hp : (partE b.data.toList).1 = 0 <;> simp [h1, h2, hp, mkB]
      · by_cases hp : (partE b.data.toList).1 = 0 <;> cases okP a.data.toList <;> simp [h1, h2, hp, mkB]
    · have hp : ¬ (partE b.data.toList).1 = 0 := by
        rcases hor with h | h
        · exact (h47 h).elim
        · exact h
      by_cases h2 : a.data.toList = []
      · simp [h1, h2, hp, mkB]
      · cases okP a.data.toList <;> simp [h1, h2, hp, mkB]
theorem awake_is : satchellaw07_awake.f 3000 = some true := by kernel_rfl
theorem known_is : satchellaw07_PathKnown.f 3000 = some true := by kernel_rfl
end Go.Proofs.Ytigldoicijfhoaa.H
