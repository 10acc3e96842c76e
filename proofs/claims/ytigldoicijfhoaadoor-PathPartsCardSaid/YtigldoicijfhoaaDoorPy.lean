/- The reference's split, part and Check as the plain law has them. Conditions: texts of at most 10^6 bytes. -/
import Derived.Test.YtigldoicijfhoaaDoorPx
import Derived.Test.YtigldoicijfhoaaDoorXA1
namespace Go.Proofs.YtigldoicijfhoaaDoor.H
open Go.RowKit Go.Proofs.YtigldoicijfhoaaDoor.XA Go.Proofs.YtigldoicijfhoaaDoorW.PrintWords Go.Proofs.YtigldoicijfhoaaDoorW.PrintLast

theorem wrap_in {x : Int} (h : -9223372036854775808 ≤ x) (k : x ≤ 9223372036854775807) : wrap64 x = x := by unfold wrap64; omega
theorem bt_get {s : ByteArray} {i : Nat} {c : UInt8} (h : s.data.toList[i]? = some c) : bt s (i : Int) = (c.toNat : Int) := by
  have hl := (List.getElem?_eq_some_iff.1 h).1
  have hs : i < s.size := by rw [Lib.size_eq]; exact hl
  have := (List.getElem?_eq_some_iff.1 h).2
  unfold bt
  simp only [Int.toNat_natCast, hs, dif_pos]
  rw [← this]; rfl
theorem rd_last (done : List ByteArray) (cur : ByteArray) : rdOf ByteArray.empty (done ++ [cur]) (done.length : Int) = cur := by
  simp [rdOf]
def glue (cur : ByteArray) : List Bs → List ByteArray
  | [] => []
  | p :: q => mkB (cur.data.toList ++ p) :: q.map mkB
theorem glue_empty (l : List Bs) : glue ⟨#[]⟩ l = l.map mkB := by cases l <;> simp [glue]
theorem one_byte (s : ByteArray) (i : Nat) (c : UInt8) (h : s.data.toList[i]? = some c) : (s.extract i (i + 1)).data.toList = [c] := by
  rw [Lib.extract_data]
  have hl := (List.getElem?_eq_some_iff.1 h).1
  rw [List.drop_eq_getElem_cons hl, (List.getElem?_eq_some_iff.1 h).2]
  simp
theorem split_l0 (s : ByteArray) (hs : s.size ≤ 1000000) : ∀ (d k i : Nat) (done : List ByteArray) (cur : ByteArray), i + d = s.size → d < k → done.length ≤ i → cur.size ≤ i →
    satchelref07_split.l0 k s (done ++ [cur]) (i : Int) = some (done ++ glue cur (sp (s.data.toList.drop i))) := by
  intro d
  induction d with
  | zero =>
    intro k i done cur hi hk _ _
    obtain ⟨k, rfl⟩ : ∃ m, k = m + 1 := ⟨k - 1, by omega⟩
    have e : s.data.toList.drop i = [] := by rw [List.drop_eq_nil_iff, ← Lib.size_eq]; omega
    simp only [satchelref07_split.l0]
    rw [if_neg (by omega), e]
    simp [sp, glue, mkB_of]
  | succ d ih =>
    intro k i done cur hi hk hd hc
    obtain ⟨k, rfl⟩ : ∃ m, k = m + 1 := ⟨k - 1, by omega⟩
    have hl : i < s.data.toList.length := by rw [← Lib.size_eq]; omega
    obtain ⟨c, hcc⟩ : ∃ c, s.data.toList[i]? = some c := ⟨_, List.getElem?_eq_getElem hl⟩
    have e : s.data.toList.drop i = c :: s.data.toList.drop (i + 1) := by rw [List.drop_eq_getElem_cons hl, (List.getElem?_eq_some_iff.1 hcc).2]
    have hw : wrap64 ((i : Int) + 1) = ((i + 1 : Nat) : Int) := by rw [wrap_in (by omega) (by omega)]; omega
    simp only [satchelref07_split.l0]
    rw [if_pos (by omega), if_pos (by omega), bt_get hcc, hw, e, sp]
    by_cases h : c = 47
    · subst h
      rw [if_pos (by decide), if_pos (by simp; omega), if_pos rfl, ih k (i + 1) (done ++ [cur]) ⟨#[]⟩ (by omega) (by omega) (by simp; omega) (by simp [ByteArray.size]), glue_empty]
      simp [glue, mkB_of]
    · have hne : ¬ ((c.toNat : Int) = 47) := by
        intro h'
        apply h
        apply UInt8.toNat_inj.1
        have : c.toNat = 47 := by omega
        rw [this]; rfl
      have hlen : wrap64 (((done ++ [cur]).length : Int) - 1) = (done.length : Int) := by rw [List.length_append, List.length_singleton, wrap_in (by omega) (by omega)]; omega
      have h1 := one_byte s i c hcc
      rw [if_neg hne, hlen, rd_last]
      simp only [Int.toNat_natCast]
      rw [if_pos (by omega), if_pos (by simp; omega), if_pos (by omega), if_pos (by omega), if_pos (by rw [Lib.size_eq (s.extract i (i + 1)), h1]; simp; omega), if_neg h]
      have hset : (done ++ [cur]).set done.length (cur ++ s.extract i (i + 1)) = done ++ [cur ++ s.extract i (i + 1)] := by simp
      rw [hset, ih k (i + 1) done (cur ++ s.extract i (i + 1)) (by omega) (by omega) (by omega) (by rw [ByteArray.size_append, Lib.size_eq (s.extract i (i + 1)), h1]; simp; omega)]
      rcases hr : sp (s.data.toList.drop (i + 1)) with _ | ⟨p, q⟩
      · exact (sp_ne _ hr).elim
      · have h5 : (cur ++ s.extract i (i + 1)).data.toList = cur.data.toList ++ [c] := by
          rw [ByteArray.data_append, Array.toList_append, h1]
        simp only [glue]
        rw [h5]
        simp
theorem split_is (k : Nat) (s : ByteArray) (hs : s.size ≤ 1000000) (hk : s.size < k) : satchelref07_split.f k s = some ((sp s.data.toList).map mkB) := by
  have := split_l0 s hs s.size k 0 [] ⟨#[]⟩ (by omega) hk (by simp) (by simp [ByteArray.size])
  unfold satchelref07_split.f
  rw [glue_empty] at this
  simpa using this

/-! ### part -/
def badAt2 : Bs → Option Nat
  | [] => none
  | c :: r => if c.toNat < 33 ∨ 126 < c.toNat then some 0 else (badAt2 r).map (· + 1)
def partE (p : Bs) : Int × Int :=
  if p = [] ∨ p = [46] ∨ p = [46, 46] then (2, 0) else
  match badAt2 p with
  | some i => (4, (i : Int))
  | none => if 60 < p.length then (3, 60) else (0, 0)
theorem bad_same {p : Bs} (h : 47 ∉ p) : badAt2 p = badAt p := by
  induction p with
  | nil => rfl
  | cons c r ih =>
    simp only [List.mem_cons, not_or] at h
    rw [badAt2, badAt, ih h.2]
    have : ¬ c = 47 := fun e => h.1 e.symm
    simp [this]
theorem part_same {p : Bs} (h : 47 ∉ p) : partE p = stepE p := by
  unfold partE stepE
  rw [bad_same h]
  rcases badAt p with _ | i <;> rfl
theorem part_l0 (s : ByteArray) (hs : s.size ≤ 1000000) : ∀ (d k i : Nat), i + d = s.size → d < k →
    satchelref07_part.l0 k s (i : Int) = some (match badAt2 (s.data.toList.drop i) with | some j => (4, ((i + j : Nat) : Int)) | none => if 60 < s.size then (3, 60) else (0, 0)) := by
  intro d
  induction d with
  | zero =>
    intro k i hi hk
    obtain ⟨k, rfl⟩ : ∃ m, k = m + 1 := ⟨k - 1, by omega⟩
    have e : s.data.toList.drop i = [] := by rw [List.drop_eq_nil_iff, ← Lib.size_eq]; omega
    simp only [satchelref07_part.l0]
    rw [if_neg (by omega), e]
    dsimp only [badAt2]
    by_cases h : 60 < s.size
    · rw [if_pos h, if_pos (by omega)]
    · rw [if_neg h, if_neg (by omega)]
  | succ d ih =>
    intro k i hi hk
    obtain ⟨k, rfl⟩ : ∃ m, k = m + 1 := ⟨k - 1, by omega⟩
    have hl : i < s.data.toList.length := by rw [← Lib.size_eq]; omega
    obtain ⟨c, hcc⟩ : ∃ c, s.data.toList[i]? = some c := ⟨_, List.getElem?_eq_getElem hl⟩
    have e : s.data.toList.drop i = c :: s.data.toList.drop (i + 1) := by rw [List.drop_eq_getElem_cons hl, (List.getElem?_eq_some_iff.1 hcc).2]
    have hw : wrap64 ((i : Int) + 1) = ((i + 1 : Nat) : Int) := by rw [wrap_in (by omega) (by omega)]; omega
    simp only [satchelref07_part.l0]
    rw [if_pos (by omega), if_pos (by omega), bt_get hcc, hw, e, badAt2]
    by_cases h1 : c.toNat < 33
    · rw [if_pos (by omega), if_pos (.inl h1)]; simp
    by_cases h2 : 126 < c.toNat
    · rw [if_neg (by omega), if_pos (by omega), if_pos (.inr h2)]; simp
    rw [if_neg (by omega), if_neg (by omega), if_neg (by omega), ih k (i + 1) (by omega) (by omega)]
    rcases badAt2 (s.data.toList.drop (i + 1)) with _ | j
    · rfl
    · simp only [Option.map_some]; congr 3; omega
theorem list_eq (s : ByteArray) : s.toList = s.data.toList := by
  have := mkB_toList s.data.toList
  rwa [mkB_of] at this
theorem part_is (k : Nat) (s : ByteArray) (hs : s.size ≤ 1000000) (hk : s.size + 1 < k) : satchelref07_part.f k s = some (partE s.data.toList) := by
  obtain ⟨k, rfl⟩ : ∃ m, k = m + 1 := ⟨k - 1, by omega⟩
  have h0 := part_l0 s hs s.size k 0 (by omega) (by omega)
  unfold satchelref07_part.f partE
  rw [list_eq]
  simp only [satchelref07_part.j0]
  by_cases h1 : s.data.toList = []
  · simp [h1]
  by_cases h2 : s.data.toList = [46]
  · simp [h2]
  by_cases h3 : s.data.toList = [46, 46]
  · simp [h3]
  rw [if_neg h1, if_neg h2, if_neg (by simpa using h3), if_neg (by simp [h1, h2, h3])]
  rw [List.drop_zero] at h0
  simp only [Nat.zero_add] at h0
  rw [← Lib.size_eq]
  exact h0

/-! ### Check -/
theorem check_l0 (l : List Bs) (hn : ∀ p ∈ l, 47 ∉ p ∧ p.length ≤ 200) : ∀ (d k j a : Nat), j + d = l.length → d + 300 < k → j ≤ 20 → a ≤ 201 * j →
    satchelref07_Check.l0 k (l.map mkB) (a : Int) (j : Int) = some (chkL j a (l.drop j)) := by
  intro d
  induction d with
  | zero =>
    intro k j a hj hk h20 ha
    obtain ⟨k, rfl⟩ : ∃ m, k = m + 1 := ⟨k - 1, by omega⟩
    have e : l.drop j = [] := by rw [List.drop_eq_nil_iff]; omega
    simp only [satchelref07_Check.l0]
    rw [if_neg (by simp; omega), e]
    rfl
  | succ d ih =>
    intro k j a hj hk h20 ha
    obtain ⟨k, rfl⟩ : ∃ m, k = m + 1 := ⟨k - 1, by omega⟩
    have hl : j < l.length := by omega
    obtain ⟨h47, h200⟩ := hn l[j] (by simp)
    have hrd : rdOf ByteArray.empty (l.map mkB) (j : Int) = mkB l[j] := by
      simp [rdOf, hl]
    simp only [satchelref07_Check.l0]
    rw [if_pos (by simp; omega), List.drop_eq_getElem_cons hl, chkL, hrd, part_is k (mkB l[j]) (by simp; omega) (by simp; omega)]
    simp only [mkB_list, mkB_size, Option.bind_some]
    rw [part_same h47]
    by_cases e20 : j = 20
    · rw [if_pos (show (j : Int) = 20 by omega), if_pos (show 20 ≤ j by omega)]
    rw [if_neg (show ¬ (j : Int) = 20 by omega), if_pos (show (0 : Int) ≤ (j : Int) by omega), if_neg (show ¬ 20 ≤ j by omega)]
    have hr := stepE_range l[j]
    by_cases h0 : (stepE l[j]).1 = 0
    · have hw : wrap64 (wrap64 ((a : Int) + (l[j].length : Int)) + 1) = ((a + l[j].length + 1 : Nat) : Int) := by
        rw [wrap_in (x := (a : Int) + (l[j].length : Int)) (by omega) (by omega), wrap_in (by omega) (by omega)]; omega
      have hw2 : wrap64 ((j : Int) + 1) = ((j + 1 : Nat) : Int) := by rw [wrap_in (by omega) (by omega)]; omega
      rw [if_pos h0, if_neg (show ¬ (stepE l[j]).1 ≠ 0 by simpa using h0), hw, hw2]
      exact ih k (j + 1) (a + l[j].length + 1) (by omega) (by omega) (by omega) (by omega)
    · rw [if_neg h0, if_pos (show (stepE l[j]).1 ≠ 0 from h0), wrap_in (by omega) (by omega)]
theorem check_is (s : ByteArray) : satchelref07_Check.f 1000 s = some (chk s.data.toList) := by
  unfold satchelref07_Check.f chk
  rw [list_eq]
  by_cases h0 : s.data.toList = []
  · rw [if_pos h0, if_pos h0]
  rw [if_neg h0, if_neg h0]
  by_cases h1 : 200 < s.data.toList.length
  · rw [if_pos h1, if_pos (by rw [Lib.size_eq]; omega)]
  rw [if_neg h1, if_neg (by rw [Lib.size_eq]; omega), split_is 1000 s (by rw [Lib.size_eq]; omega) (by rw [Lib.size_eq]; omega)]
  simp only [Option.bind_some]
  have hj := jn_length (sp_ne s.data.toList)
  rw [jn_sp] at hj
  have hsum : ∀ l : List Bs, l.length ≤ (l.map (fun p => p.length + 1)).sum ∧ ∀ p ∈ l, p.length + 1 ≤ (l.map (fun p => p.length + 1)).sum := fun l => by
    induction l with
    | nil => simp
    | cons a b ih =>
      simp only [List.length_cons, List.map_cons, List.sum_cons, List.mem_cons]
      refine ⟨by omega, ?_⟩
      rintro p (rfl | hp)
      · omega
      · have := ih.2 p hp; omega
  obtain ⟨g1, g2⟩ := hsum (sp s.data.toList)
  exact check_l0 (sp s.data.toList) (fun p hp => ⟨sp_mem _ p hp, by have := g2 p hp; omega⟩) (sp s.data.toList).length 1000 0 0 (by omega) (by omega) (by omega) (by omega)
end Go.Proofs.YtigldoicijfhoaaDoor.H
