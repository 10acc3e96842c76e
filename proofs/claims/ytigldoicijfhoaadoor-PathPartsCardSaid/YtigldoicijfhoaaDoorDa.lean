/- strings.Split at a stroke, strings.Join: as the plain law has them. Conditions: in the functions themselves. -/
import Derived.Test.YtigldoicijfhoaaDoorPz
import Derived.Lib.SplitLaws
import Derived.Shelf.Strings.SplitCore
namespace Go.Proofs.YtigldoicijfhoaaDoor.H
open Go.RowKit Go.Shelf Go.Proofs.YtigldoicijfhoaaDoorW.PrintWords Go.Proofs.YtigldoicijfhoaaDoorW.PrintLast

theorem splitK_sp : ∀ (k : Nat) (s : Bs), (sp s).length ≤ k + 1 → Lib.splitK [47] 0 k s = sp s
  | 0, s, h => by
    rw [sp_brk] at h ⊢
    rcases hb : (brk s).2 with _ | r
    · rw [(brk_none hb).1]; rfl
    · rw [hb] at h
      have := List.length_pos_iff.2 (sp_ne r)
      dsimp only at h
      rw [List.length_cons] at h; omega
  | k + 1, s, h => by
    have hi := brk_index s
    rw [sp_brk] at h ⊢
    unfold Lib.splitK
    rcases hb : (brk s).2 with _ | r
    · rw [hb] at hi
      rw [hi, (brk_none hb).1]; rfl
    · rw [hb] at hi h
      dsimp only at hi h ⊢
      have hne : ¬ ((((brk s).1.length : Int) == -1) = true) := by simp
      obtain ⟨h1, _⟩ := brk_some hb
      have ht : s.take (brk s).1.length = (brk s).1 := by
        generalize (brk s).1 = p at *
        subst h1; simp
      have hd : s.drop ((brk s).1.length + 1) = r := by
        generalize (brk s).1 = p at *
        subst h1; simp
      rw [hi, if_neg hne, Int.toNat_natCast, Nat.add_zero, ht, List.length_singleton, hd, splitK_sp k r (by simpa using h)]
theorem sp_count (s : Bs) : (sp s).length = s.count 47 + 1 := by
  induction s with
  | nil => rfl
  | cons c r ih =>
    unfold sp
    by_cases h : c = 47
    · subst h; simp [ih]
    · rw [if_neg h, List.count_cons_of_ne h]
      rcases hr : sp r with _ | ⟨p, q⟩
      · exact (sp_ne r hr).elim
      · rw [hr] at ih; simpa using ih
theorem countB_sp (s : ByteArray) : Lib.countB s ⟨#[47]⟩ + 1 = (sp s.data.toList).length := by
  rw [sp_count]
  show Lib.count s.data.toList [47] + 1 = _
  rw [Lib.count_one]
theorem splitB_sp (s : ByteArray) : Lib.splitB ⟨#[47]⟩ 0 (Lib.countB s ⟨#[47]⟩) s = (sp s.data.toList).map mkB := by
  have h := Lib.splitB_data ⟨#[47]⟩ 0 (Lib.countB s ⟨#[47]⟩) s
  have h2 := splitK_sp (Lib.countB s ⟨#[47]⟩) s.data.toList (by have := countB_sp s; omega)
  have h3 : (⟨#[47]⟩ : ByteArray).data.toList = [47] := rfl
  rw [h3, h2] at h
  rw [← h, List.map_map]
  have : (mkB ∘ fun x : ByteArray => x.data.toList) = id := by funext x; exact mkB_of x
  rw [this, List.map_id]

theorem info_str : (Tryd.prog.info? 9).map (fun i => (i.zero, i.size, i.bytes)) = some (some (.string ByteArray.empty), 1, 16) := by kernel_rfl
theorem genSplit_one (s : ByteArray) (w : World) (hs : s.size < 4294967281) :
    Calls Tryd.prog 38 #[.string s, .string ⟨#[47]⟩, .int .i64 0, .int .i64 (-1)] w fun e w' =>
      e = .returned (.slice (some ⟨w.heap.size, 0, none⟩) (sp s.data.toList).length (sp s.data.toList).length) ∧ w' = w.alloc (.cells (((sp s.data.toList).map mkB).map Value.string).toArray 9) := by
  have hc := countB_sp s
  have hle : Lib.countB s ⟨#[47]⟩ ≤ s.size := Lib.countB_le ⟨#[47]⟩ (by decide) s.size s (Nat.le_refl _)
  have c := Any.strings_genSplit_core Tryd.lays221 info_str s ⟨#[47]⟩ 0 (-1) (Lib.countB s ⟨#[47]⟩ + 1) w hs (by decide) (by decide)
    (fun x c _ => by
      have := Tryd.strings_Index_one x 47 (w.alloc (.cells c 9))
      rw [← Lib.index_one] at this
      exact this)
    (by
      have := Tryd.strings_Count_one s 47 w
      refine this.mono fun e w' ⟨he, hw⟩ => ⟨?_, hw⟩
      rw [he]
      show _ = Ending.returned (Value.int .i64 ((Lib.count s.data.toList [47] : Nat) : Int))
      rw [Lib.count_one]
      rfl)
    (by decide) (by decide) (by rw [if_pos (by decide)]; omega)
  rw [Nat.add_sub_cancel, splitB_sp] at c
  have e2 : Lib.cellsOf ((sp s.data.toList).map mkB) (Lib.countB s ⟨#[47]⟩ + 1) = (((sp s.data.toList).map mkB).map Value.string).toArray := by
    rw [hc, show (sp s.data.toList).length = ((sp s.data.toList).map mkB).length by simp]; exact Lib.cellsOf_full _
  rw [e2, List.length_map, hc] at c
  exact c
theorem split_any (s : ByteArray) (w : World) (hs : s.size < 4294967281) :
    Calls Tryd.prog 25 #[.string s, .string ⟨#[47]⟩] w fun e w' =>
      e = .returned (.slice (some ⟨w.heap.size, 0, none⟩) (sp s.data.toList).length (sp s.data.toList).length) ∧ w' = w.alloc (.cells (((sp s.data.toList).map mkB).map Value.string).toArray 9) := by
  go_enter Tryd.func25, Tryd.ntmps25
  go_wp2_with (go_at_call 38; refine (genSplit_one s _ hs).mono ?_; rintro e w' ⟨rfl, hw⟩; rw [hw])
  go_ret
  exact ⟨rfl, by rw [List.map_map]⟩
end Go.Proofs.YtigldoicijfhoaaDoor.H
namespace Go.Proofs.YtigldoicijfhoaaDoor
open Go.RowKit H Go.Proofs.YtigldoicijfhoaaDoorW.PrintWords Go.Proofs.YtigldoicijfhoaaDoorW.PrintLast
theorem own_new_row (w : World) (xs : List ByteArray) (hl : xs.length ≤ 1000000) : Kd.R Kd.string 9 (w.alloc (.cells (xs.map Value.string).toArray 9)) w.heap.size (fun _ => True) (.slice (some ⟨w.heap.size, 0, none⟩) xs.length xs.length) xs := by
  refine ⟨fun _ _ => trivial, OwnRow.lit w w.heap.size (inner := xs.map Value.string) ?_ (Nat.le_refl _) (by omega)⟩
  clear hl
  induction xs with
  | nil => exact Reps.none _ _
  | cons x r ih => exact Reps.one rfl ih
def strings_Split.f (a0 : ByteArray) (a1 : ByteArray) : Option (List ByteArray) := if a1.data.toList = [47] ∧ a0.size ≤ 900000 then some ((sp a0.data.toList).map mkB) else none
theorem strings_Split.calls (a0 : ByteArray) (a1 : ByteArray) (r : List ByteArray) (w : World) (h : strings_Split.f a0 a1 = some r) :
    Calls Tryd.prog 25 #[.string a0, .string a1] w fun e w' => ∃ v0_ : Value, e = .returned (v0_) ∧ Kd.R Kd.string 9 w' w.heap.size (fun _ => True) v0_ r ∧ Below w.heap.size w w' := by
  unfold strings_Split.f at h
  split at h
  · rename_i hs
    injection h with h
    subst h
    have e1 : a1 = ⟨#[47]⟩ := by rw [← mkB_of a1, hs.1]; rfl
    subst e1
    refine (split_any a0 w (by omega)).mono ?_
    rintro e w' ⟨rfl, rfl⟩
    have hl : ((sp a0.data.toList).map mkB).length ≤ 1000000 := by
      rw [List.length_map, sp_count]
      have := List.count_le_length (a := (47 : UInt8)) (l := a0.data.toList)
      rw [← Lib.size_eq] at this
      omega
    have := own_new_row w ((sp a0.data.toList).map mkB) hl
    rw [List.length_map] at this
    exact ⟨_, rfl, this, below_new _ (Below.refl _ _)⟩
  · cases h
end Go.Proofs.YtigldoicijfhoaaDoor
namespace Go.Proofs.YtigldoicijfhoaaDoor
open Go.RowKit H Go.Proofs.YtigldoicijfhoaaDoorW.PrintWords Go.Proofs.YtigldoicijfhoaaDoorW.PrintLast
def strings_Join.f (l0 : List ByteArray) (a1 : ByteArray) : Option ByteArray := if l0.length ≤ 1000000 ∧ (Lib.join (l0.map (·.data.toList)) a1.data.toList).length ≤ 140737488355328 then some ⟨(Lib.join (l0.map (·.data.toList)) a1.data.toList).toArray⟩ else none
theorem strings_Join.calls (A0 : Option Addr) (c0 : Nat) (l0 : List ByteArray) (a1 : ByteArray) (r : ByteArray) (w : World) (hr0 : Kd.C Kd.string w A0 l0.length l0) (hc0 : l0.length ≤ c0) (h : strings_Join.f l0 a1 = some r) :
    Calls Tryd.prog 19 #[.slice A0 l0.length c0, .string a1] w fun e w' => e = .returned (.string r) ∧ Below w.heap.size w w' := by
  unfold strings_Join.f at h
  split at h
  · rename_i hs
    injection h with h
    subst h
    rcases Nat.eq_zero_or_pos l0.length with h0 | h0
    · obtain rfl := List.eq_nil_of_length_eq_zero h0
      refine (Tryd.strings_Join_none A0 c0 a1 w).mono ?_
      rintro e w' ⟨rfl, rfl⟩
      exact ⟨rfl, Below.refl _ _⟩
    · obtain ⟨ad, rfl, hc⟩ := Kd.at_string hr0 0 (by omega) (by omega)
      obtain ⟨bk, o, s⟩ := ad
      have hsp := World.cell?_spot hc
      obtain rfl : s = none := by simpa [Addr.add] using hsp
      have ha : ∀ i, (⟨bk, o, none⟩ : Addr).add i = ⟨bk, o + i, none⟩ := fun i => by unfold Addr.add; split <;> simp_all
      refine Tryd.strings_Join bk o c0 l0 a1 w (fun j x hx => ?_) ?_ (by omega) hc0 hs.2
      · have hj : j < l0.length := (List.getElem?_eq_some_iff.1 hx).1
        obtain ⟨ad, e, hc2⟩ := Kd.at_string hr0 (j : Int) (by omega) (by omega)
        injection e with e
        subst e
        rw [Int.toNat_natCast, ha] at hc2
        rw [hc2]
        simp [rdOf, List.getD_eq_getElem?_getD, hx]
      · have := World.block_lt_of_cell? w _ hc
        rwa [ha] at this
  · cases h
end Go.Proofs.YtigldoicijfhoaaDoor
