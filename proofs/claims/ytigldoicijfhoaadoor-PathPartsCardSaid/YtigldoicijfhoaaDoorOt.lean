/- satchelkit.OverTexts at a row of the call's own; path.Parts' row as it lies in memory. Conditions: rows without spare room, texts of at most 10^6 bytes. -/
import Derived.Test.YtigldoicijfhoaaDoorQe
namespace Go.Proofs.YtigldoicijfhoaaDoor.H
open Go.RowKit Go.Proofs.YtigldoicijfhoaaDoor Go.Proofs.YtigldoicijfhoaaDoor.XB Go.Proofs.YtigldoicijfhoaaDoorW.PrintWords Go.Proofs.YtigldoicijfhoaaDoorW.PrintLast

theorem row_of {W : World} {base g : Nat} {xs : List ByteArray} (hb : base ≤ g) (hl : xs.length ≤ 1000000) (hh : W.heap[g]? = some (.cells (xs.map Value.string).toArray 9 (0, 0))) :
    Kd.R Kd.string 9 W base (fun _ => True) (.slice (some ⟨g, 0, none⟩) xs.length xs.length) xs := by
  refine ⟨fun _ _ => trivial, xs.map Value.string, ⟨by simp [Kd.string, Kd.scalar], .inr ⟨g, xs.length, _, rfl, hb, hh, Nat.le_refl _, by simp only [maxLen]; omega, by simp [Kd.string, Kd.scalar], by simp [Kd.string, Kd.scalar, List.take_of_length_le]⟩⟩, ?_⟩
  clear hl hh
  induction xs with
  | nil => exact Reps.none _ _
  | cons x r ih => exact Reps.one rfl ih
set_option maxHeartbeats 2000000 in
theorem over_texts (g : Nat) (xs : List ByteArray) (w : World) (hn : xs.length ≤ 1000000) (hz : ∀ x ∈ xs, x.size ≤ 1000000) (hh : w.heap[g]? = some (.cells (xs.map Value.string).toArray 9 (0, 0))) :
    Calls Tryd.prog 15 #[.slice (some ⟨g, 0, none⟩) xs.length xs.length] w fun e w' => e = .returned (.tuple #[]) ∧ Below g w w' := by
  go_enter Tryd.func15, Tryd.ntmps15
  go_wp2
  go_loopw [3] (fun p wr => ∃ (j : Nat) (ys : List ByteArray), j ≤ xs.length ∧ p = .int .i64 (j : Int) ∧ ys.length = xs.length ∧ (∀ (k : Nat) y, j ≤ k → ys[k]? = some y → y.size ≤ 1000000) ∧ wr.heap[g]? = some (.cells (ys.map Value.string).toArray 9 (0, 0)) ∧ Below g w wr) (fun p wr => xs.length - (intOf p).toNat)
  case atStart =>
    exact ⟨0, xs, by omega, rfl, rfl, fun k y _ hy => hz y (List.mem_of_getElem? hy), hh, Below.refl _ _⟩
  case round =>
    obtain ⟨j, ys, hj, rfl, hyl, hys, hw, hB⟩ := hrel
    by_cases hlt : j < xs.length
    · obtain ⟨y, hy⟩ : ∃ y, ys[j]? = some y := ⟨_, List.getElem?_eq_getElem (by omega)⟩
      have hc : wr.cell? ⟨g, j, none⟩ = some (.string y) := by rw [cell_of_row wr g j _ _ _ hw]; simp [hy]
      have hf : wr.frozen? ⟨g, j, none⟩ = false := blk_frozen hw _
      have hz : y.size ≤ 1000000 := hys j y (Nat.le_refl _) hy
      have hjn : j < ys.length := by omega
      have HW := Lib.hid hw
      have HB := Lib.hid hB
      have HS := Lib.hid hys
      have HY := Lib.hid hyl
      clear hw hB hys hyl hy
      go_wp2
      go_roundw
      case rel =>
        refine ⟨j + 1, ys.set j (y ++ ⟨#[33]⟩), by omega, by go_num, by rw [List.length_set]; exact HY.out, ?_, ?_, HB.out.setCell (p := ⟨g, j, none⟩) (Nat.le_refl _) _⟩
        · intro k z hk hz2
          rw [List.getElem?_set_ne (by omega)] at hz2
          exact HS.out k z (by omega) hz2
        · rw [World.setCell]
          simp [Array.getElem?_modify, HW.out]
      case measure => simp [intOf]; omega
    · obtain rfl : j = xs.length := by omega
      have HB := Lib.hid hB
      clear hw hB hys hyl
      go_wp2
      trace_state
      go_end0
      exact ⟨rfl, HB.out⟩
end Go.Proofs.YtigldoicijfhoaaDoor.H
