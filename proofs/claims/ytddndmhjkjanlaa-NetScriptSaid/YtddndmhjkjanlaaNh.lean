/- The net's at, as its callers use it; off. Conditions: the net holds what its word says. -/
import Derived.Test.YtddndmhjkjanlaaNg
namespace Go.Proofs.Ytddndmhjkjanlaa
open Go.RowKit Go.Shelf

theorem pv_place (bn : Nat) (L : List Nd) (i : Nat) (hi : i < L.length) : pv bn (L.map (·.b)) i = place bn (L.take i) := by
  cases i with
  | zero => rfl
  | succ i =>
    rw [List.take_succ_eq_append_getElem (by omega), place_snoc]
    simp [pv, List.getD_eq_getElem?_getD, List.getElem?_eq_getElem (show i < L.length by omega)]
theorem NetAt.cell5 {w : World} {bn bm : Nat} {L : List Nd} {K : List (Int × Int)} {lost : Int} (h : NetAt w bn bm L K lost) : w.cell? ⟨bn, 5, none⟩ = some (.int .i64 (L.length : Int)) := cell_of h.head 5 rfl
theorem NetAt.cell0 {w : World} {bn bm : Nat} {L : List Nd} {K : List (Int × Int)} {lost : Int} (h : NetAt w bn bm L K lost) : w.cell? ⟨bn, 0, none⟩ = some (.bool true) := cell_of h.head 0 rfl
theorem NetAt.cell6 {w : World} {bn bm : Nat} {L : List Nd} {K : List (Int × Int)} {lost : Int} (h : NetAt w bn bm L K lost) : w.cell? ⟨bn, 6, none⟩ = some (.map (some bm)) := cell_of h.head 6 rfl
theorem NetAt.cell7 {w : World} {bn bm : Nat} {L : List Nd} {K : List (Int × Int)} {lost : Int} (h : NetAt w bn bm L K lost) : w.cell? ⟨bn, 7, none⟩ = some (.int .i64 lost) := cell_of h.head 7 rfl

theorem at_yes {w : World} {bn bm : Nat} {L : List Nd} {K : List (Int × Int)} {lost : Int} (h : NetAt w bn bm L K lost) (i : Nat) (hi : i < L.length) (hL : L.length ≤ 1000000) :
    Calls Try.prog 38 #[.pointer (some ⟨bn, 0, none⟩), .int .i64 (i : Int)] w fun e W' => e = .returned (.pointer (some ⟨(place bn (L.take i)).1, (place bn (L.take i)).2, none⟩)) ∧ Below w.heap.size w W' := by
  have := at_in bn i L.length (L.length : Int) (L.map (·.b)) w rfl h.cell5 h.pchain (by simp) hi (by omega)
  rw [pv_place _ _ _ hi] at this
  exact callsIn_wide.1 this

set_option maxRecDepth 100000 in
set_option maxHeartbeats 1000000 in
theorem at_neg (bn : Nat) (i : Int) (w : World) (hi : i < 0) :
    Calls Try.prog 38 #[.pointer (some ⟨bn, 0, none⟩), .int .i64 i] w fun e W' => e = .returned (.pointer none) ∧ Below w.heap.size w W' := by
  have hI0 : decide (i < 0) = true := by simp [hi]
  go_enter Try.func38, Try.ntmps38
  go_wp2
  go_quiet (fail)
  go_wp2
  refine bodyPost_ret (v := .pointer none) (by simp [results, Try.f38, go_sem]) rfl ⟨rfl, ?_⟩
  exact (below_drewN (((Below.refl _ w).alloc (Nat.le_refl _) _).alloc (by simp) _) _).setCell (p := ⟨w.heap.size + 1, 0, none⟩) (by simp) _
set_option maxRecDepth 100000 in
set_option maxHeartbeats 1000000 in
theorem at_over (bn : Nat) (i N : Int) (w : World) (h0 : 0 ≤ i) (hi : N ≤ i) (hN : w.cell? ⟨bn, 5, none⟩ = some (.int .i64 N)) :
    Calls Try.prog 38 #[.pointer (some ⟨bn, 0, none⟩), .int .i64 i] w fun e W' => e = .returned (.pointer none) ∧ Below w.heap.size w W' := by
  have hI0 : decide (i < 0) = false := by simp [h0]
  have hI1 : decide (N ≤ i) = true := by simp [hi]
  have hbn : bn < w.heap.size := World.block_lt_of_cell? w _ hN
  go_enter Try.func38, Try.ntmps38
  go_wp2
  go_quiet (fail)
  go_wp2
  refine bodyPost_ret (v := .pointer none) (by simp [results, Try.f38, go_sem]) rfl ⟨rfl, ?_⟩
  exact (below_drewN (((Below.refl _ w).alloc (Nat.le_refl _) _).alloc (by simp) _) _).setCell (p := ⟨w.heap.size + 1, 0, none⟩) (by simp) _
theorem at_no {w : World} {bn bm : Nat} {L : List Nd} {K : List (Int × Int)} {lost : Int} (h : NetAt w bn bm L K lost) (i : Int) (hi : i < 0 ∨ (L.length : Int) ≤ i) :
    Calls Try.prog 38 #[.pointer (some ⟨bn, 0, none⟩), .int .i64 i] w fun e W' => e = .returned (.pointer none) ∧ Below w.heap.size w W' := by
  rcases Decidable.em (i < 0) with h0 | h0
  · exact at_neg bn i w h0
  · exact at_over bn i _ w (by omega) (by omega) h.cell5

theorem offS {w : World} {bn bm : Nat} {L : List Nd} {K : List (Int × Int)} {lost : Int} (h : NetAt w bn bm L K lost) (k : Int × Int) {w' : World} (hb : Below w.heap.size w w') :
    w'.cell? ⟨bn, 6, none⟩ = some (.map (some bm)) ∧ (Instr.lookup 59 (.map (some bm)) (cutKey k) true).run Try.prog w' = .ok (.tuple #[.agg #[], .bool (decide (k ∈ K))]) w' ∧ Below w.heap.size w w' :=
  ⟨(hb.cell (p := ⟨bn, 6, none⟩) (h.lt bn (by simp [blocks]))).trans h.cell6, lookup_cuts (h.cuts.kept (hb.block bm (h.lt bm (by simp [blocks])))) k, hb⟩
set_option maxRecDepth 100000 in
set_option maxHeartbeats 1000000 in
theorem off_any {w : World} {bn bm : Nat} {L : List Nd} {K : List (Int × Int)} {lost : Int} (h : NetAt w bn bm L K lost) (a b : Int) :
    Calls Try.prog 33 #[.pointer (some ⟨bn, 0, none⟩), .int .i64 a, .int .i64 b] w fun e W' => e = .returned (.bool (decide (mk a b ∈ K))) ∧ Below w.heap.size w W' := by
  go_enter Try.func33, Try.ntmps33
  go_wp2
  go_region_held3 (fun w' => w'.cell? ⟨bn, 6, none⟩ = some (.map (some bm)) ∧ (Instr.lookup 59 (.map (some bm)) (cutKey (mk a b)) true).run Try.prog w' = .ok (.tuple #[.agg #[], .bool (decide (mk a b ∈ K))]) w' ∧ Below w.heap.size w w')
    ((refine offS h (mk a b) ?_; first | exact Below.refl _ _ | exact (Below.refl _ _).drew | (obtain ⟨_, _, hB⟩ := ‹_ ∧ _ ∧ Below w.heap.size w _›; first | exact hB | exact below_new _ hB | exact hB.drew | exact below_step (by assumption) hB)))
    ((go_at_call 39; refine (pair_any a b _).mono ?_; rintro e w1 ⟨rfl, hb1⟩))
  all_goals go_wp2
  all_goals
    go_ret
    exact ⟨rfl, (‹_ ∧ _ ∧ Below w.heap.size w _›).2.2⟩
end Go.Proofs.Ytddndmhjkjanlaa
