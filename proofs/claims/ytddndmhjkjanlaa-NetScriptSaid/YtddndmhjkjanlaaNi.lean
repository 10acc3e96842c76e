/- The net's Send, Lost: what each call answers, and what the net holds behind it. Conditions: the net holds what its word says; at most 10^6 datagrams, losses, bytes. -/
import Derived.Test.YtddndmhjkjanlaaNh
namespace Go.Proofs.Ytddndmhjkjanlaa
open Go.RowKit Go.Shelf

/-- A call has turned what the net holds from L to L'. -/
structure Step (w w' : World) (bn bm : Nat) (L L' : List Nd) (K' : List (Int × Int)) (lost' : Int) : Prop where
  net : NetAt w' bn bm L' K' lost'
  upd : Upd (· ∈ blocks bn bm L) w w'
  sub : ∀ k ∈ blocks bn bm L', k ∈ blocks bn bm L ∨ w.heap.size ≤ k
abbrev Dg := Int × Int × List UInt8
def vw (nd : Nd) : Dg := (nd.f, nd.t, nd.xs)

theorem Step.same {w w' : World} {bn bm : Nat} {L : List Nd} {K : List (Int × Int)} {lost : Int} (h : NetAt w bn bm L K lost) (hb : Below w.heap.size w w') : Step w w' bn bm L L K lost :=
  ⟨h.upd (S := fun _ => False) (Upd.of_below hb) (fun _ _ h => h), Upd.of_below hb, fun _ h => .inl h⟩

theorem net_lost {w : World} {bn bm : Nat} {L : List Nd} {K : List (Int × Int)} {lost : Int} (h : NetAt w bn bm L K lost) (l : Int) : NetAt (w.setCell ⟨bn, 7, none⟩ (.int .i64 l)) bn bm L K l := by
  have hnd := h.apart
  rw [blocks_eq] at hnd
  refine ⟨by rw [heap_set h.head]; rfl, h.chain.kept (fun k hk => heap_far _ _ _ ?_), h.cuts.kept (heap_far _ _ _ ?_), h.apart⟩
  · rintro rfl
    exact (List.nodup_cons.1 hnd).1 (by simp only [List.mem_cons]; exact .inr hk)
  · rintro rfl
    exact (List.nodup_cons.1 hnd).1 (by simp)

variable {w : World} {bn bm : Nat} {L : List Nd} {K : List (Int × Int)} {lost : Int}

set_option maxRecDepth 100000 in
set_option maxHeartbeats 1000000 in
theorem send_arg1 (h : NetAt w bn bm L K lost) (f t : Int) (v : Value) (hf : endB f = false) :
    Calls Try.prog 11 #[.pointer (some ⟨bn, 0, none⟩), .agg #[.int .i64 f, .int .i64 t, v]] w fun e w' => e = .returned (.int .i64 2) ∧ Step w w' bn bm L L K lost := by
  have hbn := h.lt bn (by simp [blocks])
  have h1 : NetAt (w.alloc (.cells #[.int .i64 f, .int .i64 t, v] 28)) bn bm L K lost := h.upd (S := fun _ => False) ((Upd.refl _ _).alloc _) (fun _ _ h => h)
  have c0 := h1.cell0
  go_enter Try.func11, Try.ntmps11
  go_wp2_with (first | (go_at_call 31; refine (none_made _ true _ c0).mono ?_; rintro e w' ⟨rfl, rfl⟩) | (go_at_call 32; refine (end_any _ _).mono ?_; rintro e w' ⟨rfl, rfl⟩))
  go_ret
  exact ⟨rfl, Step.same h ((Below.refl _ _).alloc (Nat.le_refl _) _)⟩
set_option maxRecDepth 100000 in
set_option maxHeartbeats 1000000 in
theorem send_arg2 (h : NetAt w bn bm L K lost) (f t : Int) (v : Value) (hf : endB f = true) (ht : endB t = false) :
    Calls Try.prog 11 #[.pointer (some ⟨bn, 0, none⟩), .agg #[.int .i64 f, .int .i64 t, v]] w fun e w' => e = .returned (.int .i64 2) ∧ Step w w' bn bm L L K lost := by
  have hbn := h.lt bn (by simp [blocks])
  have h1 : NetAt (w.alloc (.cells #[.int .i64 f, .int .i64 t, v] 28)) bn bm L K lost := h.upd (S := fun _ => False) ((Upd.refl _ _).alloc _) (fun _ _ h => h)
  have c0 := h1.cell0
  go_enter Try.func11, Try.ntmps11
  go_wp2_with (first | (go_at_call 31; refine (none_made _ true _ c0).mono ?_; rintro e w' ⟨rfl, rfl⟩) | (go_at_call 32; refine (end_any _ _).mono ?_; rintro e w' ⟨rfl, rfl⟩))
  go_ret
  exact ⟨rfl, Step.same h ((Below.refl _ _).alloc (Nat.le_refl _) _)⟩
set_option maxRecDepth 100000 in
set_option maxHeartbeats 1000000 in
theorem send_long (h : NetAt w bn bm L K lost) (f t : Int) (A : Option Addr) (n c : Nat) (hf : endB f = true) (ht : endB t = true) (hn : 1500 < n) :
    Calls Try.prog 11 #[.pointer (some ⟨bn, 0, none⟩), .agg #[.int .i64 f, .int .i64 t, .slice A n c]] w fun e w' => e = .returned (.int .i64 3) ∧ Step w w' bn bm L L K lost := by
  have hbn := h.lt bn (by simp [blocks])
  have h1 : NetAt (w.alloc (.cells #[.int .i64 f, .int .i64 t, .slice A n c] 28)) bn bm L K lost := h.upd (S := fun _ => False) ((Upd.refl _ _).alloc _) (fun _ _ h => h)
  have c0 := h1.cell0
  have hd : decide ((1500 : Int) < (n : Int)) = true := by simp; omega
  go_enter Try.func11, Try.ntmps11
  go_wp2_with (first | (go_at_call 31; refine (none_made _ true _ c0).mono ?_; rintro e w' ⟨rfl, rfl⟩) | (go_at_call 32; refine (end_any _ _).mono ?_; rintro e w' ⟨rfl, rfl⟩))
  go_ret
  exact ⟨rfl, Step.same h ((Below.refl _ _).alloc (Nat.le_refl _) _)⟩
set_option maxRecDepth 100000 in
set_option maxHeartbeats 1000000 in
theorem send_cut (h : NetAt w bn bm L K lost) (f t : Int) (A : Option Addr) (n c : Nat) (hf : endB f = true) (ht : endB t = true) (hn : n ≤ 1500) (hk : mk f t ∈ K) (hl0 : 0 ≤ lost) (hl : lost ≤ 1000000) :
    Calls Try.prog 11 #[.pointer (some ⟨bn, 0, none⟩), .agg #[.int .i64 f, .int .i64 t, .slice A n c]] w fun e w' => e = .returned (.int .i64 0) ∧ Step w w' bn bm L L K (lost + 1) := by
  have hbn := h.lt bn (by simp [blocks])
  have h1 : NetAt (w.alloc (.cells #[.int .i64 f, .int .i64 t, .slice A n c] 28)) bn bm L K lost := h.upd (S := fun _ => False) ((Upd.refl _ _).alloc _) (fun _ _ h => h)
  have c0 := h1.cell0
  have hd : decide ((1500 : Int) < (n : Int)) = false := by simp; omega
  have hk' : decide (mk f t ∈ K) = true := by simp [hk]
  go_enter Try.func11, Try.ntmps11
  go_wp2_with (first | (go_at_call 31; refine (none_made _ true _ c0).mono ?_; rintro e w' ⟨rfl, rfl⟩) | (go_at_call 32; refine (end_any _ _).mono ?_; rintro e w' ⟨rfl, rfl⟩))
  refine (off_any h1 f t).mono ?_
  rintro e w1 ⟨rfl, hb1⟩
  have h2 : NetAt w1 bn bm L K lost := h1.upd (S := fun _ => False) (Upd.of_below hb1) (fun _ _ h => h)
  have c7 := h2.cell7
  have f7 := frozen_of h2.head 7
  go_wp2
  go_ret
  have hb2 : Below w.heap.size w w1 := ((Below.refl _ _).alloc (Nat.le_refl _) _).trans (hb1.mono (by simp))
  exact ⟨rfl, net_lost h2 (lost + 1), ((Upd.of_below hb2).setCell (p := ⟨bn, 7, none⟩) (.inl (by simp [blocks])) _), fun _ h => .inl h⟩
set_option maxRecDepth 100000 in
set_option maxHeartbeats 1000000 in
theorem send_full (h : NetAt w bn bm L K lost) (f t : Int) (A : Option Addr) (n c : Nat) (hf : endB f = true) (ht : endB t = true) (hn : n ≤ 1500) (hk : ¬ mk f t ∈ K) (hL : 2000 ≤ L.length) :
    Calls Try.prog 11 #[.pointer (some ⟨bn, 0, none⟩), .agg #[.int .i64 f, .int .i64 t, .slice A n c]] w fun e w' => e = .returned (.int .i64 8) ∧ Step w w' bn bm L L K lost := by
  have hbn := h.lt bn (by simp [blocks])
  have h1 : NetAt (w.alloc (.cells #[.int .i64 f, .int .i64 t, .slice A n c] 28)) bn bm L K lost := h.upd (S := fun _ => False) ((Upd.refl _ _).alloc _) (fun _ _ h => h)
  have c0 := h1.cell0
  have hd : decide ((1500 : Int) < (n : Int)) = false := by simp; omega
  have hk' : decide (mk f t ∈ K) = false := by simp [hk]
  have hd2 : decide ((2000 : Int) ≤ (L.length : Int)) = true := by simp; omega
  go_enter Try.func11, Try.ntmps11
  go_wp2_with (first | (go_at_call 31; refine (none_made _ true _ c0).mono ?_; rintro e w' ⟨rfl, rfl⟩) | (go_at_call 32; refine (end_any _ _).mono ?_; rintro e w' ⟨rfl, rfl⟩))
  refine (off_any h1 f t).mono ?_
  rintro e w1 ⟨rfl, hb1⟩
  have h2 : NetAt w1 bn bm L K lost := h1.upd (S := fun _ => False) (Upd.of_below hb1) (fun _ _ h => h)
  have c5 := h2.cell5
  go_wp2
  go_ret
  have hb2 : Below w.heap.size w w1 := ((Below.refl _ _).alloc (Nat.le_refl _) _).trans (hb1.mono (by simp))
  exact ⟨rfl, Step.same h hb2⟩
set_option maxRecDepth 100000 in
set_option maxHeartbeats 1000000 in
theorem send_goes (h : NetAt w bn bm L K lost) (f t : Int) (v : Value) (xs : List UInt8) (hv : RB w v xs) (hf : endB f = true) (ht : endB t = true) (hn : xs.length ≤ 1500) (hk : ¬ mk f t ∈ K) (hL : L.length < 2000) :
    Calls Try.prog 11 #[.pointer (some ⟨bn, 0, none⟩), .agg #[.int .i64 f, .int .i64 t, v]] w fun e w' => e = .returned (.int .i64 0) ∧ ∃ nd, vw nd = (f, t, xs) ∧ Step w w' bn bm L (L ++ [nd]) K lost := by
  have hv' := hv
  obtain ⟨A, c, rfl, _⟩ := hv'
  have hbn := h.lt bn (by simp [blocks])
  have h1 : NetAt (w.alloc (.cells #[.int .i64 f, .int .i64 t, .slice A xs.length c] 28)) bn bm L K lost := h.upd (S := fun _ => False) ((Upd.refl _ _).alloc _) (fun _ _ h => h)
  have hv1 := hv.alloc (.cells #[.int .i64 f, .int .i64 t, .slice A xs.length c] 28)
  have c0 := h1.cell0
  have hd : decide ((1500 : Int) < (xs.length : Int)) = false := by simp; omega
  have hk' : decide (mk f t ∈ K) = false := by simp [hk]
  have hd2 : decide ((2000 : Int) ≤ (L.length : Int)) = false := by simp; omega
  have hblk := Lib.hid (heap_alloc_new w (.cells #[.int .i64 f, .int .i64 t, .slice A xs.length c] 28))
  go_enter Try.func11, Try.ntmps11
  go_wp2_with (first | (go_at_call 31; refine (none_made _ true _ c0).mono ?_; rintro e w' ⟨rfl, rfl⟩) | (go_at_call 32; refine (end_any _ _).mono ?_; rintro e w' ⟨rfl, rfl⟩))
  refine (off_any h1 f t).mono ?_
  rintro e w1 ⟨rfl, hb1⟩
  have h2 : NetAt w1 bn bm L K lost := h1.upd (S := fun _ => False) (Upd.of_below hb1) (fun _ _ h => h)
  have hv2 := hv1.below hb1
  have c5 := h2.cell5
  have k0 := (hb1.block w.heap.size (by simp)).trans hblk.out
  have d0 : w1.cell? ⟨w.heap.size, 0, none⟩ = some (.int .i64 f) := cell_of k0 0 rfl
  have d1 : w1.cell? ⟨w.heap.size, 1, none⟩ = some (.int .i64 t) := cell_of k0 1 rfl
  have d2 : w1.cell? ⟨w.heap.size, 2, none⟩ = some (.slice A xs.length c) := cell_of k0 2 rfl
  have hb2 : Below w.heap.size w w1 := ((Below.refl _ _).alloc (Nat.le_refl _) _).trans (hb1.mono (by simp))
  have HB2 := Lib.hid hb2
  clear k0 hb1 hb2
  go_wp2_with fail
  refine (last_any bn bm L K lost f t _ xs w1 h2 hv2 (by omega) (by omega)).mono ?_
  rintro e w2 ⟨rfl, nd, hnf, hnt, hnx, hN2, hU2, hnew⟩
  have HH := Lib.hid (And.intro hnf (And.intro hnt hnx))
  clear hnf hnt hnx
  go_wp2
  go_ret
  have hb := HB2.out
  have hsz := hb.size
  refine ⟨rfl, nd, by obtain ⟨rfl, rfl, rfl⟩ := HH.out; rfl, hN2, (Upd.of_below hb).trans (hU2.mono (fun _ _ h => .inl h)), fun k hk => ?_⟩
  rw [blocks_eq, nodeBlocks_append] at hk
  simp only [List.mem_cons, List.mem_append] at hk
  rw [blocks_eq]
  simp only [List.mem_cons]
  rcases hk with rfl | rfl | hk | hk
  · exact .inl (.inl rfl)
  · exact .inl (.inr (.inl rfl))
  · exact .inl (.inr (.inr hk))
  · exact .inr (by have := hnew k hk; omega)
end Go.Proofs.Ytddndmhjkjanlaa
