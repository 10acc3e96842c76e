/- NetNone: a net that is none, or that New did not make. -/
import Derived.Test.YtddndmhjkjanlaaOa
namespace Go.Proofs.Ytddndmhjkjanlaa
open Go.RowKit Go.Shelf

def Nil (w : World) (v : Value) : Prop := v = .pointer none ∨ ∃ a : Nat, v = .pointer (some ⟨a, 0, none⟩) ∧ w.cell? ⟨a, 0, none⟩ = some (.bool false)
theorem Nil.below {w w' : World} {v : Value} (h : Nil w v) (hb : Below w.heap.size w w') : Nil w' v := by
  rcases h with h | ⟨a, h, hc⟩
  · exact .inl h
  · exact .inr ⟨a, h, (hb.cell (World.block_lt_of_cell? w _ hc)).trans hc⟩
theorem Nil.alloc {w : World} {v : Value} (h : Nil w v) (o : Obj) : Nil (w.alloc o) v := h.below (below_new _ (Below.refl _ _))
theorem nil_any {w : World} {v : Value} (h : Nil w v) : Calls Try.prog 31 #[v] w fun e w' => e = .returned (.bool true) ∧ w = w' := by
  rcases h with rfl | ⟨a, rfl, hc⟩
  · exact none_nil w
  · exact none_made _ false _ hc

variable {w : World} {v : Value}
set_option maxHeartbeats 1000000
theorem none_send (h : Nil w v) (f t : Int) (A : Option Addr) (n c : Nat) : Calls Try.prog 11 #[v, .agg #[.int .i64 f, .int .i64 t, .slice A n c]] w fun e w' => e = .returned (.int .i64 1) ∧ Below w.heap.size w w' := by
  have H := Lib.hid h
  clear h
  go_enter Try.func11, Try.ntmps11
  go_wp2_with (go_at_call 31; refine (nil_any (by first | exact H.out | exact H.out.alloc _)).mono ?_; rintro e w' ⟨rfl, rfl⟩)
  go_ret
  exact ⟨rfl, by first | exact Below.refl _ _ | exact below_new _ (Below.refl _ _)⟩
theorem none_take (h : Nil w v) (i : Int) : Calls Try.prog 24 #[v, .int .i64 i] w fun e w' => e = .returned (.tuple #[.agg #[.int .i64 0, .int .i64 0, .slice none 0 0], .int .i64 1]) ∧ Below w.heap.size w w' := by
  have H := Lib.hid h
  clear h
  go_enter Try.func24, Try.ntmps24
  go_wp2_with (go_at_call 31; refine (nil_any (by first | exact H.out | exact H.out.alloc _)).mono ?_; rintro e w' ⟨rfl, rfl⟩)
  refine bodyPost_ret (v := .tuple #[.agg #[.int .i64 0, .int .i64 0, .slice none 0 0], .int .i64 1]) (by simp [results, Try.f24, go_sem]) rfl ⟨rfl, ?_⟩
  exact below_new _ (Below.refl _ _)
theorem none_drop (h : Nil w v) (i : Int) : Calls Try.prog 23 #[v, .int .i64 i] w fun e w' => e = .returned (.int .i64 1) ∧ Below w.heap.size w w' := by
  have H := Lib.hid h
  clear h
  go_enter Try.func23, Try.ntmps23
  go_wp2_with fail
  refine (none_take H.out i).mono ?_
  rintro e w1 ⟨rfl, b1⟩
  go_wp2
  go_ret
  exact ⟨rfl, by first | exact b1 | exact below_new _ b1⟩
theorem none_copy (h : Nil w v) (i : Int) : Calls Try.prog 29 #[v, .int .i64 i] w fun e w' => e = .returned (.int .i64 1) ∧ Below w.heap.size w w' := by
  have H := Lib.hid h
  clear h
  go_enter Try.func29, Try.ntmps29
  go_wp2_with (go_at_call 31; refine (nil_any (by first | exact H.out | exact H.out.alloc _)).mono ?_; rintro e w' ⟨rfl, rfl⟩)
  go_ret
  exact ⟨rfl, by first | exact Below.refl _ _ | exact below_new _ (Below.refl _ _)⟩
theorem none_turn (h : Nil w v) (i k : Int) : Calls Try.prog 17 #[v, .int .i64 i, .int .i64 k] w fun e w' => e = .returned (.int .i64 1) ∧ Below w.heap.size w w' := by
  have H := Lib.hid h
  clear h
  go_enter Try.func17, Try.ntmps17
  go_wp2_with (go_at_call 31; refine (nil_any (by first | exact H.out | exact H.out.alloc _)).mono ?_; rintro e w' ⟨rfl, rfl⟩)
  go_ret
  exact ⟨rfl, by first | exact Below.refl _ _ | exact below_new _ (Below.refl _ _)⟩
theorem none_swap (h : Nil w v) (i k : Int) : Calls Try.prog 16 #[v, .int .i64 i, .int .i64 k] w fun e w' => e = .returned (.int .i64 1) ∧ Below w.heap.size w w' := by
  have H := Lib.hid h
  clear h
  go_enter Try.func16, Try.ntmps16
  go_wp2_with (go_at_call 31; refine (nil_any (by first | exact H.out | exact H.out.alloc _)).mono ?_; rintro e w' ⟨rfl, rfl⟩)
  go_ret
  exact ⟨rfl, by first | exact Below.refl _ _ | exact below_new _ (Below.refl _ _)⟩
theorem none_cut (h : Nil w v) (i k : Int) : Calls Try.prog 18 #[v, .int .i64 i, .int .i64 k, .bool true] w fun e w' => e = .returned (.int .i64 1) ∧ Below w.heap.size w w' := by
  have H := Lib.hid h
  clear h
  go_enter Try.func18, Try.ntmps18
  go_wp2_with (go_at_call 31; refine (nil_any (by first | exact H.out | exact H.out.alloc _)).mono ?_; rintro e w' ⟨rfl, rfl⟩)
  go_ret
  exact ⟨rfl, by first | exact Below.refl _ _ | exact below_new _ (Below.refl _ _)⟩
theorem none_waiting (h : Nil w v) : Calls Try.prog 13 #[v] w fun e w' => e = .returned (.slice none 0 0) ∧ Below w.heap.size w w' := by
  have H := Lib.hid h
  clear h
  go_enter Try.func13, Try.ntmps13
  go_wp2_with (go_at_call 31; refine (nil_any (by first | exact H.out | exact H.out.alloc _)).mono ?_; rintro e w' ⟨rfl, rfl⟩)
  go_ret
  exact ⟨rfl, by first | exact Below.refl _ _ | exact below_new _ (Below.refl _ _)⟩
theorem none_lost (h : Nil w v) : Calls Try.prog 20 #[v] w fun e w' => e = .returned (.int .i64 0) ∧ Below w.heap.size w w' := by
  have H := Lib.hid h
  clear h
  go_enter Try.func20, Try.ntmps20
  go_wp2_with (go_at_call 31; refine (nil_any (by first | exact H.out | exact H.out.alloc _)).mono ?_; rintro e w' ⟨rfl, rfl⟩)
  go_ret
  exact ⟨rfl, by first | exact Below.refl _ _ | exact below_new _ (Below.refl _ _)⟩

set_option maxRecDepth 100000 in
theorem netNone_any (f t i k : Int) (A : Option Addr) (n c : Nat) (w : World) (hn : n ≤ 140737488351232) :
    Calls Try.prog 7 #[.agg #[.int .i64 f, .int .i64 t, .slice A n c], .int .i64 i, .int .i64 k] w fun e w' => e = .returned (.bool true) ∧ Below w.heap.size w w' := by
  go_enter Try.func7, Try.ntmps7
  by_cases hb : 100 < n
  · go_wp2_with fail
    refine (awake_any _).mono ?_
    rintro e w1 ⟨rfl, b1⟩
    go_wp2
    go_ret
    exact ⟨rfl, below_step b1 (below_new _ (Below.refl _ _))⟩
  · go_wp2
    have hb0 : Below w.heap.size w (((w.alloc (.cells #[.int .i64 f, .int .i64 t, .slice A n c] 28)).alloc (.cells #[.bool false, .int .i64 0, .int .i64 0, .slice none 0 0, .pointer none, .int .i64 0, .map none, .int .i64 0] 61)).alloc (.cells #[.pointer none, .pointer (some ⟨w.heap.size + 1, 0, none⟩)] 24)) :=
      below_new _ (below_new _ (below_new _ (Below.refl _ _)))
    have hX : (((w.alloc (.cells #[.int .i64 f, .int .i64 t, .slice A n c] 28)).alloc (.cells #[.bool false, .int .i64 0, .int .i64 0, .slice none 0 0, .pointer none, .int .i64 0, .map none, .int .i64 0] 61)).alloc (.cells #[.pointer none, .pointer (some ⟨w.heap.size + 1, 0, none⟩)] 24)).heap[w.heap.size]? = some (.cells #[.int .i64 f, .int .i64 t, .slice A n c] 28 (0, 0)) :=
      (Below.heap_alloc _ _ _ (by simp; omega)).trans ((Below.heap_alloc _ _ _ (by simp)).trans (heap_alloc_new w _))
    have hZ : (((w.alloc (.cells #[.int .i64 f, .int .i64 t, .slice A n c] 28)).alloc (.cells #[.bool false, .int .i64 0, .int .i64 0, .slice none 0 0, .pointer none, .int .i64 0, .map none, .int .i64 0] 61)).alloc (.cells #[.pointer none, .pointer (some ⟨w.heap.size + 1, 0, none⟩)] 24)).heap[w.heap.size + 1]? = some (.cells #[.bool false, .int .i64 0, .int .i64 0, .slice none 0 0, .pointer none, .int .i64 0, .map none, .int .i64 0] 61 (0, 0)) := by
      refine (Below.heap_alloc _ _ _ (by simp)).trans ?_
      have := heap_alloc_new (w.alloc (.cells #[.int .i64 f, .int .i64 t, .slice A n c] 28)) (.cells #[.bool false, .int .i64 0, .int .i64 0, .slice none 0 0, .pointer none, .int .i64 0, .map none, .int .i64 0] 61)
      simpa using this
    have hL : (((w.alloc (.cells #[.int .i64 f, .int .i64 t, .slice A n c] 28)).alloc (.cells #[.bool false, .int .i64 0, .int .i64 0, .slice none 0 0, .pointer none, .int .i64 0, .map none, .int .i64 0] 61)).alloc (.cells #[.pointer none, .pointer (some ⟨w.heap.size + 1, 0, none⟩)] 24)).heap[w.heap.size + 1 + 1]? = some (.cells #[.pointer none, .pointer (some ⟨w.heap.size + 1, 0, none⟩)] 24 (0, 0)) := by
      have := heap_alloc_new ((w.alloc (.cells #[.int .i64 f, .int .i64 t, .slice A n c] 28)).alloc (.cells #[.bool false, .int .i64 0, .int .i64 0, .slice none 0 0, .pointer none, .int .i64 0, .map none, .int .i64 0] 61)) (.cells #[.pointer none, .pointer (some ⟨w.heap.size + 1, 0, none⟩)] 24)
      simpa using this
    have hS : (((w.alloc (.cells #[.int .i64 f, .int .i64 t, .slice A n c] 28)).alloc (.cells #[.bool false, .int .i64 0, .int .i64 0, .slice none 0 0, .pointer none, .int .i64 0, .map none, .int .i64 0] 61)).alloc (.cells #[.pointer none, .pointer (some ⟨w.heap.size + 1, 0, none⟩)] 24)).heap.size = w.heap.size + 1 + 1 + 1 := by simp
    generalize (((w.alloc (.cells #[.int .i64 f, .int .i64 t, .slice A n c] 28)).alloc (.cells #[.bool false, .int .i64 0, .int .i64 0, .slice none 0 0, .pointer none, .int .i64 0, .map none, .int .i64 0] 61)).alloc (.cells #[.pointer none, .pointer (some ⟨w.heap.size + 1, 0, none⟩)] 24)) = W3 at *
    have HB0 := Lib.hid hb0; have HX := Lib.hid hX; have HZ := Lib.hid hZ; have HL := Lib.hid hL
    have hS' : w.heap.size + 1 + 1 < W3.heap.size := by omega
    clear hb0 hX hZ hL hS
    go_loopw [9] (fun p wr => ∃ j : Nat, p = .int .i64 (j : Int) ∧ j ≤ 2 ∧ Below W3.heap.size W3 wr) (fun p wr => 2 - (intOf p).toNat)
    case atStart => exact ⟨0, rfl, by omega, Below.refl _ _⟩
    case round =>
      obtain ⟨j, rfl, hj, hBR⟩ := hrel
      have BR := Lib.hid hBR
      have hsr : w.heap.size + 1 + 1 < wr.heap.size := by have := hBR.size; omega
      clear hBR
      rcases (show j = 0 ∨ j = 1 ∨ j = 2 by omega) with rfl | rfl | rfl
      · have l0 : wr.cell? ⟨w.heap.size + 1 + 1, 0, none⟩ = some (.pointer none) := cell_of ((BR.out.block _ (by omega)).trans HL.out) 0 rfl
        have N0 := Lib.hid (show Nil wr (.pointer none) from .inl rfl)
        have x0 : wr.cell? ⟨w.heap.size, 0, none⟩ = some (.int .i64 f) := cell_of ((BR.out.block _ (by omega)).trans HX.out) 0 rfl
        go_wp2_with fail
        refine (none_take N0.out i).mono ?_
        rintro e w1 ⟨rfl, b1⟩
        have B1 := Lib.hid (below_step (below_new (.cells #[.int .i64 0, .int .i64 0, .slice none 0 0] 28) (Below.refl _ w1)) b1)
        have N1 := Lib.hid (N0.out.below B1.out)
        have B1' := Lib.hid (BR.out.trans (B1.out.mono BR.out.size))
        have hs1 : w.heap.size < w1.heap.size := by have := b1.size; have := BR.out.size; omega
        have y0 : w1.cell? ⟨w.heap.size, 0, none⟩ = some (.int .i64 f) := (b1.cell (p := ⟨w.heap.size, 0, none⟩) (by have := BR.out.size; dsimp only []; omega)).trans x0
        have x1 : wr.cell? ⟨w.heap.size, 1, none⟩ = some (.int .i64 t) := cell_of ((BR.out.block _ (by omega)).trans HX.out) 1 rfl
        have x2 : wr.cell? ⟨w.heap.size, 2, none⟩ = some (.slice A n c) := cell_of ((BR.out.block _ (by omega)).trans HX.out) 2 rfl
        have y1 : w1.cell? ⟨w.heap.size, 1, none⟩ = some (.int .i64 t) := (b1.cell (p := ⟨w.heap.size, 1, none⟩) (by have := BR.out.size; dsimp only []; omega)).trans x1
        have y2 : w1.cell? ⟨w.heap.size, 2, none⟩ = some (.slice A n c) := (b1.cell (p := ⟨w.heap.size, 2, none⟩) (by have := BR.out.size; dsimp only []; omega)).trans x2
        clear x0 x1 x2 b1
        go_wp2_with fail
        refine (none_send N1.out f t A n c).mono ?_
        rintro e w2 ⟨rfl, b2⟩
        have N2 := Lib.hid (N1.out.below b2); have B2 := Lib.hid (below_step b2 B1.out)
        have c0 : w2.cell? ⟨w1.heap.size, 0, none⟩ = some (.int .i64 0) := (b2.cell (p := ⟨w1.heap.size, 0, none⟩) (by simp)).trans (cell_of (heap_alloc_new w1 _) 0 rfl)
        have c1 : w2.cell? ⟨w1.heap.size, 1, none⟩ = some (.int .i64 0) := (b2.cell (p := ⟨w1.heap.size, 1, none⟩) (by simp)).trans (cell_of (heap_alloc_new w1 _) 1 rfl)
        have c2 : w2.cell? ⟨w1.heap.size, 2, none⟩ = some (.slice none 0 0) := (b2.cell (p := ⟨w1.heap.size, 2, none⟩) (by simp)).trans (cell_of (heap_alloc_new w1 _) 2 rfl)
        clear y0 y1 y2 b2 N1
        go_wp2_with fail
        refine (none_drop N2.out i).mono ?_
        rintro e w3 ⟨rfl, b3⟩
        have N3 := Lib.hid (N2.out.below b3); have B3 := Lib.hid (below_step b3 B2.out)
        clear b3 c0 c1 c2 N2 B2
        go_wp2_with fail
        refine (none_copy N3.out i).mono ?_
        rintro e w4 ⟨rfl, b4⟩
        have N4 := Lib.hid (N3.out.below b4); have B4 := Lib.hid (below_step b4 B3.out)
        clear b4 N3 B3
        go_wp2_with fail
        refine (none_turn N4.out i k).mono ?_
        rintro e w5 ⟨rfl, b5⟩
        have N5 := Lib.hid (N4.out.below b5); have B5 := Lib.hid (below_step b5 B4.out)
        clear b5 N4 B4
        go_wp2_with fail
        refine (none_swap N5.out i k).mono ?_
        rintro e w6 ⟨rfl, b6⟩
        have N6 := Lib.hid (N5.out.below b6); have B6 := Lib.hid (below_step b6 B5.out)
        clear b6 N5 B5
        go_wp2_with fail
        refine (none_cut N6.out i k).mono ?_
        rintro e w7 ⟨rfl, b7⟩
        have N7 := Lib.hid (N6.out.below b7); have B7 := Lib.hid (below_step b7 B6.out)
        clear b7 N6 B6
        go_wp2_with fail
        refine (none_waiting N7.out).mono ?_
        rintro e w8 ⟨rfl, b8⟩
        have N8 := Lib.hid (N7.out.below b8); have B8 := Lib.hid (below_step b8 B7.out)
        clear b8 N7 B7
        go_wp2_with fail
        refine (none_lost N8.out).mono ?_
        rintro e w9 ⟨rfl, b9⟩
        have B9 := Lib.hid (BR.out.trans ((below_step b9 B8.out).mono BR.out.size))
        clear b9 N8 B8
        go_wp2
        go_roundw
        case rel => exact ⟨1, rfl, by omega, B9.out⟩
        case measure => simp [intOf]
      · have l0 : wr.cell? ⟨w.heap.size + 1 + 1, 1, none⟩ = some (.pointer (some ⟨w.heap.size + 1, 0, none⟩)) := cell_of ((BR.out.block _ (by omega)).trans HL.out) 1 rfl
        have N0 := Lib.hid (show Nil wr (.pointer (some ⟨w.heap.size + 1, 0, none⟩)) from .inr ⟨_, rfl, cell_of ((BR.out.block _ (by omega)).trans HZ.out) 0 rfl⟩)
        have x0 : wr.cell? ⟨w.heap.size, 0, none⟩ = some (.int .i64 f) := cell_of ((BR.out.block _ (by omega)).trans HX.out) 0 rfl
        go_wp2_with fail
        refine (none_take N0.out i).mono ?_
        rintro e w1 ⟨rfl, b1⟩
        have B1 := Lib.hid (below_step (below_new (.cells #[.int .i64 0, .int .i64 0, .slice none 0 0] 28) (Below.refl _ w1)) b1)
        have N1 := Lib.hid (N0.out.below B1.out)
        have B1' := Lib.hid (BR.out.trans (B1.out.mono BR.out.size))
        have hs1 : w.heap.size < w1.heap.size := by have := b1.size; have := BR.out.size; omega
        have y0 : w1.cell? ⟨w.heap.size, 0, none⟩ = some (.int .i64 f) := (b1.cell (p := ⟨w.heap.size, 0, none⟩) (by have := BR.out.size; dsimp only []; omega)).trans x0
        have x1 : wr.cell? ⟨w.heap.size, 1, none⟩ = some (.int .i64 t) := cell_of ((BR.out.block _ (by omega)).trans HX.out) 1 rfl
        have x2 : wr.cell? ⟨w.heap.size, 2, none⟩ = some (.slice A n c) := cell_of ((BR.out.block _ (by omega)).trans HX.out) 2 rfl
        have y1 : w1.cell? ⟨w.heap.size, 1, none⟩ = some (.int .i64 t) := (b1.cell (p := ⟨w.heap.size, 1, none⟩) (by have := BR.out.size; dsimp only []; omega)).trans x1
        have y2 : w1.cell? ⟨w.heap.size, 2, none⟩ = some (.slice A n c) := (b1.cell (p := ⟨w.heap.size, 2, none⟩) (by have := BR.out.size; dsimp only []; omega)).trans x2
        clear x0 x1 x2 b1
        go_wp2_with fail
        refine (none_send N1.out f t A n c).mono ?_
        rintro e w2 ⟨rfl, b2⟩
        have N2 := Lib.hid (N1.out.below b2); have B2 := Lib.hid (below_step b2 B1.out)
        have c0 : w2.cell? ⟨w1.heap.size, 0, none⟩ = some (.int .i64 0) := (b2.cell (p := ⟨w1.heap.size, 0, none⟩) (by simp)).trans (cell_of (heap_alloc_new w1 _) 0 rfl)
        have c1 : w2.cell? ⟨w1.heap.size, 1, none⟩ = some (.int .i64 0) := (b2.cell (p := ⟨w1.heap.size, 1, none⟩) (by simp)).trans (cell_of (heap_alloc_new w1 _) 1 rfl)
        have c2 : w2.cell? ⟨w1.heap.size, 2, none⟩ = some (.slice none 0 0) := (b2.cell (p := ⟨w1.heap.size, 2, none⟩) (by simp)).trans (cell_of (heap_alloc_new w1 _) 2 rfl)
        clear y0 y1 y2 b2 N1
        go_wp2_with fail
        refine (none_drop N2.out i).mono ?_
        rintro e w3 ⟨rfl, b3⟩
        have N3 := Lib.hid (N2.out.below b3); have B3 := Lib.hid (below_step b3 B2.out)
        clear b3 c0 c1 c2 N2 B2
        go_wp2_with fail
        refine (none_copy N3.out i).mono ?_
        rintro e w4 ⟨rfl, b4⟩
        have N4 := Lib.hid (N3.out.below b4); have B4 := Lib.hid (below_step b4 B3.out)
        clear b4 N3 B3
        go_wp2_with fail
        refine (none_turn N4.out i k).mono ?_
        rintro e w5 ⟨rfl, b5⟩
        have N5 := Lib.hid (N4.out.below b5); have B5 := Lib.hid (below_step b5 B4.out)
        clear b5 N4 B4
        go_wp2_with fail
        refine (none_swap N5.out i k).mono ?_
        rintro e w6 ⟨rfl, b6⟩
        have N6 := Lib.hid (N5.out.below b6); have B6 := Lib.hid (below_step b6 B5.out)
        clear b6 N5 B5
        go_wp2_with fail
        refine (none_cut N6.out i k).mono ?_
        rintro e w7 ⟨rfl, b7⟩
        have N7 := Lib.hid (N6.out.below b7); have B7 := Lib.hid (below_step b7 B6.out)
        clear b7 N6 B6
        go_wp2_with fail
        refine (none_waiting N7.out).mono ?_
        rintro e w8 ⟨rfl, b8⟩
        have N8 := Lib.hid (N7.out.below b8); have B8 := Lib.hid (below_step b8 B7.out)
        clear b8 N7 B7
        go_wp2_with fail
        refine (none_lost N8.out).mono ?_
        rintro e w9 ⟨rfl, b9⟩
        have B9 := Lib.hid (BR.out.trans ((below_step b9 B8.out).mono BR.out.size))
        clear b9 N8 B8
        go_wp2
        go_roundw
        case rel => exact ⟨2, rfl, by omega, B9.out⟩
        case measure => simp [intOf]
      · go_wp2_with fail
        refine (awake_any _).mono ?_
        rintro e w10 ⟨rfl, b10⟩
        have B10 := Lib.hid (below_step b10 (HB0.out.trans (BR.out.mono HB0.out.size)))
        clear b10
        go_wp2
        go_ret
        exact ⟨rfl, B10.out⟩
end Go.Proofs.Ytddndmhjkjanlaa
