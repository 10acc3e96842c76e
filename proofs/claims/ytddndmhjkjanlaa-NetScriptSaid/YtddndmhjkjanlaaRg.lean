/- The document's net: Copy at any place; Send. Conditions: it holds what its word says; fewer than 10^6 losses. -/
import Derived.Test.YtddndmhjkjanlaaRf
namespace Go.Proofs.Ytddndmhjkjanlaa
open Go.RowKit Go.Shelf
variable {w : World} {r : Nat} {M : St} {Kp : List Nat}

theorem rcopy_any (h : RNet w r M Kp) (hkp : ∀ k ∈ Kp, k < w.heap.size) (i : Int) :
    Calls Try.prog 42 #[.pointer (some ⟨r, 0, none⟩), .int .i64 i] w fun e w' => e = .returned (.int .i64 (M.copy i).1) ∧ RStep w w' r (M.copy i).2 Kp := by
  unfold St.copy
  rcases hi : M.at? i with _ | k
  · dsimp only []
    refine (rcopy_no h i hi).mono ?_
    rintro e w' ⟨rfl, rfl⟩
    exact ⟨rfl, RStep.same h (Below.refl _ _)⟩
  · have hi2 := hi
    obtain ⟨rfl, hk⟩ := St.at?_some hi2
    dsimp only []
    by_cases hf : 2000 ≤ M.l.length
    · rw [if_pos hf]
      refine (rcopy_full h _ hi hf).mono ?_
      rintro e w' ⟨rfl, rfl⟩
      exact ⟨rfl, RStep.same h (Below.refl _ _)⟩
    · rw [if_neg hf]
      exact rcopy_yes h hkp k hk (by omega)

theorem RStep.old {w0 w' : World} {M' : St} (hb : Below w.heap.size w w0) (h : RStep w0 w' r M' Kp) : RStep w w' r M' Kp := by
  refine ⟨h.net.more (fun k hk => ?_), (Upd.of_below hb).grow h.upd⟩
  rw [mem_kmore] at hk ⊢
  have := hb.size
  rcases hk with hk | hk
  · exact .inl hk
  · exact .inr ⟨by omega, hk.2⟩

theorem rsend_arg1 (f t : Int) (v : Value) (hf : endB f = false) (w : World) (r : Nat) : Calls Try.prog 47 #[.pointer (some ⟨r, 0, none⟩), .agg #[.int .i64 f, .int .i64 t, v]] w fun e w' => e = .returned (.int .i64 2) ∧ Below w.heap.size w w' := by
  have hb := Lib.hid (below_new (.cells #[.int .i64 f, .int .i64 t, v] 28) (Below.refl _ w))
  go_enter Try.func47, Try.ntmps47
  go_wp2_with fail
  refine (rend_any f _).mono ?_
  rintro e w' ⟨rfl, rfl⟩
  rw [hf]
  go_wp2
  go_ret
  exact ⟨rfl, hb.out⟩
theorem rsend_arg2 (f t : Int) (v : Value) (hf : endB f = true) (ht : endB t = false) (w : World) (r : Nat) : Calls Try.prog 47 #[.pointer (some ⟨r, 0, none⟩), .agg #[.int .i64 f, .int .i64 t, v]] w fun e w' => e = .returned (.int .i64 2) ∧ Below w.heap.size w w' := by
  have hb := Lib.hid (below_new (.cells #[.int .i64 f, .int .i64 t, v] 28) (Below.refl _ w))
  go_enter Try.func47, Try.ntmps47
  go_wp2_with fail
  refine (rend_any f _).mono ?_
  rintro e w' ⟨rfl, rfl⟩
  rw [hf]
  go_wp2_with fail
  refine (rend_any t _).mono ?_
  rintro e w' ⟨rfl, rfl⟩
  rw [ht]
  go_wp2
  go_ret
  exact ⟨rfl, hb.out⟩
theorem rsend_long (f t : Int) (A : Option Addr) (n c : Nat) (hf : endB f = true) (ht : endB t = true) (hn : 1500 < n) (w : World) (r : Nat) : Calls Try.prog 47 #[.pointer (some ⟨r, 0, none⟩), .agg #[.int .i64 f, .int .i64 t, .slice A n c]] w fun e w' => e = .returned (.int .i64 3) ∧ Below w.heap.size w w' := by
  have hb := Lib.hid (below_new (.cells #[.int .i64 f, .int .i64 t, .slice A n c] 28) (Below.refl _ w))
  have hn2 : (1500 : Int) < (n : Int) := by omega
  go_enter Try.func47, Try.ntmps47
  go_wp2_with fail
  refine (rend_any f _).mono ?_
  rintro e w' ⟨rfl, rfl⟩
  rw [hf]
  go_wp2_with fail
  refine (rend_any t _).mono ?_
  rintro e w' ⟨rfl, rfl⟩
  rw [ht]
  go_wp2
  go_ret
  exact ⟨rfl, hb.out⟩
set_option maxHeartbeats 2000000 in
theorem rsend_cut (h : RNet w r M Kp) (hkp : ∀ k ∈ Kp, k < w.heap.size) (hl : M.lost < 1000000) (f t : Int) (A : Option Addr) (n c : Nat) (hf : endB f = true) (ht : endB t = true) (hn : ¬ 1500 < n) (hk : mk f t ∈ M.K) :
    Calls Try.prog 47 #[.pointer (some ⟨r, 0, none⟩), .agg #[.int .i64 f, .int .i64 t, .slice A n c]] w fun e w' => e = .returned (.int .i64 0) ∧ RStep w w' r { M with lost := M.lost + 1 } Kp := by
  have hb := below_new (.cells #[.int .i64 f, .int .i64 t, .slice A n c] 28) (Below.refl _ w)
  have hC := Lib.hid (rcut_any (h.below hb) f t)
  have HB := Lib.hid hb
  have hn2 : (n : Int) ≤ 1500 := by omega
  have hself := h.self
  have hok := Lib.hid h.ok
  have hlo := h.ok.low
  have hd : decide (mk f t ∈ M.K) = true := decide_eq_true hk
  rw [hd] at hC
  have H := Lib.hid h
  clear h hb hk hd hn
  go_enter Try.func47, Try.ntmps47
  go_wp2_with fail
  refine (rend_any f _).mono ?_
  rintro e w' ⟨rfl, rfl⟩
  rw [hf]
  go_wp2_with fail
  refine (rend_any t _).mono ?_
  rintro e w' ⟨rfl, rfl⟩
  rw [ht]
  go_wp2_with fail
  refine hC.out.mono ?_
  rintro e w2 ⟨rfl, B2⟩
  have B3 := below_step B2 HB.out
  have hs2 := RStep.same H.out B3
  obtain ⟨vL, vK, l, -, hh, -⟩ := hs2.net.mem
  have c2 := cell_of hh 2 rfl
  have f2 := frozen_of hh 2
  have HS := Lib.hid hs2
  clear hs2 hh B2 B3 hC
  go_wp2
  go_ret
  exact ⟨rfl, HS.out.then_n (M' := { M with lost := M.lost + 1 }) hself rfl rfl ⟨hok.out.len, hok.out.each, by dsimp only []; omega, by dsimp only []; omega⟩⟩
set_option maxHeartbeats 2000000 in
theorem rsend_full (h : RNet w r M Kp) (f t : Int) (A : Option Addr) (n c : Nat) (hf : endB f = true) (ht : endB t = true) (hn : ¬ 1500 < n) (hk : mk f t ∉ M.K) (hl : 2000 ≤ M.l.length) :
    Calls Try.prog 47 #[.pointer (some ⟨r, 0, none⟩), .agg #[.int .i64 f, .int .i64 t, .slice A n c]] w fun e w' => e = .returned (.int .i64 8) ∧ Below w.heap.size w w' := by
  have hb := below_new (.cells #[.int .i64 f, .int .i64 t, .slice A n c] 28) (Below.refl _ w)
  have hC := Lib.hid (rcut_any (h.below hb) f t)
  have HB := Lib.hid hb
  have hn2 : (n : Int) ≤ 1500 := by omega
  have hd : decide (mk f t ∈ M.K) = false := decide_eq_false hk
  rw [hd] at hC
  have H := Lib.hid h
  clear h hb hk hd hn
  go_enter Try.func47, Try.ntmps47
  go_wp2_with fail
  refine (rend_any f _).mono ?_
  rintro e w' ⟨rfl, rfl⟩
  rw [hf]
  go_wp2_with fail
  refine (rend_any t _).mono ?_
  rintro e w' ⟨rfl, rfl⟩
  rw [ht]
  go_wp2_with fail
  refine hC.out.mono ?_
  rintro e w2 ⟨rfl, B2⟩
  have B3 := below_step B2 HB.out
  obtain ⟨A, c, l, vK, ho⟩ := (H.out.below B3).opened
  have c0 := cell_of ho.head 0 rfl
  have hlen := ho.len
  have hl2 : (2000 : Int) ≤ (l.length : Int) := by omega
  replace B3 := Lib.hid B3
  clear ho B2 hC hlen
  go_wp2
  go_ret
  exact ⟨rfl, B3.out⟩
end Go.Proofs.Ytddndmhjkjanlaa
