/- NetKnown: the chapter's examples. -/
import Derived.Test.YtddndmhjkjanlaaNv
namespace Go.Proofs.Ytddndmhjkjanlaa
open Go.RowKit Go.Shelf

theorem inB_one {g k : Nat} (h : inB (.slice (some ⟨g, 0, none⟩) 1 1) k) : k = g := by
  obtain ⟨ad, n, c, e, rfl⟩ := h
  injection e with e1
  injection e1 with e1
  rw [← e1]

set_option maxRecDepth 100000 in
set_option maxHeartbeats 1000000 in
theorem known_any (w : World) : Calls Try.prog 5 #[] w fun e w' => e = .returned (.bool true) ∧ Below w.heap.size w w' := by
  go_enter Try.func5, Try.ntmps5
  go_wp2_with fail
  refine (begun_any _).mono ?_
  rintro e w1 ⟨bn, rfl, h1, b1⟩
  have h1 := Lib.hid h1; have b1 := Lib.hid b1
  go_wp2_with fail
  refine (one_any 0 1 7 _).mono ?_
  rintro e w2 ⟨rfl, r2, b2⟩
  have hs2 : w1.heap.size + 1 < w2.heap.size := by
    have := r2.lt (by simp) (w1.heap.size + 1) ⟨_, _, _, rfl, rfl⟩
    omega
  have r2 := Lib.hid r2; have b2 := Lib.hid b2
  go_wp2_with fail
  refine (is_any (h1.out.more b2.out [w1.heap.size + 1] (by simp; omega)) 0 (d := (0, 1, [7])) (r := 0) (M' := ⟨[(0, 2, [6]), (0, 1, [5])], [], 0⟩) (by decide) 0 1 _ _ [7] r2.out (fun k hk _ hf => hf.2 (by rw [inB_one hk]; simp))).mono ?_
  rintro e w3 ⟨rfl, h3, u3⟩
  have b3 := Lib.hid (below_step b2.out b1.out |>.trans (u3.far (by have := b1.out.size; have := b2.out.size; omega)))
  have h3 := Lib.hid h3.unmore
  have e0 : (decide ((0 : Int) = 0) && decide ((((0 : Int), (1 : Int), [(7 : UInt8)]) : Dg) = (0, 1, [7]))) = true := by decide
  rw [e0]
  clear u3 h1 b1 r2 b2 e0
  go_wp2_with fail
  refine (h3.out.drop' 0 (by decide) (r := 0) (M' := ⟨[(0, 1, [5])], [], 1⟩) (by decide)).mono ?_
  rintro e w4 ⟨rfl, h4, u4⟩
  have b4 := Lib.hid (b3.out.trans (u4.far b3.out.size)); have h4 := Lib.hid h4
  clear u4 h3 b3
  go_wp2_with fail
  refine h4.out.lost.mono ?_
  rintro e w4' ⟨rfl, rfl⟩
  go_wp2_with fail
  refine (h4.out.take' 9 (d := zD) (r := 6) (M' := ⟨[(0, 1, [5])], [], 1⟩) (by decide)).mono ?_
  rintro e w5 ⟨A5, c5, rfl, -, h5, u5⟩
  have b5 := Lib.hid (b4.out.trans (u5.far b4.out.size)); have h5 := Lib.hid h5.unmore
  clear u5 h4 b4
  unfold zD
  go_wp2_with fail
  refine ((h5.out.below (below_new _ (Below.refl _ _))).cut' 1 0 true (r := 0) (M' := ⟨[(0, 1, [5])], [(0, 1)], 1⟩) (by decide)).mono ?_
  rintro e w6 ⟨rfl, h6, u6⟩
  have b6 := Lib.hid ((below_new _ b5.out).trans (u6.far (Nat.le_trans b5.out.size (by simp)))); have h6 := Lib.hid h6
  clear u6 h5 b5
  go_wp2_with fail
  refine (one_any 0 1 8 _).mono ?_
  rintro e w7 ⟨rfl, r7, b7⟩
  have r7 := Lib.hid r7; have b7 := Lib.hid b7
  go_wp2_with fail
  refine ((h6.out.below b7.out).send' (0, 1, [8]) _ r7.out (by decide) (r := 0) (M' := ⟨[(0, 1, [5])], [(0, 1)], 2⟩) (by decide)).mono ?_
  rintro e w8 ⟨rfl, h8, u8⟩
  have b8 := Lib.hid (below_step b7.out b6.out |>.trans (u8.far (by have := b6.out.size; have := b7.out.size; omega))); have h8 := Lib.hid h8
  clear u8 h6 b6 r7 b7
  go_wp2_with fail
  refine h8.out.lost.mono ?_
  rintro e w8' ⟨rfl, rfl⟩
  go_wp2_with fail
  refine (awake_any _).mono ?_
  rintro e w9 ⟨rfl, b9⟩
  have h9 := Lib.hid (h8.out.below b9); have b9 := Lib.hid (below_step b9 b8.out)
  clear h8 b8
  go_wp2_with fail
  refine (h9.out.cut' 0 64 true (r := 2) (M' := ⟨[(0, 1, [5])], [(0, 1)], 2⟩) (by decide)).mono ?_
  rintro e w10 ⟨rfl, h10, u10⟩
  have b10 := Lib.hid (b9.out.trans (u10.far b9.out.size)); have h10 := Lib.hid h10
  clear u10 h9 b9
  go_wp2_with fail
  refine (h10.out.turn' 0 8 (by decide) (r := 5) (M' := ⟨[(0, 1, [5])], [(0, 1)], 2⟩) (by decide)).mono ?_
  rintro e w11 ⟨rfl, h11, u11⟩
  have b11 := Lib.hid (b10.out.trans (u11.far b10.out.size)); have h11 := Lib.hid h11
  clear u11 h10 b10
  go_wp2_with fail
  refine (one_any 64 0 1 _).mono ?_
  rintro e w12 ⟨rfl, r12, b12⟩
  have r12 := Lib.hid r12; have b12 := Lib.hid b12
  go_wp2_with fail
  refine ((h11.out.below b12.out).send' (64, 0, [1]) _ r12.out (by decide) (r := 2) (M' := ⟨[(0, 1, [5])], [(0, 1)], 2⟩) (by decide)).mono ?_
  rintro e w13 ⟨rfl, h13, u13⟩
  have b13 := Lib.hid (below_step b12.out b11.out |>.trans (u13.far (by have := b11.out.size; have := b12.out.size; omega)))
  clear u13 h13 h11 b11 r12 b12
  go_wp2
  go_ret
  exact ⟨rfl, b13.out⟩
end Go.Proofs.Ytddndmhjkjanlaa
