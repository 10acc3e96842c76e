/- The examples' net: begun, awake. -/
import Derived.Test.YtddndmhjkjanlaaNt
namespace Go.Proofs.Ytddndmhjkjanlaa
open Go.RowKit Go.Shelf

def M0 : St := ⟨[(0, 1, [7]), (0, 2, [6]), (0, 1, [5])], [], 0⟩

set_option maxRecDepth 100000 in
set_option maxHeartbeats 1000000 in
theorem begun_any (w : World) : Calls Try.prog 21 #[] w fun e w' => ∃ bn, e = .returned (.pointer (some ⟨bn, 0, none⟩)) ∧ NS w' bn M0 w.heap.size [] ∧ Below w.heap.size w w' := by
  go_enter Try.func21, Try.ntmps21
  go_wp2_with fail
  refine (new_ns _).mono ?_
  rintro e w1 ⟨rfl, h1, b1⟩
  have h1 := Lib.hid h1; have b1 := Lib.hid b1
  generalize w.heap.size + 1 = bn at *
  go_wp2_with fail
  refine (one_any 0 1 5 _).mono ?_
  rintro e w2 ⟨rfl, r2, b2⟩
  have r2 := Lib.hid r2; have b2 := Lib.hid b2
  go_wp2_with fail
  refine ((h1.out.below b2.out).send' (0, 1, [5]) _ r2.out (by decide) (r := 0) (M' := ⟨[(0, 1, [5])], [], 0⟩) (by decide)).mono ?_
  rintro e w3 ⟨rfl, h3, u3⟩
  have b3 := Lib.hid (below_step b2.out b1.out |>.trans (u3.far (by have := b1.out.size; have := b2.out.size; omega)))
  have h3 := Lib.hid h3
  clear u3 h1 b1 r2 b2
  go_wp2_with fail
  refine (one_any 0 2 6 _).mono ?_
  rintro e w4 ⟨rfl, r4, b4⟩
  have r4 := Lib.hid r4; have b4 := Lib.hid b4
  go_wp2_with fail
  refine ((h3.out.below b4.out).send' (0, 2, [6]) _ r4.out (by decide) (r := 0) (M' := ⟨[(0, 1, [5]), (0, 2, [6])], [], 0⟩) (by decide)).mono ?_
  rintro e w5 ⟨rfl, h5, u5⟩
  have b5 := Lib.hid (below_step b4.out b3.out |>.trans (u5.far (by have := b3.out.size; have := b4.out.size; omega)))
  have h5 := Lib.hid h5
  clear u5 h3 b3 r4 b4
  go_wp2_with fail
  refine (h5.out.first' 2 (r := 1) (by decide)).mono ?_
  rintro e w6 ⟨rfl, b6⟩
  have h6 := Lib.hid (h5.out.below b6); have b6 := Lib.hid (below_step b6 b5.out)
  clear h5 b5
  go_wp2_with fail
  refine (h6.out.copy' 0 (r := 0) (M' := ⟨[(0, 1, [5]), (0, 2, [6]), (0, 1, [5])], [], 0⟩) (by decide)).mono ?_
  rintro e w7 ⟨rfl, h7, u7⟩
  have b7 := Lib.hid (b6.out.trans (u7.far b6.out.size)); have h7 := Lib.hid h7
  clear u7 h6 b6
  go_wp2_with fail
  refine (h7.out.turn' 0 1 (by decide) (r := 0) (M' := M0) (by decide)).mono ?_
  rintro e w8 ⟨rfl, h8, u8⟩
  have b8 := Lib.hid (b7.out.trans (u8.far b7.out.size)); have h8 := Lib.hid h8
  clear u8 h7 b7
  go_wp2
  go_ret
  exact ⟨bn, rfl, h8.out, b8.out⟩
end Go.Proofs.Ytddndmhjkjanlaa
