/- What the law asks of satchelkit: KeptBytes. Conditions: at most 10^6 bytes. -/
import Derived.Test.YtddndmhjkjanlaaRl
namespace Go.Proofs.Ytddndmhjkjanlaa
open Go.RowKit Go.Shelf
variable {w : World}
set_option maxHeartbeats 1000000 in
theorem kept_any (g : Nat) (v : Value) (xs : List UInt8) (w : World) (h : RB w v xs) (hl : xs.length ≤ 1000000) (hh : w.heap[g]? = some (.cells (byv (xs ++ marksB xs.length)).toArray 5 (0, 0))) :
    Calls Try.prog 48 #[.slice (some ⟨g, 0, none⟩) xs.length (xs.length + 3), v] w fun e w' => e = .returned (.bool true) ∧ Below w.heap.size w w' := by
  obtain ⟨A, c, rfl, _⟩ := id h
  have H := Lib.hid h; have HH := Lib.hid hh
  have hw3 : IntKind.i64.wrap ((xs.length : Int) + 3) = (xs.length : Int) + 3 := by simp [IntKind.wrap, IntKind.bits, IntKind.signed]; omega
  have hle : (xs.length : Int) + 3 ≤ ((xs.length + 3 : Nat) : Int) := by omega
  have h03 : (0 : Int) ≤ (xs.length : Int) + 3 := by omega
  clear h hh
  go_enter Try.func48, Try.ntmps48
  go_wp2
  have hB0 := Below.refl w.heap.size w
  go_region_held3 (fun w' => Below w.heap.size w w')
    ((first | assumption | exact (Below.refl _ _).drew | exact below_step (by assumption) (by assumption) | exact Below.drew (by assumption)))
    (first | (go_at_call 46; refine (lent_any (.slice A xs.length c) xs _ (H.out.below (by assumption)) hl).mono ?_; rintro e w1 ⟨rfl, h1, b1⟩; replace h1 := Lib.hid h1) | (go_at_call 35; refine (sameBytes_is _ _ (xs ++ marksB xs.length) (xs ++ marksB xs.length) _ (lent_rb rfl (((by assumption : Below w.heap.size w _).block g (Array.getElem?_eq_some_iff.1 HH.out).1).trans HH.out)) (lent_rb rfl h1.out) true (by simp)).mono ?_; rintro e w2 ⟨rfl, rfl⟩))
  all_goals
    clear hB0
    go_wp2
    go_ret
    exact ⟨rfl, by assumption⟩
end Go.Proofs.Ytddndmhjkjanlaa
