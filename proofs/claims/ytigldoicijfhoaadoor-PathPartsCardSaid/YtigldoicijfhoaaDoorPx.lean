/- What a printed text may ask of path.Check, path.order and the library: each as a Lean function with its contract. Conditions: in the functions themselves. -/
import Derived.Test.YtigldoicijfhoaaDoorPh
namespace Go.Proofs.YtigldoicijfhoaaDoor
open Go.RowKit H

def path_Check.f (a0 : ByteArray) : Option (Int × Int) := some (chk a0.data.toList)
theorem path_Check.calls (a0 : ByteArray) (r1 : Int) (r2 : Int) (w : World) (h : path_Check.f a0 = some (r1, r2)) :
    Calls Tryd.prog 9 #[.string a0] w fun e w' => e = .returned (.agg #[.int .i64 r1, .int .i64 r2]) ∧ Below w.heap.size w w' := by
  have := check_any a0.data.toList w
  rw [mkB_of] at this
  unfold path_Check.f at h
  injection h with h
  rwa [h] at this
theorem fldF0 (a b : Int) (w : World) : (Instr.field 29 (.agg #[.int .i64 a, .int .i64 b]) 0).run Tryd.prog w = .ok (.int .i64 a) w := by kernel_rfl
theorem fldF1 (a b : Int) (w : World) : (Instr.field 29 (.agg #[.int .i64 a, .int .i64 b]) 1).run Tryd.prog w = .ok (.int .i64 b) w := by kernel_rfl
def path_step.f (a0 : ByteArray) : Option (Int × Int) := if a0.size ≤ 2000000 then some (stepE a0.data.toList) else none
theorem path_step.calls (a0 : ByteArray) (r1 : Int) (r2 : Int) (w : World) (h : path_step.f a0 = some (r1, r2)) :
    Calls Tryd.prog 27 #[.string a0] w fun e w' => e = .returned (.tuple #[.int .i64 r1, .int .i64 r2]) ∧ Below w.heap.size w w' := by
  unfold path_step.f at h
  split at h
  · rename_i hs
    injection h with h
    have e0 := Lib.size_eq a0
    have := step_any a0.data.toList w (by omega)
    rw [mkB_of, h] at this
    exact this.mono fun e w' ⟨he, hw⟩ => ⟨he, hw ▸ Below.refl _ _⟩
  · cases h
def cmp_Compare_string.f (a0 : ByteArray) (a1 : ByteArray) : Option Int := some (cmpB a0.data.toList a1.data.toList)
theorem cmp_Compare_string.calls (a0 : ByteArray) (a1 : ByteArray) (r : Int) (w : World) (h : cmp_Compare_string.f a0 a1 = some r) :
    Calls Tryd.prog 35 #[.string a0, .string a1] w fun e w' => e = .returned (.int .i64 r) ∧ Below w.heap.size w w' := by
  injection h with h
  have := compare_any a0.data.toList a1.data.toList w
  rw [mkB_of, mkB_of, h] at this
  exact this.mono fun e w' ⟨he, hw⟩ => ⟨he, hw ▸ Below.refl _ _⟩
def path_order.f (a0 : ByteArray) (a1 : ByteArray) : Option Int := if a0.size ≤ 1000000 ∧ a1.size ≤ 1000000 then some (ordP (sp a0.data.toList) (sp a1.data.toList)) else none
theorem below_draws (w : World) (n : Nat) : Below w.heap.size w (w.drewN n) := below_drewN (Below.refl _ _) n
theorem path_order.calls (a0 : ByteArray) (a1 : ByteArray) (r : Int) (w : World) (h : path_order.f a0 a1 = some r) :
    Calls Tryd.prog 34 #[.string a0, .string a1] w fun e w' => e = .returned (.int .i64 r) ∧ Below w.heap.size w w' := by
  unfold path_order.f at h
  split at h
  · rename_i hs
    injection h with h
    have e0 := Lib.size_eq a0; have e1 := Lib.size_eq a1
    have := order_any a0.data.toList.length a0.data.toList a1.data.toList w (Nat.le_refl _) (by omega) (by omega)
    rw [mkB_of, mkB_of, h] at this
    exact this.mono fun e w' ⟨he, n, hw⟩ => ⟨he, hw ▸ below_draws w n⟩
  · cases h
def strings_LastIndexByte.f (a0 : ByteArray) (a1 : Int) : Option Int := if a0.size < 4611686018427387904 then some (Lib.lastIndexByte a0 a1) else none
theorem strings_LastIndexByte.calls (a0 : ByteArray) (a1 : Int) (r : Int) (w : World) (h : strings_LastIndexByte.f a0 a1 = some r) :
    Calls Tryd.prog 23 #[.string a0, .int .u8 a1] w fun e w' => e = .returned (.int .i64 r) ∧ Below w.heap.size w w' := by
  unfold strings_LastIndexByte.f at h
  split at h
  · rename_i hs
    injection h with h
    have := Tryd.strings_LastIndexByte a0 a1 hs w
    rw [h] at this
    exact this.mono fun e w' ⟨he, hw⟩ => ⟨he, hw ▸ Below.refl _ _⟩
  · cases h
end Go.Proofs.YtigldoicijfhoaaDoor
