/- What a printed text may ask of the reference: each as a Lean function with its contract. Conditions: in the functions themselves. -/
import Derived.Test.YtigldoicijfhoaaDoorPy
namespace Go.Proofs.YtigldoicijfhoaaDoor
open Go.RowKit H Go.Proofs.YtigldoicijfhoaaDoorW.PrintWords Go.Proofs.YtigldoicijfhoaaDoorW.PrintLast

def satchelref07_split.f (a0 : ByteArray) : Option (List ByteArray) := if a0.size ≤ 1000000 then some ((sp a0.data.toList).map mkB) else none
theorem satchelref07_split.calls (a0 : ByteArray) (r : List ByteArray) (w : World) (h : satchelref07_split.f a0 = some r) :
    Calls Tryd.prog 28 #[.string a0] w fun e w' => ∃ v0_ : Value, e = .returned (v0_) ∧ Kd.R Kd.string 9 w' w.heap.size (fun _ => True) v0_ r ∧ Below w.heap.size w w' := by
  unfold satchelref07_split.f at h
  split at h
  · rename_i hs
    injection h with h
    subst h
    exact XA.satchelref07_split.calls (a0.size + 1) a0 _ w (split_is _ a0 hs (by omega))
  · cases h
def satchelref07_part.f (a0 : ByteArray) : Option (Int × Int) := if a0.size ≤ 1000000 then some (partE a0.data.toList) else none
theorem satchelref07_part.calls (a0 : ByteArray) (r1 : Int) (r2 : Int) (w : World) (h : satchelref07_part.f a0 = some (r1, r2)) :
    Calls Tryd.prog 29 #[.string a0] w fun e w' => e = .returned (.tuple #[.int .i64 r1, .int .i64 r2]) ∧ Below w.heap.size w w' := by
  unfold satchelref07_part.f at h
  split at h
  · rename_i hs
    injection h with h
    have := XA.satchelref07_part.calls (a0.size + 2) a0 r1 r2 w (by rw [part_is _ a0 hs (by omega), h])
    exact this.mono fun e w' ⟨he, hw⟩ => ⟨he, hw.below⟩
  · cases h
def satchelref07_Check.f (a0 : ByteArray) : Option (Int × Int) := some (chk a0.data.toList)
theorem satchelref07_Check.calls (a0 : ByteArray) (r1 : Int) (r2 : Int) (w : World) (h : satchelref07_Check.f a0 = some (r1, r2)) :
    Calls Tryd.prog 10 #[.string a0] w fun e w' => e = .returned (.agg #[.int .i64 r1, .int .i64 r2]) ∧ Below w.heap.size w w' := by
  injection h with h
  exact XA.satchelref07_Check.calls 1000 a0 r1 r2 w (by rw [check_is, h])
def satchelref07_Valid.f (a0 : ByteArray) : Option Bool := some (okP a0.data.toList)
theorem satchelref07_Valid.calls (a0 : ByteArray) (r : Bool) (w : World) (h : satchelref07_Valid.f a0 = some r) :
    Calls Tryd.prog 30 #[.string a0] w fun e w' => e = .returned (.bool r) ∧ Below w.heap.size w w' := by
  injection h with h
  refine XA.satchelref07_Valid.calls 1000 a0 r w ?_
  unfold XA.satchelref07_Valid.f
  rw [check_is, Option.bind_some, ← h]
  unfold okP
  by_cases h0 : (chk a0.data.toList).1 = 0 <;> simp [h0]

end Go.Proofs.YtigldoicijfhoaaDoor
