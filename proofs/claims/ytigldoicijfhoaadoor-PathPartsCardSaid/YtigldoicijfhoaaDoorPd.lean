/- strings.Cut at a stroke: what it tells. No condition but that the text is no longer than 2^32. -/
import Derived.Test.YtigldoicijfhoaaDoorPa
import Derived.Test.YtigldoicijfhoaaDoorS
import Derived.WalkKit
import Derived.WalkSpells
import Derived.WalkLawsBesides
import Derived.Deep.QuietTactic
import Derived.BigQuiet
import Derived.Lib.Hide
import Derived.Below
namespace Go.Proofs.YtigldoicijfhoaaDoor.H
open Go.RowKit Go.Shelf

def mkB (l : Bs) : ByteArray := ⟨l.toArray⟩
@[simp] theorem mkB_list (l : Bs) : (mkB l).data.toList = l := by simp [mkB]
@[simp] theorem mkB_size (l : Bs) : (mkB l).size = l.length := by simp [mkB, ByteArray.size]
theorem mkB_of (s : ByteArray) : mkB s.data.toList = s := by simp [mkB]
theorem mkB_nil : mkB [] = ⟨#[]⟩ := rfl
@[simp] theorem mkB_toList (l : Bs) : (mkB l).toList = l := by
  have := Lib.extract_toList (mkB l) 0 l.length
  have h : (mkB l).extract 0 l.length = mkB l := by
    have h2 := ByteArray.extract_zero_size (b := mkB l)
    rwa [mkB_size] at h2
  rw [h] at this
  simpa using this
theorem mkB_extract (l : Bs) (a b : Nat) : (mkB l).extract a b = mkB ((l.drop a).take (b - a)) := by
  rw [← mkB_of ((mkB l).extract a b), Lib.extract_data]; simp
theorem stroke_index (s : ByteArray) : Lib.indexByte s.data.toList 47 = (match (brk s.data.toList).2 with | none => -1 | some _ => ((brk s.data.toList).1.length : Int)) := by
  rw [← Lib.index_one, brk_index]
  cases (brk s.data.toList).2 <;> rfl

set_option maxHeartbeats 1000000 in
theorem cut0_none (l : Bs) (w : World) (h : (brk l).2 = none) :
    Calls Tryd.prog 48 #[.string (mkB l), .string ⟨#[47]⟩] w fun e w' => e = .returned (.tuple #[.string (mkB l), .string ⟨#[]⟩, .bool false]) ∧ w = w' := by
  have hix := stroke_index (mkB l)
  simp only [mkB_list, h] at hix
  have HIX := Lib.hid hix
  clear hix h
  go_enter Tryd.func48, Tryd.ntmps48
  go_wp2_with (go_at_call 54; refine (Tryd.stringslite_Index_one _ 47 _).mono ?_; rintro e w' ⟨rfl, rfl⟩; rw [mkB_list, HIX.out])
  go_ret3
  exact ⟨rfl, rfl⟩
set_option maxHeartbeats 1000000 in
theorem cut0_some (l r : Bs) (w : World) (h : (brk l).2 = some r) (hl : l.length ≤ 4000000000) :
    Calls Tryd.prog 48 #[.string (mkB l), .string ⟨#[47]⟩] w fun e w' => e = .returned (.tuple #[.string (mkB (brk l).1), .string (mkB r), .bool true]) ∧ ∃ n, w' = w.drewN n := by
  have hix := stroke_index (mkB l)
  simp only [mkB_list, h] at hix
  obtain ⟨h1, h2⟩ := brk_some h
  have e1 : (mkB l).extract 0 (brk l).1.length = mkB (brk l).1 := by
    rw [mkB_extract]; congr 1
    generalize (brk l).1 = p at *
    subst h1; simp
  have e2 : (mkB l).extract ((brk l).1.length + 1) l.length = mkB r := by
    rw [mkB_extract]; congr 1
    generalize (brk l).1 = p at *
    subst h1; simp
    exact List.take_of_length_le (by omega)
  have hlen : (brk l).1.length + 1 ≤ l.length := by
    have := congrArg List.length h1
    simp at this; omega
  have hsz : (mkB l).size = l.length := mkB_size l
  have HIX := Lib.hid hix; have E1 := Lib.hid e1; have E2 := Lib.hid e2
  clear hix h h1 h2 e1 e2
  generalize (brk l).1.length = i at *
  have c1 : (0 : Int) ≤ ↑i := by omega
  have c2 : (↑i : Int) ≤ ↑(mkB l).size := by omega
  have c3 : (0 : Int) ≤ ↑i + 1 := by omega
  have c4 : (↑i + 1 : Int) ≤ ↑(mkB l).size := by omega
  have c5 : IntKind.i64.wrap ((i : Int) + 1) = (i : Int) + 1 := IntWalk.i64_in _ (by omega)
  have c6 : ((i : Int) + 1).toNat = i + 1 := by omega
  clear hsz hlen hl
  go_enter Tryd.func48, Tryd.ntmps48
  go_wp2_with (go_at_call 54; refine (Tryd.stringslite_Index_one _ 47 _).mono ?_; rintro e w' ⟨rfl, rfl⟩; rw [mkB_list, HIX.out])
  go_quiet (fail)
  go_wp2
  go_ret3
  exact ⟨by rw [E1.out, E2.out]; rfl, _, rfl⟩

/-- What strings.Cut tells at a stroke. -/
def cutV (l : Bs) : Value := match (brk l).2 with
  | none => .tuple #[.string (mkB l), .string ⟨#[]⟩, .bool false]
  | some r => .tuple #[.string (mkB (brk l).1), .string (mkB r), .bool true]
theorem cut_none (l : Bs) (w : World) (h : (brk l).2 = none) :
    Calls Tryd.prog 40 #[.string (mkB l), .string ⟨#[47]⟩] w fun e w' => e = .returned (.tuple #[.string (mkB l), .string ⟨#[]⟩, .bool false]) ∧ w = w' := by
  go_enter Tryd.func40, Tryd.ntmps40
  go_wp2_with (go_at_call 48; refine (cut0_none l _ h).mono ?_; rintro e w' ⟨rfl, rfl⟩)
  go_ret3
  exact ⟨rfl, rfl⟩
theorem cut_some (l r : Bs) (w : World) (h : (brk l).2 = some r) (hl : l.length ≤ 4000000000) :
    Calls Tryd.prog 40 #[.string (mkB l), .string ⟨#[47]⟩] w fun e w' => e = .returned (.tuple #[.string (mkB (brk l).1), .string (mkB r), .bool true]) ∧ ∃ n, w' = w.drewN n := by
  have H := Lib.hid h
  clear h
  go_enter Tryd.func40, Tryd.ntmps40
  go_wp2_with (go_at_call 48; refine (cut0_some l r _ H.out hl).mono ?_; rintro e w' ⟨rfl, n, rfl⟩)
  go_ret3
  exact ⟨rfl, n, rfl⟩
end Go.Proofs.YtigldoicijfhoaaDoor.H
