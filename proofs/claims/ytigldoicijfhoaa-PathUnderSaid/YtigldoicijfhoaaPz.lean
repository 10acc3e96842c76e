/- What a printed text may ask of the reference: each as a Lean function with its contract. Conditions: in the functions themselves. -/
import Derived.Test.YtigldoicijfhoaaPy
namespace Go.Proofs.Ytigldoicijfhoaa
open Go.RowKit H Go.Proofs.YtigldoicijfhoaaW.PrintWords Go.Proofs.YtigldoicijfhoaaW.PrintLast

def satchelref07_split.f (a0 : ByteArray) : Option (List ByteArray) := if a0.size ≤ 1000000 then some ((sp a0.data.toList).map mkB) else none
theorem satchelref07_split.calls (a0 : ByteArray) (r : List ByteArray) (w : World) (h : satchelref07_split.f a0 = some r) :
    Calls Try.prog 26 #[.string a0] w fun e w' => ∃ v0_ : Value, e = .returned (v0_) ∧ Kd.R Kd.string 9 w' w.heap.size (fun _ => True) v0_ r ∧ Below w.heap.size w w' := by
  unfold satchelref07_split.f at h
  split at h
  · rename_i hs
    injection h with h
    subst h
    exact XA.satchelref07_split.calls (a0.size + 1) a0 _ w (split_is _ a0 hs (by omega))
  · cases h
def satchelref07_part.f (a0 : ByteArray) : Option (Int × Int) := if a0.size ≤ 1000000 then some (partE a0.data.toList) else none
theorem satchelref07_part.calls (a0 : ByteArray) (r1 : Int) (r2 : Int) (w : World) (h : satchelref07_part.f a0 = some (r1, r2)) :
    Calls Try.prog 29 #[.string a0] w fun e w' => e = .returned (.tuple #[.int .i64 r1, .int .i64 r2]) ∧ Below w.heap.size w w' := by
  unfold satchelref07_part.f at h
  split at h
  · rename_i hs
    injection h with h
    have := XA.satchelref07_part.calls (a0.size + 2) a0 r1 r2 w (by rw [part_is _ a0 hs (by omega), h])
    exact this.mono fun e w' ⟨he, hw⟩ => ⟨he, hw.below⟩
  · cases h
def satchelref07_Check.f (a0 : ByteArray) : Option (Int × Int) := some (chk a0.data.toList)
theorem satchelref07_Check.calls (a0 : ByteArray) (r1 : Int) (r2 : Int) (w : World) (h : satchelref07_Check.f a0 = some (r1, r2)) :
    Calls Try.prog 39 #[.string a0] w fun e w' => e = .returned (.agg #[.int .i64 r1, .int .i64 r2]) ∧ Below w.heap.size w w' := by
  injection h with h
  exact XA.satchelref07_Check.calls 1000 a0 r1 r2 w (by rw [check_is, h])
def satchelref07_Valid.f (a0 : ByteArray) : Option Bool := some (okP a0.data.toList)
theorem satchelref07_Valid.calls (a0 : ByteArray) (r : Bool) (w : World) (h : satchelref07_Valid.f a0 = some r) :
    Calls Try.prog 24 #[.string a0] w fun e w' => e = .returned (.bool r) ∧ Below w.heap.size w w' := by
  injection h with h
  refine XA.satchelref07_Valid.calls 1000 a0 r w ?_
  unfold XA.satchelref07_Valid.f
  rw [check_is, Option.bind_some, ← h]
  unfold okP
  by_cases h0 : (chk a0.data.toList).1 = 0 <;> simp [h0]

theorem refValid_any (s : Bs) (b : Bool) (hb : okP s = b) (w : World) : Calls Try.prog 24 #[.string (mkB s)] w fun e w' => e = .returned (.bool b) ∧ Below w.heap.size w w' :=
  satchelref07_Valid.calls (mkB s) _ w (by unfold satchelref07_Valid.f; rw [mkB_list, hb])
theorem und_iff (s d : Bs) (hs : okP s = true) (hd : okP d = true) : undE s d = (decide (d.length < s.length) && (s.take d.length == d) && decide (s[d.length]? = some 47)) := by
  unfold undE
  rw [hs, hd, Bool.eq_iff_iff]
  simp only [Bool.true_and, Bool.and_eq_true, decide_eq_true_eq, beq_iff_eq, List.isPrefixOf_iff_prefix]
  constructor
  · rintro ⟨r, rfl⟩
    simp
  · rintro ⟨⟨h1, h2⟩, h3⟩
    have e := List.take_append_drop d.length s
    rw [h2, List.drop_eq_getElem_cons h1, (List.getElem?_eq_some_iff.1 h3).2] at e
    exact ⟨s.drop (d.length + 1), by rw [List.append_assoc]; exact e⟩
set_option maxRecDepth 100000 in
set_option maxHeartbeats 2000000 in
theorem refUnder_any (s d : Bs) (w : World) : Calls Try.prog 12 #[.string (mkB s), .string (mkB d)] w fun e w' => e = .returned (.bool (undE s d)) ∧ Below w.heap.size w w' := by
  rcases hs : okP s with _ | _
  · have H : Hid (undE s d = false) := Lib.hid (by simp [undE, hs])
    replace hs := Lib.hid hs
    go_enter Try.func12, Try.ntmps12
    go_wp2_with fail
    refine (refValid_any s _ hs.out _).mono ?_
    rintro e w1 ⟨rfl, b1⟩
    go_wp2_with fail
    go_ret
    exact ⟨by rw [H.out]; rfl, b1⟩
  rcases hd : okP d with _ | _
  · have H : Hid (undE s d = false) := Lib.hid (by simp [undE, hd])
    replace hs := Lib.hid hs; replace hd := Lib.hid hd
    go_enter Try.func12, Try.ntmps12
    go_wp2_with fail
    refine (refValid_any s _ hs.out _).mono ?_
    rintro e w1 ⟨rfl, b1⟩
    go_wp2_with fail
    refine (refValid_any d _ hd.out _).mono ?_
    rintro e w2 ⟨rfl, b2⟩
    go_wp2_with fail
    go_ret
    exact ⟨by rw [H.out]; rfl, b1.trans (b2.mono b1.size)⟩
  have hu := und_iff s d hs hd
  have ls : s.length ≤ 200 := ((okP_iff s).1 hs).2.1
  have ld : d.length ≤ 200 := ((okP_iff d).1 hd).2.1
  replace hs := Lib.hid hs; replace hd := Lib.hid hd
  by_cases h1 : d.length < s.length
  · have E : (mkB s).extract 0 d.length = mkB (s.take d.length) := by rw [mkB_extract]; simp
    obtain ⟨c, hc⟩ : ∃ c, s[d.length]? = some c := ⟨_, List.getElem?_eq_getElem h1⟩
    have hci : (mkB s)[d.length]'(by simpa using h1) = c := by
      have h2 := (List.getElem?_eq_some_iff.1 hc).2
      simp only [mkB, ByteArray.getElem_eq_getElem_data, List.getElem_toArray]
      exact h2
    rw [hc] at hu
    clear hc
    rcases h2 : (s.take d.length == d) with _ | _
    · rw [h2] at hu
      have H : Hid (undE s d = false) := Lib.hid (by rw [hu]; simp)
      clear hu
      go_enter Try.func12, Try.ntmps12
      go_wp2_with fail
      refine (refValid_any s _ hs.out _).mono ?_
      rintro e w1 ⟨rfl, b1⟩
      go_wp2_with fail
      refine (refValid_any d _ hd.out _).mono ?_
      rintro e w2 ⟨rfl, b2⟩
      go_wp2_with fail
      go_ret
      exact ⟨by rw [H.out]; rfl, b1.trans (b2.mono b1.size)⟩
    · rw [h2] at hu
      by_cases h3 : c = 47
      · subst h3
        have H : Hid (undE s d = true) := Lib.hid (by rw [hu]; simp [h1])
        clear hu
        go_enter Try.func12, Try.ntmps12
        go_wp2_with fail
        refine (refValid_any s _ hs.out _).mono ?_
        rintro e w1 ⟨rfl, b1⟩
        go_wp2_with fail
        refine (refValid_any d _ hd.out _).mono ?_
        rintro e w2 ⟨rfl, b2⟩
        go_wp2_with fail
        go_ret
        exact ⟨by rw [H.out]; rfl, b1.trans (b2.mono b1.size)⟩
      · have H : Hid (undE s d = false) := Lib.hid (by rw [hu]; simp [h3])
        have d3 : ((c.toNat : Int) == 47) = false := by
          rw [beq_eq_false_iff_ne]
          intro e
          apply h3
          apply UInt8.toNat_inj.1
          have : c.toNat = 47 := by omega
          rw [this]; rfl
        clear hu h3
        go_enter Try.func12, Try.ntmps12
        go_wp2_with fail
        refine (refValid_any s _ hs.out _).mono ?_
        rintro e w1 ⟨rfl, b1⟩
        go_wp2_with fail
        refine (refValid_any d _ hd.out _).mono ?_
        rintro e w2 ⟨rfl, b2⟩
        go_wp2_with fail
        go_ret
        exact ⟨by rw [H.out]; rfl, b1.trans (b2.mono b1.size)⟩
  · have H : Hid (undE s d = false) := Lib.hid (by rw [hu]; simp [h1])
    have h1b : decide (d.length < s.length) = false := by simpa using h1
    clear hu h1
    go_enter Try.func12, Try.ntmps12
    go_wp2_with fail
    refine (refValid_any s _ hs.out _).mono ?_
    rintro e w1 ⟨rfl, b1⟩
    go_wp2_with fail
    refine (refValid_any d _ hd.out _).mono ?_
    rintro e w2 ⟨rfl, b2⟩
    go_wp2_with fail
    go_ret
    exact ⟨by rw [H.out]; rfl, b1.trans (b2.mono b1.size)⟩
def satchelref07_Under.f (a0 : ByteArray) (a1 : ByteArray) : Option Bool := some (undE a0.data.toList a1.data.toList)
theorem satchelref07_Under.calls (a0 : ByteArray) (a1 : ByteArray) (r : Bool) (w : World) (h : satchelref07_Under.f a0 a1 = some r) :
    Calls Try.prog 12 #[.string a0, .string a1] w fun e w' => e = .returned (.bool r) ∧ Below w.heap.size w w' := by
  injection h with h
  have := refUnder_any a0.data.toList a1.data.toList w
  rw [mkB_of, mkB_of, h] at this
  exact this
end Go.Proofs.Ytigldoicijfhoaa
