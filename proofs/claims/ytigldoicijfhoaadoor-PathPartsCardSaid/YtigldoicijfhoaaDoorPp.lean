/- satchellaw07.PathParts: for every text of at most 140737488351232 bytes the law returns true, and the memory that was is as it was. -/
import Derived.Test.YtigldoicijfhoaaDoorOt
namespace Go.Proofs.YtigldoicijfhoaaDoor.H
open Go.RowKit Go.Proofs.YtigldoicijfhoaaDoor Go.Proofs.YtigldoicijfhoaaDoor.XB Go.Proofs.YtigldoicijfhoaaDoorW.PrintWords Go.Proofs.YtigldoicijfhoaaDoorW.PrintLast
attribute [local go_sem] eqA29

/-- What path.Parts tells: nothing, or a row of its own without spare room. -/
def Parted (w : World) (base : Nat) (a : ByteArray) (v : Value) : Prop :=
  (okP a.data.toList = false ∧ v = .slice none 0 0) ∨ (okP a.data.toList = true ∧ ∃ g, v = .slice (some ⟨g, 0, none⟩) (sp a.data.toList).length (sp a.data.toList).length ∧ base ≤ g ∧
    w.heap[g]? = some (.cells (((sp a.data.toList).map mkB).map Value.string).toArray 9 (0, 0)))
theorem parts_own (a : ByteArray) (w : World) :
    Calls Tryd.prog 8 #[.string a] w fun e w' => ∃ v, e = .returned v ∧ Parted w' w.heap.size a v ∧ Below w.heap.size w w' := by
  rcases h : okP a.data.toList
  · go_enter Tryd.func8, Tryd.ntmps8
    go_wp2_with (go_at_call 24; refine (path_valid.calls a false w (by rw [valid_is, h])).mono ?_; rintro e w' ⟨rfl, hb⟩)
    go_ret
    exact ⟨_, rfl, .inl ⟨h, rfl⟩, hb⟩
  · have hz := (ok_small h).1
    go_enter Tryd.func8, Tryd.ntmps8
    go_wp2_with (first | (go_at_call 24; refine (path_valid.calls a true w (by rw [valid_is, h])).mono ?_; rintro e w' ⟨rfl, hb⟩) | (go_at_call 25; refine (split_any a _ (by omega)).mono ?_; rintro e w2 ⟨rfl, rfl⟩))
    go_ret
    refine ⟨_, rfl, .inr ⟨h, _, rfl, hb.size, ?_⟩, below_new _ hb⟩
    rw [World.alloc_heap_new, List.map_map]
theorem step_len {p : Bs} (h : (stepE p).1 = 0) : p.length ≤ 60 := by
  unfold stepE at h
  split at h
  · cases h
  · rcases hb : badAt p with _ | i
    · rw [hb] at h
      dsimp only at h
      split at h
      · cases h
      · omega
    · rw [hb] at h
      cases h
theorem Parted.row {w : World} {base : Nat} {a : ByteArray} {v : Value} (h : Parted w base a v) : Kd.R Kd.string 9 w base (fun _ => True) v (if okP a.data.toList then (sp a.data.toList).map mkB else []) := by
  rcases h with ⟨h, rfl⟩ | ⟨h, g, rfl, hb, hh⟩
  · rw [h]; exact Kd.R_nil _ _ _ _ _
  · have h3 := (ok_small h).2
    rw [h, if_pos rfl]
    have := row_of hb (by rw [List.length_map]; omega) hh
    rwa [List.length_map] at this
theorem over_none (w : World) (base : Nat) :
    Calls Tryd.prog 15 #[.slice none 0 0] w fun e w' => e = .returned (.tuple #[]) ∧ Below base w w' := by
  go_enter Tryd.func15, Tryd.ntmps15
  go_wp2
  refine wp_loop_rounds 1 ?_
  rw [rounds_succ]
  go_wp2
  go_end0
  exact ⟨rfl, Below.refl _ _⟩
theorem over_parted {w : World} {base : Nat} {a : ByteArray} {v : Value} (h : Parted w base a v) :
    Calls Tryd.prog 15 #[v] w fun e w' => e = .returned (.tuple #[]) ∧ Below base w w' := by
  rcases h with ⟨h, rfl⟩ | ⟨h, g, rfl, hb, hh⟩
  · exact over_none w base
  · have h3 := ok_small h
    have hl : ((sp a.data.toList).map mkB).length = (sp a.data.toList).length := List.length_map ..
    have := over_texts g ((sp a.data.toList).map mkB) w (by omega) (fun x hx => ?_) hh
    · rw [hl] at this
      exact this.mono fun e w' ⟨he, hB⟩ => ⟨he, hB.mono hb⟩
    · obtain ⟨p, hp, rfl⟩ := List.mem_map.1 hx
      have := step_len (((okP_iff _).1 h).2.2.2 p hp)
      rw [mkB_size]
      omega

theorem _root_.Go.Proofs.YtigldoicijfhoaaDoorW.PrintWords.Kd.R.belowAll {α : Type} {d : Kd α} {e : Nat} {w w1 : World} {base : Nat} {ok : Nat → Prop} {v : Value} {xs : List α} (h : d.R e w base ok v xs) (hb : Below w.heap.size w w1) : d.R e w1 base ok v xs := Kd.R_below h hb
theorem Parted.below {w w1 : World} {base : Nat} {a : ByteArray} {v : Value} (h : Parted w base a v) (hb : Below w.heap.size w w1) : Parted w1 base a v := by
  rcases h with ⟨h, rfl⟩ | ⟨h, g, rfl, hg, hh⟩
  · exact .inl ⟨h, rfl⟩
  · exact .inr ⟨h, g, rfl, hg, by rw [hb.block g (Array.getElem?_eq_some_iff.1 hh).1]; exact hh⟩
theorem same_rows (a : ByteArray) {w : World} {b1 b2 : Nat} {k1 k2 : Nat → Prop} {v1 v2 : Value}
    (h1 : Kd.R Kd.string 9 w b1 k1 v1 (if okP a.data.toList then (sp a.data.toList).map mkB else [])) (h2 : Kd.R Kd.string 9 w b2 k2 v2 (if okP a.data.toList then (sp a.data.toList).map mkB else [])) :
    Calls Tryd.prog 11 #[v1, v2] w fun e w' => e = .returned (.bool true) ∧ Below w.heap.size w w' := by
  have hl : (if okP a.data.toList then (sp a.data.toList).map mkB else []).length ≤ 201 := by
    rcases h : okP a.data.toList
    · simp
    · have := (ok_small h).2
      simpa using this
  generalize (if okP a.data.toList then (sp a.data.toList).map mkB else []) = l at *
  obtain ⟨A, c, rfl, hc, hr⟩ := Kd.R_reads h1
  obtain ⟨A', c', rfl, hc', hr'⟩ := Kd.R_reads h2
  exact (satchelkit_SameTexts.calls 1000 A c l A' c' l true w hr hc hr' hc' (same_is 1000 l (by omega) (by omega))).mono fun e w' ⟨he, hw⟩ => ⟨he, hw.below⟩
theorem bstep {w W w2 : World} (h : Below w.heap.size w W) (k : Below W.heap.size W w2) : Below w.heap.size w w2 := h.trans (k.mono h.size)
theorem chk_pair (a : ByteArray) : ∃ x y, chk a.data.toList = (x, y) := ⟨_, _, rfl⟩
set_option maxHeartbeats 8000000 in
set_option maxRecDepth 100000 in
theorem law_walk (a : ByteArray) (w : World) (hsz : a.size ≤ 140737488351232) :
    Calls Tryd.prog 3 #[.string a] w fun e w' => e = .returned (.bool true) ∧ Below w.heap.size w w' := by
  by_cases hb : a.size ≤ 400
  · obtain ⟨c1, c2, hc⟩ := chk_pair a
    have hbig : decide ((a.size : Int) > 400) = false := decide_eq_false (by omega)
    have HS := Lib.hid hb
    have HZ := Lib.hid hsz
    have HC := Lib.hid hc
    clear hb hsz hc
    go_enter Tryd.func3, Tryd.ntmps3
    go_wp2_with fail
    refine (path_Parent.calls a _ _ w (parent_is a (by have := HS.out; omega))).mono ?_
    rintro e w1 ⟨rfl, B1⟩
    go_wp2_with fail
    refine (satchelref07_Parent.calls a _ _ w1 (rparent_is a)).mono ?_
    rintro e w2 ⟨rfl, B2⟩
    go_wp2_with fail
    refine (parts_own a w2).mono ?_
    rintro e w3 ⟨v, rfl, HP0, B3⟩
    have HP := Lib.hid HP0
    clear HP0
    go_wp2_with fail
    refine (path_Check.calls a c1 c2 w3 (by unfold path_Check.f; rw [HC.out])).mono ?_
    rintro e w4 ⟨rfl, B4⟩
    go_wp2_with fail
    refine (satchelref07_Check.calls a c1 c2 w4 (by unfold satchelref07_Check.f; rw [HC.out])).mono ?_
    rintro e w5 ⟨rfl, B5⟩
    go_wp2_with fail
    refine (satchelref07_Parts.calls a _ w5 (rparts_is a)).mono ?_
    rintro e w6 ⟨v2, rfl, R20, B6⟩
    have R2 := Lib.hid R20
    clear R20
    go_wp2_with fail
    refine (same_rows a (((HP.out.row.belowAll B4).belowAll B5).belowAll B6) R2.out).mono ?_
    rintro e w7 ⟨rfl, B7⟩
    go_wp2_with fail
    refine (path_Base.calls a _ w7 (base_is a (by have := HS.out; omega))).mono ?_
    rintro e w8 ⟨rfl, B8⟩
    go_wp2_with fail
    refine (satchelref07_Base.calls a _ w8 (rbase_is a)).mono ?_
    rintro e w9 ⟨rfl, B9⟩
    go_wp2_with fail
    have T1 := bstep B4 B5
    have T2 := bstep T1 B6
    have T3 := bstep T2 B7
    have T4 := bstep T3 B8
    have B39 : Below w3.heap.size w3 w9 := bstep T4 B9
    clear T1 T2 T3 T4
    refine (over_parted (HP.out.below B39)).mono ?_
    rintro e w10 ⟨rfl, B10⟩
    have B2' : Below w.heap.size w w2 := bstep B1 B2
    have T1 := bstep B2' B3
    have T2 := bstep T1 B39
    have BB : Below w.heap.size w w10 := T2.trans (B10.mono B2'.size)
    clear T1 T2
    clear B1 B2 B3 B4 B5 B6 B7 B8 B9 B39 B10 B2'
    go_wp2_with fail
    refine (parts_own a w10).mono ?_
    rintro e w11 ⟨v3, rfl, HQ0, C1⟩
    have HQ := Lib.hid HQ0
    clear HQ0
    go_wp2_with fail
    refine (satchelref07_Parts.calls a _ w11 (rparts_is a)).mono ?_
    rintro e w12 ⟨v4, rfl, R40, C2⟩
    have R4 := Lib.hid R40
    clear R40
    go_wp2_with fail
    refine (same_rows a (HQ.out.row.belowAll C2) R4.out).mono ?_
    rintro e w13 ⟨rfl, C3⟩
    go_wp2_with fail
    refine (satchellaw07_awake.calls 200 true w13 awake_is).mono ?_
    rintro e w14 ⟨rfl, C4⟩
    go_wp2_with fail
    go_ret
    have T1 := bstep BB C1
    have T2 := bstep T1 C2
    have T3 := bstep T2 C3
    exact ⟨rfl, bstep T3 C4⟩
  · have hbig : decide ((a.size : Int) > 400) = true := decide_eq_true (by omega)
    go_enter Tryd.func3, Tryd.ntmps3
    go_wp2_with (go_at_call 5; refine (satchellaw07_awake.calls 200 true w awake_is).mono ?_; rintro e w' ⟨rfl, hB⟩)
    go_ret
    exact ⟨rfl, hB⟩
end Go.Proofs.YtigldoicijfhoaaDoor.H
