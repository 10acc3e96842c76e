-- Written by this claim's own program xprint.py (the kit's printer with contracts of this claim's own).
import Derived.Test.YtigldoicijfhoaaXB0
import Derived.Test.YtigldoicijfhoaaXB2
import Derived.Test.YtigldoicijfhoaaXB4
namespace Go.Proofs.Ytigldoicijfhoaa.XB
open Go.RowKit Go.Proofs.YtigldoicijfhoaaW.PrintWords Go.Proofs.YtigldoicijfhoaaW.PrintLast Go.Proofs.YtigldoicijfhoaaW.PrintMore
attribute [local go_sem] max2_int min2_int max_two min_two max_three min_three max_four min_four   -- for this text's walks alone
attribute [local go_sem] fldF0 fldF1
set_option linter.unusedVariables false
set_option linter.unusedSimpArgs false

/-! ### satchellaw07_PathUnder: function 5 -/
mutual
def satchellaw07_PathUnder.j0 : Nat → ByteArray → ByteArray → ByteArray → Bool → Bool → Option (Bool)
  | 0, _, _, _, _, _ => none
  | k + 1, x0, x1, x2, x7, x23 => if x23 = true then (some x7) else ((path_Parent.f x0).bind fun bt163 => (if bt163.2 = true then ((path_Under.f x0 bt163.1).bind fun t165 => (if t165 = true then ((path_Compare.f k bt163.1 x0).bind fun t166 => (if t166 = (-1) then ((path_Under.f bt163.1 x1).bind fun t167 => (if t167 = true then ((path_Under.f x0 x1).bind fun t168 => (satchellaw07_PathUnder.j1 k x0 x1 x2 x7 bt163.1 bt163.2 (!t168))) else (satchellaw07_PathUnder.j1 k x0 x1 x2 x7 bt163.1 bt163.2 false))) else (satchellaw07_PathUnder.j1 k x0 x1 x2 x7 bt163.1 bt163.2 true))) else (satchellaw07_PathUnder.j1 k x0 x1 x2 x7 bt163.1 bt163.2 true))) else (satchellaw07_PathUnder.j1 k x0 x1 x2 x7 bt163.1 bt163.2 false)))
def satchellaw07_PathUnder.j1 : Nat → ByteArray → ByteArray → ByteArray → Bool → ByteArray → Bool → Bool → Option (Bool)
  | 0, _, _, _, _, _, _, _ => none
  | k + 1, x0, x1, x2, x7, x8, x9, x53 => if x53 = true then (some false) else ((path_Under.f x0 x1).bind fun t169 => (if t169 = true then ((path_Compare.f k x1 x0).bind fun t170 => (if t170 = (-1) then ((path_Under.f x1 x0).bind fun t171 => (if t171 = true then (satchellaw07_PathUnder.j2 k x0 x1 x2 x7 true) else (if x9 = true then (if x8.toList = x1.toList then (satchellaw07_PathUnder.j2 k x0 x1 x2 x7 false) else ((path_Under.f x8 x1).bind fun t172 => (satchellaw07_PathUnder.j2 k x0 x1 x2 x7 (!t172)))) else (satchellaw07_PathUnder.j2 k x0 x1 x2 x7 true)))) else (satchellaw07_PathUnder.j2 k x0 x1 x2 x7 true))) else (some x7)))
def satchellaw07_PathUnder.j2 : Nat → ByteArray → ByteArray → ByteArray → Bool → Bool → Option (Bool)
  | 0, _, _, _, _, _ => none
  | k + 1, x0, x1, x2, x7, x82 => if x82 = true then (some false) else (if x7 = true then ((satchellaw07_valid.f x2).bind fun t173 => (if t173 = true then ((path_Under.f x2 x1).bind fun t174 => (if t174 = true then (some true) else ((path_Compare.f k x2 x1).bind fun t175 => (if t175 ≤ 0 then (some true) else ((path_Compare.f k x2 x0).bind fun t176 => (some (t176 == 1))))))) else (some true))) else (some false))
end
def satchellaw07_PathUnder.f (k : Nat) (a0 : ByteArray) (a1 : ByteArray) (a2 : ByteArray) : Option (Bool) := (satchellaw07_awake.f k).bind fun t162 => (if (a0.size : Int) > 300 then (satchellaw07_PathUnder.j0 k a0 a1 a2 t162 true) else (if (a1.size : Int) > 300 then (satchellaw07_PathUnder.j0 k a0 a1 a2 t162 true) else (satchellaw07_PathUnder.j0 k a0 a1 a2 t162 (decide ((a2.size : Int) > 300)))))
theorem satchellaw07_PathUnder.mono_l : ∀ k, (∀ y0 y1 y2 y3 y4, LeO (satchellaw07_PathUnder.j0 k y0 y1 y2 y3 y4) (satchellaw07_PathUnder.j0 (k + 1) y0 y1 y2 y3 y4)) ∧ (∀ y0 y1 y2 y3 y4 y5 y6, LeO (satchellaw07_PathUnder.j1 k y0 y1 y2 y3 y4 y5 y6) (satchellaw07_PathUnder.j1 (k + 1) y0 y1 y2 y3 y4 y5 y6)) ∧ (∀ y0 y1 y2 y3 y4, LeO (satchellaw07_PathUnder.j2 k y0 y1 y2 y3 y4) (satchellaw07_PathUnder.j2 (k + 1) y0 y1 y2 y3 y4))
  | 0 => ⟨fun _ _ _ _ _ r h => by simp [satchellaw07_PathUnder.j0] at h, fun _ _ _ _ _ _ _ r h => by simp [satchellaw07_PathUnder.j1] at h, fun _ _ _ _ _ r h => by simp [satchellaw07_PathUnder.j2] at h⟩
  | k + 1 => by
    obtain ⟨ih0, ih1, ih2⟩ := satchellaw07_PathUnder.mono_l k
    refine ⟨?_, ?_, ?_⟩
    · intro y0 y1 y2 y3 y4
      unfold satchellaw07_PathUnder.j0
      repeat' first
      | (with_reducible exact ih0 _ _ _ _ _)
      | (with_reducible exact ih1 _ _ _ _ _ _ _)
      | (with_reducible exact ih2 _ _ _ _ _)
      | (with_reducible exact path_Compare.mono _ _ _)
      | (with_reducible exact satchellaw07_awake.mono _)
      | (with_reducible exact LeO.refl _)
      | (with_reducible exact LeO.none _)
      | (with_reducible refine LeO.ite ?_ ?_)
      | (with_reducible refine LeO.bind ?_ (fun _ => ?_))
      | exact ih0 _ _ _ _ _
      | exact ih1 _ _ _ _ _ _ _
      | exact ih2 _ _ _ _ _
      | exact path_Compare.mono _ _ _
      | exact satchellaw07_awake.mono _
      | exact LeO.none _
      | refine LeO.ite ?_ ?_
      | refine LeO.bind ?_ (fun _ => ?_)
    · intro y0 y1 y2 y3 y4 y5 y6
      unfold satchellaw07_PathUnder.j1
      repeat' first
      | (with_reducible exact ih0 _ _ _ _ _)
      | (with_reducible exact ih1 _ _ _ _ _ _ _)
      | (with_reducible exact ih2 _ _ _ _ _)
      | (with_reducible exact path_Compare.mono _ _ _)
      | (with_reducible exact satchellaw07_awake.mono _)
      | (with_reducible exact LeO.refl _)
      | (with_reducible exact LeO.none _)
      | (with_reducible refine LeO.ite ?_ ?_)
      | (with_reducible refine LeO.bind ?_ (fun _ => ?_))
      | exact ih0 _ _ _ _ _
      | exact ih1 _ _ _ _ _ _ _
      | exact ih2 _ _ _ _ _
      | exact path_Compare.mono _ _ _
      | exact satchellaw07_awake.mono _
      | exact LeO.none _
      | refine LeO.ite ?_ ?_
      | refine LeO.bind ?_ (fun _ => ?_)
    · intro y0 y1 y2 y3 y4
      unfold satchellaw07_PathUnder.j2
      repeat' first
      | (with_reducible exact ih0 _ _ _ _ _)
      | (with_reducible exact ih1 _ _ _ _ _ _ _)
      | (with_reducible exact ih2 _ _ _ _ _)
      | (with_reducible exact path_Compare.mono _ _ _)
      | (with_reducible exact satchellaw07_awake.mono _)
      | (with_reducible exact LeO.refl _)
      | (with_reducible exact LeO.none _)
      | (with_reducible refine LeO.ite ?_ ?_)
      | (with_reducible refine LeO.bind ?_ (fun _ => ?_))
      | exact ih0 _ _ _ _ _
      | exact ih1 _ _ _ _ _ _ _
      | exact ih2 _ _ _ _ _
      | exact path_Compare.mono _ _ _
      | exact satchellaw07_awake.mono _
      | exact LeO.none _
      | refine LeO.ite ?_ ?_
      | refine LeO.bind ?_ (fun _ => ?_)
theorem satchellaw07_PathUnder.mono : ∀ a0 a1 a2 k, LeO (satchellaw07_PathUnder.f k a0 a1 a2) (satchellaw07_PathUnder.f (k + 1) a0 a1 a2) := by
  intro a0 a1 a2 k
  obtain ⟨ih0, ih1, ih2⟩ := satchellaw07_PathUnder.mono_l k
  unfold satchellaw07_PathUnder.f
  repeat' first
      | (with_reducible exact ih0 _ _ _ _ _)
      | (with_reducible exact ih1 _ _ _ _ _ _ _)
      | (with_reducible exact ih2 _ _ _ _ _)
      | (with_reducible exact path_Compare.mono _ _ _)
      | (with_reducible exact satchellaw07_awake.mono _)
      | (with_reducible exact LeO.refl _)
      | (with_reducible exact LeO.none _)
      | (with_reducible refine LeO.ite ?_ ?_)
      | (with_reducible refine LeO.bind ?_ (fun _ => ?_))
      | exact ih0 _ _ _ _ _
      | exact ih1 _ _ _ _ _ _ _
      | exact ih2 _ _ _ _ _
      | exact path_Compare.mono _ _ _
      | exact satchellaw07_awake.mono _
      | exact LeO.none _
      | refine LeO.ite ?_ ?_
      | refine LeO.bind ?_ (fun _ => ?_)
set_option maxHeartbeats 8000000 in
set_option maxRecDepth 100000 in
theorem satchellaw07_PathUnder.calls (k : Nat) (a0 : ByteArray) (a1 : ByteArray) (a2 : ByteArray) (r : Bool) (w : World) (h : satchellaw07_PathUnder.f k a0 a1 a2 = some r) :
    Calls Try.prog 5 #[.string a0, .string a1, .string a2] w fun e w' => e = .returned (.bool r) ∧ Below w.heap.size w w' := by
  have HB := Aside0.mk (Below.refl w.heap.size w)
  have H : ((satchellaw07_awake.f k).bind fun t162 => (if (a0.size : Int) > 300 then (satchellaw07_PathUnder.j0 k a0 a1 a2 t162 true) else (if (a1.size : Int) > 300 then (satchellaw07_PathUnder.j0 k a0 a1 a2 t162 true) else (satchellaw07_PathUnder.j0 k a0 a1 a2 t162 (decide ((a2.size : Int) > 300)))))) = some r := h
  clear h
  replace H := Option.bind_eq_some_iff.mp H
  obtain ⟨t162, A40, H⟩ := H
  replace H : (if (a0.size : Int) > 300 then (satchellaw07_PathUnder.j0 k a0 a1 a2 t162 true) else (if (a1.size : Int) > 300 then (satchellaw07_PathUnder.j0 k a0 a1 a2 t162 true) else (satchellaw07_PathUnder.j0 k a0 a1 a2 t162 (decide ((a2.size : Int) > 300))))) = some r := H
  have A4 := Aside0.mk A40
  clear A40
  have HC5 := Aside0.mk H
  clear H
  go_enter Try.func5, Try.ntmps5
  go_upto_region 2 with (first | ((with_reducible refine gate_callee (f := 8) rfl ?_); refine goesL_ (some 10) rfl rfl Try.func8 (by kernel_rfl) rfl #[] rfl (by (try simp only [List.map_toArray, List.map_cons, List.map_nil]); first | done | rfl | (simp only [List.length_drop, List.length_take]; rfl)) ?_; (with_reducible refine (satchellaw07_awake.calls k  t162 _ A4.out).mono ?_); rintro e w6 ⟨rfl, hb⟩; refine ⟨_, rfl, ?_⟩; have n0_ := Aside0.mk (below_step (by repeat (first | (with_reducible first | exact HB.out | apply below_alloc | apply pw_below_drewN | apply below_drew1) | exact HB.out)) hb); clear HB; have HB := n0_; clear n0_; (try clear hb); (try clear hb2); (try clear hk); (try clear hi)))
  (try simp only [Act.put, List.setIfInBounds_toArray, List.set_cons_zero, List.set_cons_succ])
  go_cut [23] (fun v23 wc => ∃ (kq : Nat) (x23_4 : Bool), v23 = .bool x23_4 ∧ Aside0 (satchellaw07_PathUnder.j0 kq a0 a1 a2 t162 x23_4 = some r) ∧ Aside0 (kq ≤ k) ∧ Aside0 (Below w.heap.size w wc))
  case first =>
    have H := HC5.out
    clear HC5
    by_cases c7 : (a0.size : Int) > 300
    · rw [if_pos c7] at H
      have c7b0 : decide (300 < (a0.size : Int)) = true := decide_eq_true c7
      have c7b1 : decide (300 < a0.size) = true := decide_eq_true (by omega)
      clear c7
      (first | rw [c7b0] | (simp only [i64_w, i32_w]; rw [c7b0]) | skip)
      have H' := Aside0.mk H
      clear H
      go_wp2
      go_meet
      case rel => exact ⟨_, (true), (by first | rfl | (simp; done) | (simp [*]; done)), H', ⟨by first | omega | exact Nat.le_refl _⟩, ⟨by repeat (first | (with_reducible first | exact HB.out | apply below_alloc | apply pw_below_drewN | apply below_drew1) | exact HB.out)⟩⟩
    · rw [if_neg c7] at H
      have c7b0 : decide (300 < (a0.size : Int)) = false := decide_eq_false c7
      have c7b1 : decide (300 < a0.size) = false := decide_eq_false (by omega)
      clear c7
      (first | rw [c7b0] | (simp only [i64_w, i32_w]; rw [c7b0]) | skip)
      by_cases c8 : (a1.size : Int) > 300
      · rw [if_pos c8] at H
        have c8b0 : decide (300 < (a1.size : Int)) = true := decide_eq_true c8
        have c8b1 : decide (300 < a1.size) = true := decide_eq_true (by omega)
        clear c8
        have H' := Aside0.mk H
        clear H
        go_wp2
        go_meet
        case rel => exact ⟨_, (true), (by first | rfl | (simp; done) | (simp [*]; done)), H', ⟨by first | omega | exact Nat.le_refl _⟩, ⟨by repeat (first | (with_reducible first | exact HB.out | apply below_alloc | apply pw_below_drewN | apply below_drew1) | exact HB.out)⟩⟩
      · rw [if_neg c8] at H
        have c8b0 : decide (300 < (a1.size : Int)) = false := decide_eq_false c8
        have c8b1 : decide (300 < a1.size) = false := decide_eq_false (by omega)
        clear c8
        have H' := Aside0.mk H
        clear H
        go_wp2
        go_meet
        case rel => exact ⟨_, (decide ((a2.size : Int) > 300)), (by first | rfl | (simp; done) | (simp [*]; done)), H', ⟨by first | omega | exact Nat.le_refl _⟩, ⟨by repeat (first | (with_reducible first | exact HB.out | apply below_alloc | apply pw_below_drewN | apply below_drew1) | exact HB.out)⟩⟩
  case rest =>
    clear HC5
    try clear p2
    try clear c5
    try clear c7
    try clear c7b0
    try clear c7b1
    try clear c8
    try clear c8b0
    try clear c8b1
    obtain ⟨kq, x23_4, rfl, HA, HJ4, HB⟩ := hcut
    cases kq with
    | zero => exact absurd HA.out (by simp [satchellaw07_PathUnder.j0])
    | succ kj4 =>
      have H := HA.out
      clear HA
      simp only [satchellaw07_PathUnder.j0] at H
      by_cases c9 : x23_4 = true
      · subst c9
        have H1 : (some t162) = some r := by rw [if_pos rfl] at H; exact H
        clear H
        have H := H1
        clear H1
        obtain rfl := Option.some.inj H
        go_wp2
        go_ret
        exact ⟨by first | rfl | (simp [errW_none, errW_some] <;> rfl) | (simp [*, errW_none, errW_some] <;> rfl), by repeat (first | (with_reducible first | exact HB.out | apply below_alloc | apply pw_below_drewN | apply below_drew1) | exact HB.out)⟩
      · replace c9 := Bool.eq_false_iff.mpr c9
        subst c9
        have H1 : ((path_Parent.f a0).bind fun bt163 => (if bt163.2 = true then ((path_Under.f a0 bt163.1).bind fun t165 => (if t165 = true then ((path_Compare.f kj4 bt163.1 a0).bind fun t166 => (if t166 = (-1) then ((path_Under.f bt163.1 a1).bind fun t167 => (if t167 = true then ((path_Under.f a0 a1).bind fun t168 => (satchellaw07_PathUnder.j1 kj4 a0 a1 a2 t162 bt163.1 bt163.2 (!t168))) else (satchellaw07_PathUnder.j1 kj4 a0 a1 a2 t162 bt163.1 bt163.2 false))) else (satchellaw07_PathUnder.j1 kj4 a0 a1 a2 t162 bt163.1 bt163.2 true))) else (satchellaw07_PathUnder.j1 kj4 a0 a1 a2 t162 bt163.1 bt163.2 true))) else (satchellaw07_PathUnder.j1 kj4 a0 a1 a2 t162 bt163.1 bt163.2 false))) = some r := by rw [if_neg (show ¬ (false = true) by decide)] at H; exact H
        clear H
        have H := H1
        clear H1
        replace H := Option.bind_eq_some_iff.mp H
        obtain ⟨⟨t163, t164⟩, A100, H⟩ := H
        replace H : (if t164 = true then ((path_Under.f a0 t163).bind fun t165 => (if t165 = true then ((path_Compare.f kj4 t163 a0).bind fun t166 => (if t166 = (-1) then ((path_Under.f t163 a1).bind fun t167 => (if t167 = true then ((path_Under.f a0 a1).bind fun t168 => (satchellaw07_PathUnder.j1 kj4 a0 a1 a2 t162 t163 t164 (!t168))) else (satchellaw07_PathUnder.j1 kj4 a0 a1 a2 t162 t163 t164 false))) else (satchellaw07_PathUnder.j1 kj4 a0 a1 a2 t162 t163 t164 true))) else (satchellaw07_PathUnder.j1 kj4 a0 a1 a2 t162 t163 t164 true))) else (satchellaw07_PathUnder.j1 kj4 a0 a1 a2 t162 t163 t164 false)) = some r := H
        have A10 := Aside0.mk A100
        clear A100
        have HC11 := Aside0.mk H
        clear H
        go_upto_region 5 with (first | ((with_reducible refine gate_callee (f := 15) rfl ?_); refine goesL_ (some 27) rfl rfl Try.func15 (by kernel_rfl) rfl #[.string a0] rfl (by (try simp only [List.map_toArray, List.map_cons, List.map_nil]); first | done | rfl | (simp only [List.length_drop, List.length_take]; rfl)) ?_; (with_reducible refine (path_Parent.calls a0 t163 t164 _ A10.out).mono ?_); rintro e w12 ⟨rfl, hb⟩; refine ⟨_, rfl, ?_⟩; have n0_ := Aside0.mk (below_step (by repeat (first | (with_reducible first | exact HB.out | apply below_alloc | apply pw_below_drewN | apply below_drew1) | exact HB.out)) hb); clear HB; have HB := n0_; clear n0_; (try clear hb); (try clear hb2); (try clear hk); (try clear hi)))
        (try simp only [Act.put, List.setIfInBounds_toArray, List.set_cons_zero, List.set_cons_succ])
        go_cut [53] (fun v53 wc => ∃ (kq : Nat) (x53_10 : Bool), v53 = .bool x53_10 ∧ Aside0 (satchellaw07_PathUnder.j1 kq a0 a1 a2 t162 t163 t164 x53_10 = some r) ∧ Aside0 (kq ≤ kj4) ∧ Aside0 (Below w.heap.size w wc))
        case first =>
          have H := HC11.out
          clear HC11
          by_cases c13 : t164 = true
          · subst c13
            have H1 : ((path_Under.f a0 t163).bind fun t165 => (if t165 = true then ((path_Compare.f kj4 t163 a0).bind fun t166 => (if t166 = (-1) then ((path_Under.f t163 a1).bind fun t167 => (if t167 = true then ((path_Under.f a0 a1).bind fun t168 => (satchellaw07_PathUnder.j1 kj4 a0 a1 a2 t162 t163 true (!t168))) else (satchellaw07_PathUnder.j1 kj4 a0 a1 a2 t162 t163 true false))) else (satchellaw07_PathUnder.j1 kj4 a0 a1 a2 t162 t163 true true))) else (satchellaw07_PathUnder.j1 kj4 a0 a1 a2 t162 t163 true true))) = some r := by rw [if_pos rfl] at H; exact H
            clear H
            have H := H1
            clear H1
            replace H := Option.bind_eq_some_iff.mp H
            obtain ⟨t165, A140, H⟩ := H
            replace H : (if t165 = true then ((path_Compare.f kj4 t163 a0).bind fun t166 => (if t166 = (-1) then ((path_Under.f t163 a1).bind fun t167 => (if t167 = true then ((path_Under.f a0 a1).bind fun t168 => (satchellaw07_PathUnder.j1 kj4 a0 a1 a2 t162 t163 true (!t168))) else (satchellaw07_PathUnder.j1 kj4 a0 a1 a2 t162 t163 true false))) else (satchellaw07_PathUnder.j1 kj4 a0 a1 a2 t162 t163 true true))) else (satchellaw07_PathUnder.j1 kj4 a0 a1 a2 t162 t163 true true)) = some r := H
            have A14 := Aside0.mk A140
            clear A140
            by_cases c15 : t165 = true
            · subst c15
              have H1 : ((path_Compare.f kj4 t163 a0).bind fun t166 => (if t166 = (-1) then ((path_Under.f t163 a1).bind fun t167 => (if t167 = true then ((path_Under.f a0 a1).bind fun t168 => (satchellaw07_PathUnder.j1 kj4 a0 a1 a2 t162 t163 true (!t168))) else (satchellaw07_PathUnder.j1 kj4 a0 a1 a2 t162 t163 true false))) else (satchellaw07_PathUnder.j1 kj4 a0 a1 a2 t162 t163 true true))) = some r := by rw [if_pos rfl] at H; exact H
              clear H
              have H := H1
              clear H1
              replace H := Option.bind_eq_some_iff.mp H
              obtain ⟨t166, A160, H⟩ := H
              replace H : (if t166 = (-1) then ((path_Under.f t163 a1).bind fun t167 => (if t167 = true then ((path_Under.f a0 a1).bind fun t168 => (satchellaw07_PathUnder.j1 kj4 a0 a1 a2 t162 t163 true (!t168))) else (satchellaw07_PathUnder.j1 kj4 a0 a1 a2 t162 t163 true false))) else (satchellaw07_PathUnder.j1 kj4 a0 a1 a2 t162 t163 true true)) = some r := H
              have A16 := Aside0.mk A160
              clear A160
              by_cases c17 : t166 = (-1)
              · rw [if_pos c17] at H
                have c17b0 : (t166 == (-1)) = true := beq_iff_eq.mpr c17
                have c17b1 : (t166 != (-1)) = false := bne_eq_false_iff_eq.mpr c17
                clear c17
                (first | rw [c17b0] | (simp only [i64_w, i32_w]; rw [c17b0]) | skip)
                replace H := Option.bind_eq_some_iff.mp H
                obtain ⟨t167, A180, H⟩ := H
                replace H : (if t167 = true then ((path_Under.f a0 a1).bind fun t168 => (satchellaw07_PathUnder.j1 kj4 a0 a1 a2 t162 t163 true (!t168))) else (satchellaw07_PathUnder.j1 kj4 a0 a1 a2 t162 t163 true false)) = some r := H
                have A18 := Aside0.mk A180
                clear A180
                by_cases c19 : t167 = true
                · subst c19
                  have H1 : ((path_Under.f a0 a1).bind fun t168 => (satchellaw07_PathUnder.j1 kj4 a0 a1 a2 t162 t163 true (!t168))) = some r := by rw [if_pos rfl] at H; exact H
                  clear H
                  have H := H1
                  clear H1
                  replace H := Option.bind_eq_some_iff.mp H
                  obtain ⟨t168, A200, H⟩ := H
                  replace H : (satchellaw07_PathUnder.j1 kj4 a0 a1 a2 t162 t163 true (!t168)) = some r := H
                  have A20 := Aside0.mk A200
                  clear A200
                  have H' := Aside0.mk H
                  clear H
                  go_wp2_with (first | (go_at_call 11; (with_reducible refine (path_Under.calls a0 t163 true _ A14.out).mono ?_); rintro e w21 ⟨rfl, hb⟩; have n0_ := Aside0.mk (below_step (by repeat (first | (with_reducible first | exact HB.out | apply below_alloc | apply pw_below_drewN | apply below_drew1) | exact HB.out)) hb); clear HB; have HB := n0_; clear n0_; (try clear hb); (try clear hb2); (try clear hk); (try clear hi)) | (go_at_call 9; (with_reducible refine (path_Compare.calls kj4 t163 a0 t166 _ A16.out).mono ?_); rintro e w22 ⟨rfl, hb⟩; have n0_ := Aside0.mk (below_step (by repeat (first | (with_reducible first | exact HB.out | apply below_alloc | apply pw_below_drewN | apply below_drew1) | exact HB.out)) hb); clear HB; have HB := n0_; clear n0_; (try clear hb); (try clear hb2); (try clear hk); (try clear hi)) | (go_at_call 11; (with_reducible refine (path_Under.calls t163 a1 true _ A18.out).mono ?_); rintro e w23 ⟨rfl, hb⟩; have n0_ := Aside0.mk (below_step (by repeat (first | (with_reducible first | exact HB.out | apply below_alloc | apply pw_below_drewN | apply below_drew1) | exact HB.out)) hb); clear HB; have HB := n0_; clear n0_; (try clear hb); (try clear hb2); (try clear hk); (try clear hi)) | (go_at_call 11; (with_reducible refine (path_Under.calls a0 a1 t168 _ A20.out).mono ?_); rintro e w24 ⟨rfl, hb⟩; have n0_ := Aside0.mk (below_step (by repeat (first | (with_reducible first | exact HB.out | apply below_alloc | apply pw_below_drewN | apply below_drew1) | exact HB.out)) hb); clear HB; have HB := n0_; clear n0_; (try clear hb); (try clear hb2); (try clear hk); (try clear hi)))
                  go_meet
                  case rel => exact ⟨_, (!t168), (by first | rfl | (simp; done) | (simp [*]; done)), H', ⟨by have := HJ4.out; first | omega | exact Nat.le_refl _⟩, ⟨by repeat (first | (with_reducible first | exact HB.out | apply below_alloc | apply pw_below_drewN | apply below_drew1) | exact HB.out)⟩⟩
                · replace c19 := Bool.eq_false_iff.mpr c19
                  subst c19
                  have H1 : (satchellaw07_PathUnder.j1 kj4 a0 a1 a2 t162 t163 true false) = some r := by rw [if_neg (show ¬ (false = true) by decide)] at H; exact H
                  clear H
                  have H := H1
                  clear H1
                  have H' := Aside0.mk H
                  clear H
                  go_wp2_with (first | (go_at_call 11; (with_reducible refine (path_Under.calls a0 t163 true _ A14.out).mono ?_); rintro e w25 ⟨rfl, hb⟩; have n0_ := Aside0.mk (below_step (by repeat (first | (with_reducible first | exact HB.out | apply below_alloc | apply pw_below_drewN | apply below_drew1) | exact HB.out)) hb); clear HB; have HB := n0_; clear n0_; (try clear hb); (try clear hb2); (try clear hk); (try clear hi)) | (go_at_call 9; (with_reducible refine (path_Compare.calls kj4 t163 a0 t166 _ A16.out).mono ?_); rintro e w26 ⟨rfl, hb⟩; have n0_ := Aside0.mk (below_step (by repeat (first | (with_reducible first | exact HB.out | apply below_alloc | apply pw_below_drewN | apply below_drew1) | exact HB.out)) hb); clear HB; have HB := n0_; clear n0_; (try clear hb); (try clear hb2); (try clear hk); (try clear hi)) | (go_at_call 11; (with_reducible refine (path_Under.calls t163 a1 false _ A18.out).mono ?_); rintro e w27 ⟨rfl, hb⟩; have n0_ := Aside0.mk (below_step (by repeat (first | (with_reducible first | exact HB.out | apply below_alloc | apply pw_below_drewN | apply below_drew1) | exact HB.out)) hb); clear HB; have HB := n0_; clear n0_; (try clear hb); (try clear hb2); (try clear hk); (try clear hi)))
                  go_meet
                  case rel => exact ⟨_, (false), (by first | rfl | (simp; done) | (simp [*]; done)), H', ⟨by have := HJ4.out; first | omega | exact Nat.le_refl _⟩, ⟨by repeat (first | (with_reducible first | exact HB.out | apply below_alloc | apply pw_below_drewN | apply below_drew1) | exact HB.out)⟩⟩
              · rw [if_neg c17] at H
                have c17b0 : (t166 == (-1)) = false := beq_eq_false_iff_ne.mpr c17
                have c17b1 : (t166 != (-1)) = true := bne_iff_ne.mpr c17
                (first | rw [c17b0] | (simp only [i64_w, i32_w]; rw [c17b0]) | skip)
                have H' := Aside0.mk H
                clear H
                go_wp2_with (first | (go_at_call 11; (with_reducible refine (path_Under.calls a0 t163 true _ A14.out).mono ?_); rintro e w28 ⟨rfl, hb⟩; have n0_ := Aside0.mk (below_step (by repeat (first | (with_reducible first | exact HB.out | apply below_alloc | apply pw_below_drewN | apply below_drew1) | exact HB.out)) hb); clear HB; have HB := n0_; clear n0_; (try clear hb); (try clear hb2); (try clear hk); (try clear hi)) | (go_at_call 9; (with_reducible refine (path_Compare.calls kj4 t163 a0 t166 _ A16.out).mono ?_); rintro e w29 ⟨rfl, hb⟩; have n0_ := Aside0.mk (below_step (by repeat (first | (with_reducible first | exact HB.out | apply below_alloc | apply pw_below_drewN | apply below_drew1) | exact HB.out)) hb); clear HB; have HB := n0_; clear n0_; (try clear hb); (try clear hb2); (try clear hk); (try clear hi)))
                go_meet
                case rel => exact ⟨_, (true), (by first | rfl | (simp; done) | (simp [*]; done)), H', ⟨by have := HJ4.out; first | omega | exact Nat.le_refl _⟩, ⟨by repeat (first | (with_reducible first | exact HB.out | apply below_alloc | apply pw_below_drewN | apply below_drew1) | exact HB.out)⟩⟩
            · replace c15 := Bool.eq_false_iff.mpr c15
              subst c15
              have H1 : (satchellaw07_PathUnder.j1 kj4 a0 a1 a2 t162 t163 true true) = some r := by rw [if_neg (show ¬ (false = true) by decide)] at H; exact H
              clear H
              have H := H1
              clear H1
              have H' := Aside0.mk H
              clear H
              go_wp2_with (first | (go_at_call 11; (with_reducible refine (path_Under.calls a0 t163 false _ A14.out).mono ?_); rintro e w30 ⟨rfl, hb⟩; have n0_ := Aside0.mk (below_step (by repeat (first | (with_reducible first | exact HB.out | apply below_alloc | apply pw_below_drewN | apply below_drew1) | exact HB.out)) hb); clear HB; have HB := n0_; clear n0_; (try clear hb); (try clear hb2); (try clear hk); (try clear hi)))
              go_meet
              case rel => exact ⟨_, (true), (by first | rfl | (simp; done) | (simp [*]; done)), H', ⟨by have := HJ4.out; first | omega | exact Nat.le_refl _⟩, ⟨by repeat (first | (with_reducible first | exact HB.out | apply below_alloc | apply pw_below_drewN | apply below_drew1) | exact HB.out)⟩⟩
          · replace c13 := Bool.eq_false_iff.mpr c13
            subst c13
            have H1 : (satchellaw07_PathUnder.j1 kj4 a0 a1 a2 t162 t163 false false) = some r := by rw [if_neg (show ¬ (false = true) by decide)] at H; exact H
            clear H
            have H := H1
            clear H1
            have H' := Aside0.mk H
            clear H
            go_wp2
            go_meet
            case rel => exact ⟨_, (false), (by first | rfl | (simp; done) | (simp [*]; done)), H', ⟨by have := HJ4.out; first | omega | exact Nat.le_refl _⟩, ⟨by repeat (first | (with_reducible first | exact HB.out | apply below_alloc | apply pw_below_drewN | apply below_drew1) | exact HB.out)⟩⟩
        case rest =>
          clear HC11
          try clear c1
          try clear p2
          try clear c5
          try clear c7
          try clear c7b0
          try clear c7b1
          try clear c8
          try clear c8b0
          try clear c8b1
          try clear c9
          try clear c13
          try clear c15
          try clear c17
          try clear c17b0
          try clear c17b1
          try clear c19
          try clear p2
          obtain ⟨kq, x53_10, rfl, HA, HJ10, HB⟩ := hcut
          cases kq with
          | zero => exact absurd HA.out (by simp [satchellaw07_PathUnder.j1])
          | succ kj10 =>
            have H := HA.out
            clear HA
            simp only [satchellaw07_PathUnder.j1] at H
            by_cases c31 : x53_10 = true
            · subst c31
              have H1 : (some false) = some r := by rw [if_pos rfl] at H; exact H
              clear H
              have H := H1
              clear H1
              obtain rfl := Option.some.inj H
              go_wp2
              go_ret
              exact ⟨by first | rfl | (simp [errW_none, errW_some] <;> rfl) | (simp [*, errW_none, errW_some] <;> rfl), by repeat (first | (with_reducible first | exact HB.out | apply below_alloc | apply pw_below_drewN | apply below_drew1) | exact HB.out)⟩
            · replace c31 := Bool.eq_false_iff.mpr c31
              subst c31
              have H1 : ((path_Under.f a0 a1).bind fun t169 => (if t169 = true then ((path_Compare.f kj10 a1 a0).bind fun t170 => (if t170 = (-1) then ((path_Under.f a1 a0).bind fun t171 => (if t171 = true then (satchellaw07_PathUnder.j2 kj10 a0 a1 a2 t162 true) else (if t164 = true then (if t163.toList = a1.toList then (satchellaw07_PathUnder.j2 kj10 a0 a1 a2 t162 false) else ((path_Under.f t163 a1).bind fun t172 => (satchellaw07_PathUnder.j2 kj10 a0 a1 a2 t162 (!t172)))) else (satchellaw07_PathUnder.j2 kj10 a0 a1 a2 t162 true)))) else (satchellaw07_PathUnder.j2 kj10 a0 a1 a2 t162 true))) else (some t162))) = some r := by rw [if_neg (show ¬ (false = true) by decide)] at H; exact H
              clear H
              have H := H1
              clear H1
              replace H := Option.bind_eq_some_iff.mp H
              obtain ⟨t169, A320, H⟩ := H
              replace H : (if t169 = true then ((path_Compare.f kj10 a1 a0).bind fun t170 => (if t170 = (-1) then ((path_Under.f a1 a0).bind fun t171 => (if t171 = true then (satchellaw07_PathUnder.j2 kj10 a0 a1 a2 t162 true) else (if t164 = true then (if t163.toList = a1.toList then (satchellaw07_PathUnder.j2 kj10 a0 a1 a2 t162 false) else ((path_Under.f t163 a1).bind fun t172 => (satchellaw07_PathUnder.j2 kj10 a0 a1 a2 t162 (!t172)))) else (satchellaw07_PathUnder.j2 kj10 a0 a1 a2 t162 true)))) else (satchellaw07_PathUnder.j2 kj10 a0 a1 a2 t162 true))) else (some t162)) = some r := H
              have A32 := Aside0.mk A320
              clear A320
              by_cases c33 : t169 = true
              · subst c33
                have H1 : ((path_Compare.f kj10 a1 a0).bind fun t170 => (if t170 = (-1) then ((path_Under.f a1 a0).bind fun t171 => (if t171 = true then (satchellaw07_PathUnder.j2 kj10 a0 a1 a2 t162 true) else (if t164 = true then (if t163.toList = a1.toList then (satchellaw07_PathUnder.j2 kj10 a0 a1 a2 t162 false) else ((path_Under.f t163 a1).bind fun t172 => (satchellaw07_PathUnder.j2 kj10 a0 a1 a2 t162 (!t172)))) else (satchellaw07_PathUnder.j2 kj10 a0 a1 a2 t162 true)))) else (satchellaw07_PathUnder.j2 kj10 a0 a1 a2 t162 true))) = some r := by rw [if_pos rfl] at H; exact H
                clear H
                have H := H1
                clear H1
                have HC34 := Aside0.mk H
                clear H
                go_upto_region 9 with (first | ((with_reducible refine gate_callee (f := 11) rfl ?_); refine goesL_ (some 56) rfl rfl Try.func11 (by kernel_rfl) rfl #[.string a0, .string a1] rfl (by (try simp only [List.map_toArray, List.map_cons, List.map_nil]); first | done | rfl | (simp only [List.length_drop, List.length_take]; rfl)) ?_; (with_reducible refine (path_Under.calls a0 a1 true _ A32.out).mono ?_); rintro e w35 ⟨rfl, hb⟩; refine ⟨_, rfl, ?_⟩; have n0_ := Aside0.mk (below_step (by repeat (first | (with_reducible first | exact HB.out | apply below_alloc | apply pw_below_drewN | apply below_drew1) | exact HB.out)) hb); clear HB; have HB := n0_; clear n0_; (try clear hb); (try clear hb2); (try clear hk); (try clear hi)))
                (try simp only [Act.put, List.setIfInBounds_toArray, List.set_cons_zero, List.set_cons_succ])
                go_cut [82] (fun v82 wc => ∃ (kq : Nat) (x82_33 : Bool), v82 = .bool x82_33 ∧ Aside0 (satchellaw07_PathUnder.j2 kq a0 a1 a2 t162 x82_33 = some r) ∧ Aside0 (kq ≤ kj10) ∧ Aside0 (Below w.heap.size w wc))
                case first =>
                  have H := HC34.out
                  clear HC34
                  replace H := Option.bind_eq_some_iff.mp H
                  obtain ⟨t170, A360, H⟩ := H
                  replace H : (if t170 = (-1) then ((path_Under.f a1 a0).bind fun t171 => (if t171 = true then (satchellaw07_PathUnder.j2 kj10 a0 a1 a2 t162 true) else (if t164 = true then (if t163.toList = a1.toList then (satchellaw07_PathUnder.j2 kj10 a0 a1 a2 t162 false) else ((path_Under.f t163 a1).bind fun t172 => (satchellaw07_PathUnder.j2 kj10 a0 a1 a2 t162 (!t172)))) else (satchellaw07_PathUnder.j2 kj10 a0 a1 a2 t162 true)))) else (satchellaw07_PathUnder.j2 kj10 a0 a1 a2 t162 true)) = some r := H
                  have A36 := Aside0.mk A360
                  clear A360
                  by_cases c37 : t170 = (-1)
                  · rw [if_pos c37] at H
                    have c37b0 : (t170 == (-1)) = true := beq_iff_eq.mpr c37
                    have c37b1 : (t170 != (-1)) = false := bne_eq_false_iff_eq.mpr c37
                    clear c37
                    (first | rw [c37b0] | (simp only [i64_w, i32_w]; rw [c37b0]) | skip)
                    replace H := Option.bind_eq_some_iff.mp H
                    obtain ⟨t171, A380, H⟩ := H
                    replace H : (if t171 = true then (satchellaw07_PathUnder.j2 kj10 a0 a1 a2 t162 true) else (if t164 = true then (if t163.toList = a1.toList then (satchellaw07_PathUnder.j2 kj10 a0 a1 a2 t162 false) else ((path_Under.f t163 a1).bind fun t172 => (satchellaw07_PathUnder.j2 kj10 a0 a1 a2 t162 (!t172)))) else (satchellaw07_PathUnder.j2 kj10 a0 a1 a2 t162 true))) = some r := H
                    have A38 := Aside0.mk A380
                    clear A380
                    by_cases c39 : t171 = true
                    · subst c39
                      have H1 : (satchellaw07_PathUnder.j2 kj10 a0 a1 a2 t162 true) = some r := by rw [if_pos rfl] at H; exact H
                      clear H
                      have H := H1
                      clear H1
                      have H' := Aside0.mk H
                      clear H
                      go_wp2_with (first | ((with_reducible refine gate_callee (f := 9) rfl ?_); refine goesL_ (some 61) rfl rfl Try.func9 (by kernel_rfl) rfl #[.string a1, .string a0] rfl (by (try simp only [List.map_toArray, List.map_cons, List.map_nil]); first | done | rfl | (simp only [List.length_drop, List.length_take]; rfl)) ?_; (with_reducible refine (path_Compare.calls kj10 a1 a0 t170 _ A36.out).mono ?_); rintro e w40 ⟨rfl, hb⟩; refine ⟨_, rfl, ?_⟩; have n0_ := Aside0.mk (below_step (by repeat (first | (with_reducible first | exact HB.out | apply below_alloc | apply pw_below_drewN | apply below_drew1) | exact HB.out)) hb); clear HB; have HB := n0_; clear n0_; (try clear hb); (try clear hb2); (try clear hk); (try clear hi)) | (go_at_call 11; (with_reducible refine (path_Under.calls a1 a0 true _ A38.out).mono ?_); rintro e w41 ⟨rfl, hb⟩; have n0_ := Aside0.mk (below_step (by repeat (first | (with_reducible first | exact HB.out | apply below_alloc | apply pw_below_drewN | apply below_drew1) | exact HB.out)) hb); clear HB; have HB := n0_; clear n0_; (try clear hb); (try clear hb2); (try clear hk); (try clear hi)))
                      go_meet
                      case rel => exact ⟨_, (true), (by first | rfl | (simp; done) | (simp [*]; done)), H', ⟨by have := HJ4.out; have := HJ10.out; first | omega | exact Nat.le_refl _⟩, ⟨by repeat (first | (with_reducible first | exact HB.out | apply below_alloc | apply pw_below_drewN | apply below_drew1) | exact HB.out)⟩⟩
                    · replace c39 := Bool.eq_false_iff.mpr c39
                      subst c39
                      have H1 : (if t164 = true then (if t163.toList = a1.toList then (satchellaw07_PathUnder.j2 kj10 a0 a1 a2 t162 false) else ((path_Under.f t163 a1).bind fun t172 => (satchellaw07_PathUnder.j2 kj10 a0 a1 a2 t162 (!t172)))) else (satchellaw07_PathUnder.j2 kj10 a0 a1 a2 t162 true)) = some r := by rw [if_neg (show ¬ (false = true) by decide)] at H; exact H
                      clear H
                      have H := H1
                      clear H1
                      by_cases c42 : t164 = true
                      · subst c42
                        have H1 : (if t163.toList = a1.toList then (satchellaw07_PathUnder.j2 kj10 a0 a1 a2 t162 false) else ((path_Under.f t163 a1).bind fun t172 => (satchellaw07_PathUnder.j2 kj10 a0 a1 a2 t162 (!t172)))) = some r := by rw [if_pos rfl] at H; exact H
                        clear H
                        have H := H1
                        clear H1
                        by_cases c43 : t163.toList = a1.toList
                        · rw [if_pos c43] at H
                          have c43b0 : (t163.toList == a1.toList) = true := beq_iff_eq.mpr c43
                          have c43b1 : (t163.toList != a1.toList) = false := bne_eq_false_iff_eq.mpr c43
                          clear c43
                          have H' := Aside0.mk H
                          clear H
                          go_wp2_with (first | ((with_reducible refine gate_callee (f := 9) rfl ?_); refine goesL_ (some 61) rfl rfl Try.func9 (by kernel_rfl) rfl #[.string a1, .string a0] rfl (by (try simp only [List.map_toArray, List.map_cons, List.map_nil]); first | done | rfl | (simp only [List.length_drop, List.length_take]; rfl)) ?_; (with_reducible refine (path_Compare.calls kj10 a1 a0 t170 _ A36.out).mono ?_); rintro e w44 ⟨rfl, hb⟩; refine ⟨_, rfl, ?_⟩; have n0_ := Aside0.mk (below_step (by repeat (first | (with_reducible first | exact HB.out | apply below_alloc | apply pw_below_drewN | apply below_drew1) | exact HB.out)) hb); clear HB; have HB := n0_; clear n0_; (try clear hb); (try clear hb2); (try clear hk); (try clear hi)) | (go_at_call 11; (with_reducible refine (path_Under.calls a1 a0 false _ A38.out).mono ?_); rintro e w45 ⟨rfl, hb⟩; have n0_ := Aside0.mk (below_step (by repeat (first | (with_reducible first | exact HB.out | apply below_alloc | apply pw_below_drewN | apply below_drew1) | exact HB.out)) hb); clear HB; have HB := n0_; clear n0_; (try clear hb); (try clear hb2); (try clear hk); (try clear hi)))
                          go_meet
                          case rel => exact ⟨_, (false), (by first | rfl | (simp; done) | (simp [*]; done)), H', ⟨by have := HJ4.out; have := HJ10.out; first | omega | exact Nat.le_refl _⟩, ⟨by repeat (first | (with_reducible first | exact HB.out | apply below_alloc | apply pw_below_drewN | apply below_drew1) | exact HB.out)⟩⟩
                        · rw [if_neg c43] at H
                          have c43b0 : (t163.toList == a1.toList) = false := beq_eq_false_iff_ne.mpr c43
                          have c43b1 : (t163.toList != a1.toList) = true := bne_iff_ne.mpr c43
                          replace H := Option.bind_eq_some_iff.mp H
                          obtain ⟨t172, A460, H⟩ := H
                          replace H : (satchellaw07_PathUnder.j2 kj10 a0 a1 a2 t162 (!t172)) = some r := H
                          have A46 := Aside0.mk A460
                          clear A460
                          have H' := Aside0.mk H
                          clear H
                          go_wp2_with (first | ((with_reducible refine gate_callee (f := 9) rfl ?_); refine goesL_ (some 61) rfl rfl Try.func9 (by kernel_rfl) rfl #[.string a1, .string a0] rfl (by (try simp only [List.map_toArray, List.map_cons, List.map_nil]); first | done | rfl | (simp only [List.length_drop, List.length_take]; rfl)) ?_; (with_reducible refine (path_Compare.calls kj10 a1 a0 t170 _ A36.out).mono ?_); rintro e w47 ⟨rfl, hb⟩; refine ⟨_, rfl, ?_⟩; have n0_ := Aside0.mk (below_step (by repeat (first | (with_reducible first | exact HB.out | apply below_alloc | apply pw_below_drewN | apply below_drew1) | exact HB.out)) hb); clear HB; have HB := n0_; clear n0_; (try clear hb); (try clear hb2); (try clear hk); (try clear hi)) | (go_at_call 11; (with_reducible refine (path_Under.calls a1 a0 false _ A38.out).mono ?_); rintro e w48 ⟨rfl, hb⟩; have n0_ := Aside0.mk (below_step (by repeat (first | (with_reducible first | exact HB.out | apply below_alloc | apply pw_below_drewN | apply below_drew1) | exact HB.out)) hb); clear HB; have HB := n0_; clear n0_; (try clear hb); (try clear hb2); (try clear hk); (try clear hi)) | (go_at_call 11; (with_reducible refine (path_Under.calls t163 a1 t172 _ A46.out).mono ?_); rintro e w49 ⟨rfl, hb⟩; have n0_ := Aside0.mk (below_step (by repeat (first | (with_reducible first | exact HB.out | apply below_alloc | apply pw_below_drewN | apply below_drew1) | exact HB.out)) hb); clear HB; have HB := n0_; clear n0_; (try clear hb); (try clear hb2); (try clear hk); (try clear hi)))
                          go_meet
                          case rel => exact ⟨_, (!t172), (by first | rfl | (simp; done) | (simp [*]; done)), H', ⟨by have := HJ4.out; have := HJ10.out; first | omega | exact Nat.le_refl _⟩, ⟨by repeat (first | (with_reducible first | exact HB.out | apply below_alloc | apply pw_below_drewN | apply below_drew1) | exact HB.out)⟩⟩
                      · replace c42 := Bool.eq_false_iff.mpr c42
                        subst c42
                        have H1 : (satchellaw07_PathUnder.j2 kj10 a0 a1 a2 t162 true) = some r := by rw [if_neg (show ¬ (false = true) by decide)] at H; exact H
                        clear H
                        have H := H1
                        clear H1
                        have H' := Aside0.mk H
                        clear H
                        go_wp2_with (first | ((with_reducible refine gate_callee (f := 9) rfl ?_); refine goesL_ (some 61) rfl rfl Try.func9 (by kernel_rfl) rfl #[.string a1, .string a0] rfl (by (try simp only [List.map_toArray, List.map_cons, List.map_nil]); first | done | rfl | (simp only [List.length_drop, List.length_take]; rfl)) ?_; (with_reducible refine (path_Compare.calls kj10 a1 a0 t170 _ A36.out).mono ?_); rintro e w50 ⟨rfl, hb⟩; refine ⟨_, rfl, ?_⟩; have n0_ := Aside0.mk (below_step (by repeat (first | (with_reducible first | exact HB.out | apply below_alloc | apply pw_below_drewN | apply below_drew1) | exact HB.out)) hb); clear HB; have HB := n0_; clear n0_; (try clear hb); (try clear hb2); (try clear hk); (try clear hi)) | (go_at_call 11; (with_reducible refine (path_Under.calls a1 a0 false _ A38.out).mono ?_); rintro e w51 ⟨rfl, hb⟩; have n0_ := Aside0.mk (below_step (by repeat (first | (with_reducible first | exact HB.out | apply below_alloc | apply pw_below_drewN | apply below_drew1) | exact HB.out)) hb); clear HB; have HB := n0_; clear n0_; (try clear hb); (try clear hb2); (try clear hk); (try clear hi)))
                        go_meet
                        case rel => exact ⟨_, (true), (by first | rfl | (simp; done) | (simp [*]; done)), H', ⟨by have := HJ4.out; have := HJ10.out; first | omega | exact Nat.le_refl _⟩, ⟨by repeat (first | (with_reducible first | exact HB.out | apply below_alloc | apply pw_below_drewN | apply below_drew1) | exact HB.out)⟩⟩
                  · rw [if_neg c37] at H
                    have c37b0 : (t170 == (-1)) = false := beq_eq_false_iff_ne.mpr c37
                    have c37b1 : (t170 != (-1)) = true := bne_iff_ne.mpr c37
                    (first | rw [c37b0] | (simp only [i64_w, i32_w]; rw [c37b0]) | skip)
                    have H' := Aside0.mk H
                    clear H
                    go_wp2_with (first | ((with_reducible refine gate_callee (f := 9) rfl ?_); refine goesL_ (some 61) rfl rfl Try.func9 (by kernel_rfl) rfl #[.string a1, .string a0] rfl (by (try simp only [List.map_toArray, List.map_cons, List.map_nil]); first | done | rfl | (simp only [List.length_drop, List.length_take]; rfl)) ?_; (with_reducible refine (path_Compare.calls kj10 a1 a0 t170 _ A36.out).mono ?_); rintro e w52 ⟨rfl, hb⟩; refine ⟨_, rfl, ?_⟩; have n0_ := Aside0.mk (below_step (by repeat (first | (with_reducible first | exact HB.out | apply below_alloc | apply pw_below_drewN | apply below_drew1) | exact HB.out)) hb); clear HB; have HB := n0_; clear n0_; (try clear hb); (try clear hb2); (try clear hk); (try clear hi)))
                    go_meet
                    case rel => exact ⟨_, (true), (by first | rfl | (simp; done) | (simp [*]; done)), H', ⟨by have := HJ4.out; have := HJ10.out; first | omega | exact Nat.le_refl _⟩, ⟨by repeat (first | (with_reducible first | exact HB.out | apply below_alloc | apply pw_below_drewN | apply below_drew1) | exact HB.out)⟩⟩
                case rest =>
                  clear HC34
                  try clear c1
                  try clear p2
                  try clear c3
                  try clear c4
                  try clear c5
                  try clear c7
                  try clear c7b0
                  try clear c7b1
                  try clear c8
                  try clear c8b0
                  try clear c8b1
                  try clear c9
                  try clear c11
                  try clear c13
                  try clear c15
                  try clear c17
                  try clear c17b0
                  try clear c17b1
                  try clear c19
                  try clear c31
                  try clear c33
                  try clear c37
                  try clear c37b0
                  try clear c37b1
                  try clear c39
                  try clear c42
                  try clear c43
                  try clear c43b0
                  try clear c43b1
                  try clear p2
                  obtain ⟨kq, x82_33, rfl, HA, HJ33, HB⟩ := hcut
                  cases kq with
                  | zero => exact absurd HA.out (by simp [satchellaw07_PathUnder.j2])
                  | succ kj33 =>
                    have H := HA.out
                    clear HA
                    simp only [satchellaw07_PathUnder.j2] at H
                    by_cases c53 : x82_33 = true
                    · subst c53
                      have H1 : (some false) = some r := by rw [if_pos rfl] at H; exact H
                      clear H
                      have H := H1
                      clear H1
                      obtain rfl := Option.some.inj H
                      go_wp2
                      go_ret
                      exact ⟨by first | rfl | (simp [errW_none, errW_some] <;> rfl) | (simp [*, errW_none, errW_some] <;> rfl), by repeat (first | (with_reducible first | exact HB.out | apply below_alloc | apply pw_below_drewN | apply below_drew1) | exact HB.out)⟩
                    · replace c53 := Bool.eq_false_iff.mpr c53
                      subst c53
                      have H1 : (if t162 = true then ((satchellaw07_valid.f a2).bind fun t173 => (if t173 = true then ((path_Under.f a2 a1).bind fun t174 => (if t174 = true then (some true) else ((path_Compare.f kj33 a2 a1).bind fun t175 => (if t175 ≤ 0 then (some true) else ((path_Compare.f kj33 a2 a0).bind fun t176 => (some (t176 == 1))))))) else (some true))) else (some false)) = some r := by rw [if_neg (show ¬ (false = true) by decide)] at H; exact H
                      clear H
                      have H := H1
                      clear H1
                      by_cases c54 : t162 = true
                      · subst c54
                        have H1 : ((satchellaw07_valid.f a2).bind fun t173 => (if t173 = true then ((path_Under.f a2 a1).bind fun t174 => (if t174 = true then (some true) else ((path_Compare.f kj33 a2 a1).bind fun t175 => (if t175 ≤ 0 then (some true) else ((path_Compare.f kj33 a2 a0).bind fun t176 => (some (t176 == 1))))))) else (some true))) = some r := by rw [if_pos rfl] at H; exact H
                        clear H
                        have H := H1
                        clear H1
                        replace H := Option.bind_eq_some_iff.mp H
                        obtain ⟨t173, A550, H⟩ := H
                        replace H : (if t173 = true then ((path_Under.f a2 a1).bind fun t174 => (if t174 = true then (some true) else ((path_Compare.f kj33 a2 a1).bind fun t175 => (if t175 ≤ 0 then (some true) else ((path_Compare.f kj33 a2 a0).bind fun t176 => (some (t176 == 1))))))) else (some true)) = some r := H
                        have A55 := Aside0.mk A550
                        clear A550
                        by_cases c56 : t173 = true
                        · subst c56
                          have H1 : ((path_Under.f a2 a1).bind fun t174 => (if t174 = true then (some true) else ((path_Compare.f kj33 a2 a1).bind fun t175 => (if t175 ≤ 0 then (some true) else ((path_Compare.f kj33 a2 a0).bind fun t176 => (some (t176 == 1))))))) = some r := by rw [if_pos rfl] at H; exact H
                          clear H
                          have H := H1
                          clear H1
                          replace H := Option.bind_eq_some_iff.mp H
                          obtain ⟨t174, A570, H⟩ := H
                          replace H : (if t174 = true then (some true) else ((path_Compare.f kj33 a2 a1).bind fun t175 => (if t175 ≤ 0 then (some true) else ((path_Compare.f kj33 a2 a0).bind fun t176 => (some (t176 == 1)))))) = some r := H
                          have A57 := Aside0.mk A570
                          clear A570
                          by_cases c58 : t174 = true
                          · subst c58
                            have H1 : (some true) = some r := by rw [if_pos rfl] at H; exact H
                            clear H
                            have H := H1
                            clear H1
                            obtain rfl := Option.some.inj H
                            go_wp2_with (first | (go_at_call 16; (with_reducible refine (satchellaw07_valid.calls a2 true _ A55.out).mono ?_); rintro e w59 ⟨rfl, hb⟩; have n0_ := Aside0.mk (below_step (by repeat (first | (with_reducible first | exact HB.out | apply below_alloc | apply pw_below_drewN | apply below_drew1) | exact HB.out)) hb); clear HB; have HB := n0_; clear n0_; (try clear hb); (try clear hb2); (try clear hk); (try clear hi)) | (go_at_call 11; (with_reducible refine (path_Under.calls a2 a1 true _ A57.out).mono ?_); rintro e w60 ⟨rfl, hb⟩; have n0_ := Aside0.mk (below_step (by repeat (first | (with_reducible first | exact HB.out | apply below_alloc | apply pw_below_drewN | apply below_drew1) | exact HB.out)) hb); clear HB; have HB := n0_; clear n0_; (try clear hb); (try clear hb2); (try clear hk); (try clear hi)))
                            go_ret
                            exact ⟨by first | rfl | (simp [errW_none, errW_some] <;> rfl) | (simp [*, errW_none, errW_some] <;> rfl), by repeat (first | (with_reducible first | exact HB.out | apply below_alloc | apply pw_below_drewN | apply below_drew1) | exact HB.out)⟩
                          · replace c58 := Bool.eq_false_iff.mpr c58
                            subst c58
                            have H1 : ((path_Compare.f kj33 a2 a1).bind fun t175 => (if t175 ≤ 0 then (some true) else ((path_Compare.f kj33 a2 a0).bind fun t176 => (some (t176 == 1))))) = some r := by rw [if_neg (show ¬ (false = true) by decide)] at H; exact H
                            clear H
                            have H := H1
                            clear H1
                            replace H := Option.bind_eq_some_iff.mp H
                            obtain ⟨t175, A610, H⟩ := H
                            replace H : (if t175 ≤ 0 then (some true) else ((path_Compare.f kj33 a2 a0).bind fun t176 => (some (t176 == 1)))) = some r := H
                            have A61 := Aside0.mk A610
                            clear A610
                            by_cases c62 : t175 ≤ 0
                            · rw [if_pos c62] at H
                              have c62b0 : decide (t175 ≤ 0) = true := decide_eq_true c62
                              clear c62
                              obtain rfl := Option.some.inj H
                              go_wp2_with (first | (go_at_call 16; (with_reducible refine (satchellaw07_valid.calls a2 true _ A55.out).mono ?_); rintro e w63 ⟨rfl, hb⟩; have n0_ := Aside0.mk (below_step (by repeat (first | (with_reducible first | exact HB.out | apply below_alloc | apply pw_below_drewN | apply below_drew1) | exact HB.out)) hb); clear HB; have HB := n0_; clear n0_; (try clear hb); (try clear hb2); (try clear hk); (try clear hi)) | (go_at_call 11; (with_reducible refine (path_Under.calls a2 a1 false _ A57.out).mono ?_); rintro e w64 ⟨rfl, hb⟩; have n0_ := Aside0.mk (below_step (by repeat (first | (with_reducible first | exact HB.out | apply below_alloc | apply pw_below_drewN | apply below_drew1) | exact HB.out)) hb); clear HB; have HB := n0_; clear n0_; (try clear hb); (try clear hb2); (try clear hk); (try clear hi)) | (go_at_call 9; (with_reducible refine (path_Compare.calls kj33 a2 a1 t175 _ A61.out).mono ?_); rintro e w65 ⟨rfl, hb⟩; have n0_ := Aside0.mk (below_step (by repeat (first | (with_reducible first | exact HB.out | apply below_alloc | apply pw_below_drewN | apply below_drew1) | exact HB.out)) hb); clear HB; have HB := n0_; clear n0_; (try clear hb); (try clear hb2); (try clear hk); (try clear hi)))
                              go_ret
                              exact ⟨by first | rfl | (simp [errW_none, errW_some] <;> rfl) | (simp [*, errW_none, errW_some] <;> rfl), by repeat (first | (with_reducible first | exact HB.out | apply below_alloc | apply pw_below_drewN | apply below_drew1) | exact HB.out)⟩
                            · rw [if_neg c62] at H
                              have c62b0 : decide (t175 ≤ 0) = false := decide_eq_false c62
                              clear c62
                              replace H := Option.bind_eq_some_iff.mp H
                              obtain ⟨t176, A660, H⟩ := H
                              replace H : (some (t176 == 1)) = some r := H
                              have A66 := Aside0.mk A660
                              clear A660
                              obtain rfl := Option.some.inj H
                              go_wp2_with (first | (go_at_call 16; (with_reducible refine (satchellaw07_valid.calls a2 true _ A55.out).mono ?_); rintro e w67 ⟨rfl, hb⟩; have n0_ := Aside0.mk (below_step (by repeat (first | (with_reducible first | exact HB.out | apply below_alloc | apply pw_below_drewN | apply below_drew1) | exact HB.out)) hb); clear HB; have HB := n0_; clear n0_; (try clear hb); (try clear hb2); (try clear hk); (try clear hi)) | (go_at_call 11; (with_reducible refine (path_Under.calls a2 a1 false _ A57.out).mono ?_); rintro e w68 ⟨rfl, hb⟩; have n0_ := Aside0.mk (below_step (by repeat (first | (with_reducible first | exact HB.out | apply below_alloc | apply pw_below_drewN | apply below_drew1) | exact HB.out)) hb); clear HB; have HB := n0_; clear n0_; (try clear hb); (try clear hb2); (try clear hk); (try clear hi)) | (go_at_call 9; (with_reducible refine (path_Compare.calls kj33 a2 a1 t175 _ A61.out).mono ?_); rintro e w69 ⟨rfl, hb⟩; have n0_ := Aside0.mk (below_step (by repeat (first | (with_reducible first | exact HB.out | apply below_alloc | apply pw_below_drewN | apply below_drew1) | exact HB.out)) hb); clear HB; have HB := n0_; clear n0_; (try clear hb); (try clear hb2); (try clear hk); (try clear hi)) | (go_at_call 9; (with_reducible refine (path_Compare.calls kj33 a2 a0 t176 _ A66.out).mono ?_); rintro e w70 ⟨rfl, hb⟩; have n0_ := Aside0.mk (below_step (by repeat (first | (with_reducible first | exact HB.out | apply below_alloc | apply pw_below_drewN | apply below_drew1) | exact HB.out)) hb); clear HB; have HB := n0_; clear n0_; (try clear hb); (try clear hb2); (try clear hk); (try clear hi)))
                              go_ret
                              exact ⟨by first | rfl | (simp [errW_none, errW_some] <;> rfl) | (simp [*, errW_none, errW_some] <;> rfl), by repeat (first | (with_reducible first | exact HB.out | apply below_alloc | apply pw_below_drewN | apply below_drew1) | exact HB.out)⟩
                        · replace c56 := Bool.eq_false_iff.mpr c56
                          subst c56
                          have H1 : (some true) = some r := by rw [if_neg (show ¬ (false = true) by decide)] at H; exact H
                          clear H
                          have H := H1
                          clear H1
                          obtain rfl := Option.some.inj H
                          go_wp2_with (first | (go_at_call 16; (with_reducible refine (satchellaw07_valid.calls a2 false _ A55.out).mono ?_); rintro e w71 ⟨rfl, hb⟩; have n0_ := Aside0.mk (below_step (by repeat (first | (with_reducible first | exact HB.out | apply below_alloc | apply pw_below_drewN | apply below_drew1) | exact HB.out)) hb); clear HB; have HB := n0_; clear n0_; (try clear hb); (try clear hb2); (try clear hk); (try clear hi)))
                          go_ret
                          exact ⟨by first | rfl | (simp [errW_none, errW_some] <;> rfl) | (simp [*, errW_none, errW_some] <;> rfl), by repeat (first | (with_reducible first | exact HB.out | apply below_alloc | apply pw_below_drewN | apply below_drew1) | exact HB.out)⟩
                      · replace c54 := Bool.eq_false_iff.mpr c54
                        subst c54
                        have H1 : (some false) = some r := by rw [if_neg (show ¬ (false = true) by decide)] at H; exact H
                        clear H
                        have H := H1
                        clear H1
                        obtain rfl := Option.some.inj H
                        go_wp2
                        go_ret
                        exact ⟨by first | rfl | (simp [errW_none, errW_some] <;> rfl) | (simp [*, errW_none, errW_some] <;> rfl), by repeat (first | (with_reducible first | exact HB.out | apply below_alloc | apply pw_below_drewN | apply below_drew1) | exact HB.out)⟩
              · replace c33 := Bool.eq_false_iff.mpr c33
                subst c33
                have H1 : (some t162) = some r := by rw [if_neg (show ¬ (false = true) by decide)] at H; exact H
                clear H
                have H := H1
                clear H1
                obtain rfl := Option.some.inj H
                go_wp2_with (first | ((with_reducible refine gate_callee (f := 11) rfl ?_); refine goesL_ (some 56) rfl rfl Try.func11 (by kernel_rfl) rfl #[.string a0, .string a1] rfl (by (try simp only [List.map_toArray, List.map_cons, List.map_nil]); first | done | rfl | (simp only [List.length_drop, List.length_take]; rfl)) ?_; (with_reducible refine (path_Under.calls a0 a1 false _ A32.out).mono ?_); rintro e w72 ⟨rfl, hb⟩; refine ⟨_, rfl, ?_⟩; have n0_ := Aside0.mk (below_step (by repeat (first | (with_reducible first | exact HB.out | apply below_alloc | apply pw_below_drewN | apply below_drew1) | exact HB.out)) hb); clear HB; have HB := n0_; clear n0_; (try clear hb); (try clear hb2); (try clear hk); (try clear hi)))
                go_ret
                exact ⟨by first | rfl | (simp [errW_none, errW_some] <;> rfl) | (simp [*, errW_none, errW_some] <;> rfl), by repeat (first | (with_reducible first | exact HB.out | apply below_alloc | apply pw_below_drewN | apply below_drew1) | exact HB.out)⟩

/-- THE ONE PURE STATEMENT of satchellaw07_PathUnder: yours. -/
def satchellaw07_PathUnder.Pure : Prop := ∀ (a0 : ByteArray) (a1 : ByteArray) (a2 : ByteArray), a0.size ≤ 140737488351232 → a1.size ≤ 140737488351232 → a2.size ≤ 140737488351232 → ∃ k, satchellaw07_PathUnder.f k a0 a1 a2 = some true
theorem satchellaw07_PathUnder.walk (P : satchellaw07_PathUnder.Pure) (a0 : ByteArray) (a1 : ByteArray) (a2 : ByteArray) (w : World) (w0 : a0.size ≤ 140737488351232) (w1 : a1.size ≤ 140737488351232) (w2 : a2.size ≤ 140737488351232) :
    Calls Try.prog 5 #[.string a0, .string a1, .string a2] w fun e w' => e = .returned (.bool true) ∧ Below w.heap.size w w' := by
  obtain ⟨k, h⟩ := P a0 a1 a2 w0 w1 w2
  refine (satchellaw07_PathUnder.calls k a0 a1 a2 true w h).mono ?_
  rintro e w' ⟨rfl, hd⟩
  exact ⟨rfl, hd⟩

/-! ### path_Base: function 19 -/
def path_Base.f (a0 : ByteArray) : Option (ByteArray) := (path_valid.f a0).bind fun t177 => (if t177 = true then ((strings_LastIndexByte.f a0 47).bind fun t178 => (if 0 ≤ (wrap64 (t178 + 1)) then (if (wrap64 (t178 + 1)) ≤ (a0.size : Int) then (some (a0.extract ((wrap64 (t178 + 1)) : Int).toNat a0.size)) else (none)) else (none))) else (some (⟨#[]⟩ : ByteArray)))
set_option maxHeartbeats 8000000 in
set_option maxRecDepth 100000 in
theorem path_Base.calls (a0 : ByteArray) (r : ByteArray) (w : World) (h : path_Base.f a0 = some r) :
    Calls Try.prog 19 #[.string a0] w fun e w' => e = .returned (.string r) ∧ Below w.heap.size w w' := by
  have HB := Aside0.mk (Below.refl w.heap.size w)
  have H : ((path_valid.f a0).bind fun t177 => (if t177 = true then ((strings_LastIndexByte.f a0 47).bind fun t178 => (if 0 ≤ (wrap64 (t178 + 1)) then (if (wrap64 (t178 + 1)) ≤ (a0.size : Int) then (some (a0.extract ((wrap64 (t178 + 1)) : Int).toNat a0.size)) else (none)) else (none))) else (some (⟨#[]⟩ : ByteArray)))) = some r := h
  clear h
  replace H := Option.bind_eq_some_iff.mp H
  obtain ⟨t177, A20, H⟩ := H
  replace H : (if t177 = true then ((strings_LastIndexByte.f a0 47).bind fun t178 => (if 0 ≤ (wrap64 (t178 + 1)) then (if (wrap64 (t178 + 1)) ≤ (a0.size : Int) then (some (a0.extract ((wrap64 (t178 + 1)) : Int).toNat a0.size)) else (none)) else (none))) else (some (⟨#[]⟩ : ByteArray))) = some r := H
  have A2 := Aside0.mk A20
  clear A20
  by_cases c3 : t177 = true
  · subst c3
    have H1 : ((strings_LastIndexByte.f a0 47).bind fun t178 => (if 0 ≤ (wrap64 (t178 + 1)) then (if (wrap64 (t178 + 1)) ≤ (a0.size : Int) then (some (a0.extract ((wrap64 (t178 + 1)) : Int).toNat a0.size)) else (none)) else (none))) = some r := by rw [if_pos rfl] at H; exact H
    clear H
    have H := H1
    clear H1
    replace H := Option.bind_eq_some_iff.mp H
    obtain ⟨t178, A40, H⟩ := H
    replace H : (if 0 ≤ (wrap64 (t178 + 1)) then (if (wrap64 (t178 + 1)) ≤ (a0.size : Int) then (some (a0.extract ((wrap64 (t178 + 1)) : Int).toNat a0.size)) else (none)) else (none)) = some r := H
    have A4 := Aside0.mk A40
    clear A40
    obtain ⟨ji5, hji5⟩ : ∃ j_ : Int, (wrap64 (t178 + 1)) = j_ := ⟨_, rfl⟩
    replace H : (if 0 ≤ (ji5) then (if (ji5) ≤ (a0.size : Int) then (some (a0.extract ((ji5) : Int).toNat a0.size)) else (none)) else (none)) = some r := by first | (rw [hji5] at H; exact H) | (simp only [hji5] at H ⊢; exact H)
    (try rw [hji5] at A2)
    (try rw [hji5] at A4)
    have hji5w : (IntKind.i64.wrap (t178 + 1)) = ji5 := (i64_w _).trans hji5
    by_cases c6 : 0 ≤ (ji5)
    · rw [if_pos c6] at H
      have c6b0 := eq_true c6
      have c6b1 : decide (0 ≤ (ji5)) = true := decide_eq_true c6
      clear c6
      by_cases c7 : (ji5) ≤ (a0.size : Int)
      · rw [if_pos c7] at H
        have c7b0 := eq_true c7
        have c7b1 : decide ((ji5) ≤ (a0.size : Int)) = true := decide_eq_true c7
        clear c7
        obtain rfl := Option.some.inj H
        go_enter Try.func19, Try.ntmps19
        go_wp2_with (first | ((with_reducible refine gate_callee (f := 21) rfl ?_); refine goesL_ (some 4) rfl rfl Try.func21 (by kernel_rfl) rfl #[.string a0] rfl (by (try simp only [List.map_toArray, List.map_cons, List.map_nil]); first | done | rfl | (simp only [List.length_drop, List.length_take]; rfl)) ?_; (with_reducible refine (path_valid.calls a0 true _ A2.out).mono ?_); rintro e w8 ⟨rfl, hb⟩; refine ⟨_, rfl, ?_⟩; have n0_ := Aside0.mk (below_step (by repeat (first | (with_reducible first | exact HB.out | apply below_alloc | apply pw_below_drewN | apply below_drew1) | exact HB.out)) hb); clear HB; have HB := n0_; clear n0_; (try clear hb); (try clear hb2); (try clear hk); (try clear hi)) | ((with_reducible refine gate_callee (f := 30) rfl ?_); refine goesL_ (some 8) rfl rfl Try.func30 (by kernel_rfl) rfl #[.string a0, .int .u8 47] rfl (by (try simp only [List.map_toArray, List.map_cons, List.map_nil]); first | done | rfl | (simp only [List.length_drop, List.length_take]; rfl)) ?_; (with_reducible refine (strings_LastIndexByte.calls a0 47 t178 _ A4.out).mono ?_); rintro e w9 ⟨rfl, hb⟩; refine ⟨_, rfl, ?_⟩; have n0_ := Aside0.mk (below_step (by repeat (first | (with_reducible first | exact HB.out | apply below_alloc | apply pw_below_drewN | apply below_drew1) | exact HB.out)) hb); clear HB; have HB := n0_; clear n0_; (try clear hb); (try clear hb2); (try clear hk); (try clear hi)))
        go_ret
        exact ⟨by first | rfl | (simp [errW_none, errW_some] <;> rfl) | (simp only [← hji5]; first | rfl | (simp [errW_none, errW_some] <;> rfl)) | (simp [*, errW_none, errW_some] <;> rfl), by repeat (first | (with_reducible first | exact HB.out | apply below_alloc | apply pw_below_drewN | apply below_drew1) | exact HB.out)⟩
      · rw [if_neg c7] at H
        exact absurd H (by simp)
    · rw [if_neg c6] at H
      exact absurd H (by simp)
  · replace c3 := Bool.eq_false_iff.mpr c3
    subst c3
    have H1 : (some (⟨#[]⟩ : ByteArray)) = some r := by rw [if_neg (show ¬ (false = true) by decide)] at H; exact H
    clear H
    have H := H1
    clear H1
    obtain rfl := Option.some.inj H
    go_enter Try.func19, Try.ntmps19
    go_wp2_with (first | ((with_reducible refine gate_callee (f := 21) rfl ?_); refine goesL_ (some 4) rfl rfl Try.func21 (by kernel_rfl) rfl #[.string a0] rfl (by (try simp only [List.map_toArray, List.map_cons, List.map_nil]); first | done | rfl | (simp only [List.length_drop, List.length_take]; rfl)) ?_; (with_reducible refine (path_valid.calls a0 false _ A2.out).mono ?_); rintro e w10 ⟨rfl, hb⟩; refine ⟨_, rfl, ?_⟩; have n0_ := Aside0.mk (below_step (by repeat (first | (with_reducible first | exact HB.out | apply below_alloc | apply pw_below_drewN | apply below_drew1) | exact HB.out)) hb); clear HB; have HB := n0_; clear n0_; (try clear hb); (try clear hb2); (try clear hk); (try clear hi)))
    go_ret
    exact ⟨by first | rfl | (simp [errW_none, errW_some] <;> rfl) | (simp [*, errW_none, errW_some] <;> rfl), by repeat (first | (with_reducible first | exact HB.out | apply below_alloc | apply pw_below_drewN | apply below_drew1) | exact HB.out)⟩

end Go.Proofs.Ytigldoicijfhoaa.XB
