-- Written by this claim's own program xprint.py (the kit's printer with contracts of this claim's own).
import Derived.Test.YtigldoicijfhoaaXB0
import Derived.Test.YtigldoicijfhoaaXB2
import Derived.Test.YtigldoicijfhoaaXB4
import Derived.Test.YtigldoicijfhoaaXB5
namespace Go.Proofs.Ytigldoicijfhoaa.XB
open Go.RowKit Go.Proofs.YtigldoicijfhoaaW.PrintWords Go.Proofs.YtigldoicijfhoaaW.PrintLast Go.Proofs.YtigldoicijfhoaaW.PrintMore
attribute [local go_sem] max2_int min2_int max_two min_two max_three min_three max_four min_four   -- for this text's walks alone
attribute [local go_sem] fldF0 fldF1
set_option linter.unusedVariables false
set_option linter.unusedSimpArgs false

/-! ### satchellaw07_PathKnown: function 6 -/
mutual
def satchellaw07_PathKnown.j0 : Nat → ByteArray → Bool → Bool → Int → Bool → Option (Bool)
  | 0, _, _, _, _, _ => none
  | k + 1, x1, x2, x4, x6, x7 => (path_Compare.f k (⟨#[97]⟩ : ByteArray) (⟨#[97, 47, 98]⟩ : ByteArray)).bind fun t191 => (if t191 = (-1) then ((path_Compare.f k (⟨#[97, 47, 98]⟩ : ByteArray) (⟨#[97, 47, 98]⟩ : ByteArray)).bind fun t192 => (if t192 = 0 then ((path_Compare.f k (⟨#[97, 32, 98]⟩ : ByteArray) (⟨#[97]⟩ : ByteArray)).bind fun t193 => (satchellaw07_PathKnown.j1 k x1 x2 x4 x6 x7 (t193 == (-1)))) else (satchellaw07_PathKnown.j1 k x1 x2 x4 x6 x7 false))) else (satchellaw07_PathKnown.j1 k x1 x2 x4 x6 x7 false))
def satchellaw07_PathKnown.j1 : Nat → ByteArray → Bool → Bool → Int → Bool → Bool → Option (Bool)
  | 0, _, _, _, _, _, _ => none
  | k + 1, x1, x2, x4, x6, x7, x8 => if x1.toList = ([97, 47, 98] : List UInt8) then (if x2 = true then (if x4 = true then ((satchellaw07_awake.f k).bind fun t194 => (if t194 = true then (if x7 = true then (if x8 = true then (some false) else (some false)) else (some false)) else (some false))) else ((path_Base.f (⟨#[97, 47, 98]⟩ : ByteArray)).bind fun t195 => (if t195.toList = ([98] : List UInt8) then ((satchellaw07_joins.f k (⟨#[]⟩ : ByteArray) (⟨#[98]⟩ : ByteArray) (⟨#[98]⟩ : ByteArray)).bind fun t196 => (if t196 = true then (if x6 = 2 then ((path_Under.f (⟨#[97]⟩ : ByteArray) (⟨#[97]⟩ : ByteArray)).bind fun t197 => (if t197 = true then ((satchellaw07_awake.f k).bind fun t198 => (if t198 = true then (if x7 = true then (if x8 = true then (some false) else (some false)) else (some false)) else (some false))) else ((path_Under.f (⟨#[97, 98]⟩ : ByteArray) (⟨#[97]⟩ : ByteArray)).bind fun t199 => ((satchellaw07_awake.f k).bind fun t200 => (if t200 = true then (if x7 = true then (if x8 = true then (some (!t199)) else (some false)) else (some false)) else (some false)))))) else ((satchellaw07_awake.f k).bind fun t201 => (if t201 = true then (if x7 = true then (if x8 = true then (some false) else (some false)) else (some false)) else (some false)))) else ((satchellaw07_awake.f k).bind fun t202 => (if t202 = true then (if x7 = true then (if x8 = true then (some false) else (some false)) else (some false)) else (some false))))) else ((satchellaw07_awake.f k).bind fun t203 => (if t203 = true then (if x7 = true then (if x8 = true then (some false) else (some false)) else (some false)) else (some false)))))) else ((satchellaw07_awake.f k).bind fun t204 => (if t204 = true then (if x7 = true then (if x8 = true then (some false) else (some false)) else (some false)) else (some false)))) else ((satchellaw07_awake.f k).bind fun t205 => (if t205 = true then (if x7 = true then (if x8 = true then (some false) else (some false)) else (some false)) else (some false)))
end
def satchellaw07_PathKnown.f (k : Nat)  : Option (Bool) := (path_Parent.f (⟨#[97, 47, 98, 47, 99]⟩ : ByteArray)).bind fun bt179 => ((path_Parent.f (⟨#[97]⟩ : ByteArray)).bind fun bt181 => ((path_Join.f k (⟨#[97]⟩ : ByteArray) (⟨#[98, 47, 99]⟩ : ByteArray)).bind fun bt183 => ((satchellaw07_fails.f (⟨#[]⟩ : ByteArray) 2 0).bind fun t185 => (if t185 = true then ((satchellaw07_fails.f (⟨#[97, 47]⟩ : ByteArray) 2 2).bind fun t186 => (if t186 = true then ((satchellaw07_fails.f (⟨#[97, 47, 46, 46, 47, 98]⟩ : ByteArray) 2 2).bind fun t187 => (if t187 = true then ((satchellaw07_fails.f (⟨#[97, 32, 98]⟩ : ByteArray) 4 1).bind fun t188 => (if t188 = true then ((strings_Repeat.f (⟨#[97]⟩ : ByteArray) 61).bind fun t189 => ((satchellaw07_fails.f t189 3 60).bind fun t190 => (satchellaw07_PathKnown.j0 k bt179.1 bt179.2 bt181.2 bt183.2 t190))) else (satchellaw07_PathKnown.j0 k bt179.1 bt179.2 bt181.2 bt183.2 false))) else (satchellaw07_PathKnown.j0 k bt179.1 bt179.2 bt181.2 bt183.2 false))) else (satchellaw07_PathKnown.j0 k bt179.1 bt179.2 bt181.2 bt183.2 false))) else (satchellaw07_PathKnown.j0 k bt179.1 bt179.2 bt181.2 bt183.2 false)))))
theorem satchellaw07_PathKnown.mono_l : ∀ k, (∀ y0 y1 y2 y3 y4, LeO (satchellaw07_PathKnown.j0 k y0 y1 y2 y3 y4) (satchellaw07_PathKnown.j0 (k + 1) y0 y1 y2 y3 y4)) ∧ (∀ y0 y1 y2 y3 y4 y5, LeO (satchellaw07_PathKnown.j1 k y0 y1 y2 y3 y4 y5) (satchellaw07_PathKnown.j1 (k + 1) y0 y1 y2 y3 y4 y5))
  | 0 => ⟨fun _ _ _ _ _ r h => by simp [satchellaw07_PathKnown.j0] at h, fun _ _ _ _ _ _ r h => by simp [satchellaw07_PathKnown.j1] at h⟩
  | k + 1 => by
    obtain ⟨ih0, ih1⟩ := satchellaw07_PathKnown.mono_l k
    refine ⟨?_, ?_⟩
    · intro y0 y1 y2 y3 y4
      unfold satchellaw07_PathKnown.j0
      repeat' first
      | (with_reducible exact ih0 _ _ _ _ _)
      | (with_reducible exact ih1 _ _ _ _ _ _)
      | (with_reducible exact path_Compare.mono _ _ _)
      | (with_reducible exact path_Join.mono _ _ _)
      | (with_reducible exact satchellaw07_awake.mono _)
      | (with_reducible exact satchellaw07_joins.mono _ _ _ _)
      | (with_reducible exact LeO.refl _)
      | (with_reducible exact LeO.none _)
      | (with_reducible refine LeO.ite ?_ ?_)
      | (with_reducible refine LeO.bind ?_ (fun _ => ?_))
      | exact ih0 _ _ _ _ _
      | exact ih1 _ _ _ _ _ _
      | exact path_Compare.mono _ _ _
      | exact path_Join.mono _ _ _
      | exact satchellaw07_awake.mono _
      | exact satchellaw07_joins.mono _ _ _ _
      | exact LeO.none _
      | refine LeO.ite ?_ ?_
      | refine LeO.bind ?_ (fun _ => ?_)
    · intro y0 y1 y2 y3 y4 y5
      unfold satchellaw07_PathKnown.j1
      repeat' first
      | (with_reducible exact ih0 _ _ _ _ _)
      | (with_reducible exact ih1 _ _ _ _ _ _)
      | (with_reducible exact path_Compare.mono _ _ _)
      | (with_reducible exact path_Join.mono _ _ _)
      | (with_reducible exact satchellaw07_awake.mono _)
      | (with_reducible exact satchellaw07_joins.mono _ _ _ _)
      | (with_reducible exact LeO.refl _)
      | (with_reducible exact LeO.none _)
      | (with_reducible refine LeO.ite ?_ ?_)
      | (with_reducible refine LeO.bind ?_ (fun _ => ?_))
      | exact ih0 _ _ _ _ _
      | exact ih1 _ _ _ _ _ _
      | exact path_Compare.mono _ _ _
      | exact path_Join.mono _ _ _
      | exact satchellaw07_awake.mono _
      | exact satchellaw07_joins.mono _ _ _ _
      | exact LeO.none _
      | refine LeO.ite ?_ ?_
      | refine LeO.bind ?_ (fun _ => ?_)
theorem satchellaw07_PathKnown.mono : ∀ k, LeO (satchellaw07_PathKnown.f k ) (satchellaw07_PathKnown.f (k + 1) ) := by
  intro  k
  obtain ⟨ih0, ih1⟩ := satchellaw07_PathKnown.mono_l k
  unfold satchellaw07_PathKnown.f
  repeat' first
      | (with_reducible exact ih0 _ _ _ _ _)
      | (with_reducible exact ih1 _ _ _ _ _ _)
      | (with_reducible exact path_Compare.mono _ _ _)
      | (with_reducible exact path_Join.mono _ _ _)
      | (with_reducible exact satchellaw07_awake.mono _)
      | (with_reducible exact satchellaw07_joins.mono _ _ _ _)
      | (with_reducible exact LeO.refl _)
      | (with_reducible exact LeO.none _)
      | (with_reducible refine LeO.ite ?_ ?_)
      | (with_reducible refine LeO.bind ?_ (fun _ => ?_))
      | exact ih0 _ _ _ _ _
      | exact ih1 _ _ _ _ _ _
      | exact path_Compare.mono _ _ _
      | exact path_Join.mono _ _ _
      | exact satchellaw07_awake.mono _
      | exact satchellaw07_joins.mono _ _ _ _
      | exact LeO.none _
      | refine LeO.ite ?_ ?_
      | refine LeO.bind ?_ (fun _ => ?_)
set_option maxHeartbeats 8000000 in
set_option maxRecDepth 100000 in
theorem satchellaw07_PathKnown.calls (k : Nat)  (r : Bool) (w : World) (h : satchellaw07_PathKnown.f k  = some r) :
    Calls Try.prog 6 #[] w fun e w' => e = .returned (.bool r) ∧ Below w.heap.size w w' := by
  have HB := Aside0.mk (Below.refl w.heap.size w)
  have H : ((path_Parent.f (⟨#[97, 47, 98, 47, 99]⟩ : ByteArray)).bind fun bt179 => ((path_Parent.f (⟨#[97]⟩ : ByteArray)).bind fun bt181 => ((path_Join.f k (⟨#[97]⟩ : ByteArray) (⟨#[98, 47, 99]⟩ : ByteArray)).bind fun bt183 => ((satchellaw07_fails.f (⟨#[]⟩ : ByteArray) 2 0).bind fun t185 => (if t185 = true then ((satchellaw07_fails.f (⟨#[97, 47]⟩ : ByteArray) 2 2).bind fun t186 => (if t186 = true then ((satchellaw07_fails.f (⟨#[97, 47, 46, 46, 47, 98]⟩ : ByteArray) 2 2).bind fun t187 => (if t187 = true then ((satchellaw07_fails.f (⟨#[97, 32, 98]⟩ : ByteArray) 4 1).bind fun t188 => (if t188 = true then ((strings_Repeat.f (⟨#[97]⟩ : ByteArray) 61).bind fun t189 => ((satchellaw07_fails.f t189 3 60).bind fun t190 => (satchellaw07_PathKnown.j0 k bt179.1 bt179.2 bt181.2 bt183.2 t190))) else (satchellaw07_PathKnown.j0 k bt179.1 bt179.2 bt181.2 bt183.2 false))) else (satchellaw07_PathKnown.j0 k bt179.1 bt179.2 bt181.2 bt183.2 false))) else (satchellaw07_PathKnown.j0 k bt179.1 bt179.2 bt181.2 bt183.2 false))) else (satchellaw07_PathKnown.j0 k bt179.1 bt179.2 bt181.2 bt183.2 false)))))) = some r := h
  clear h
  replace H := Option.bind_eq_some_iff.mp H
  obtain ⟨⟨t179, t180⟩, A10, H⟩ := H
  replace H : ((path_Parent.f (⟨#[97]⟩ : ByteArray)).bind fun bt181 => ((path_Join.f k (⟨#[97]⟩ : ByteArray) (⟨#[98, 47, 99]⟩ : ByteArray)).bind fun bt183 => ((satchellaw07_fails.f (⟨#[]⟩ : ByteArray) 2 0).bind fun t185 => (if t185 = true then ((satchellaw07_fails.f (⟨#[97, 47]⟩ : ByteArray) 2 2).bind fun t186 => (if t186 = true then ((satchellaw07_fails.f (⟨#[97, 47, 46, 46, 47, 98]⟩ : ByteArray) 2 2).bind fun t187 => (if t187 = true then ((satchellaw07_fails.f (⟨#[97, 32, 98]⟩ : ByteArray) 4 1).bind fun t188 => (if t188 = true then ((strings_Repeat.f (⟨#[97]⟩ : ByteArray) 61).bind fun t189 => ((satchellaw07_fails.f t189 3 60).bind fun t190 => (satchellaw07_PathKnown.j0 k t179 t180 bt181.2 bt183.2 t190))) else (satchellaw07_PathKnown.j0 k t179 t180 bt181.2 bt183.2 false))) else (satchellaw07_PathKnown.j0 k t179 t180 bt181.2 bt183.2 false))) else (satchellaw07_PathKnown.j0 k t179 t180 bt181.2 bt183.2 false))) else (satchellaw07_PathKnown.j0 k t179 t180 bt181.2 bt183.2 false))))) = some r := H
  have A1 := Aside0.mk A10
  clear A10
  replace H := Option.bind_eq_some_iff.mp H
  obtain ⟨⟨t181, t182⟩, A20, H⟩ := H
  replace H : ((path_Join.f k (⟨#[97]⟩ : ByteArray) (⟨#[98, 47, 99]⟩ : ByteArray)).bind fun bt183 => ((satchellaw07_fails.f (⟨#[]⟩ : ByteArray) 2 0).bind fun t185 => (if t185 = true then ((satchellaw07_fails.f (⟨#[97, 47]⟩ : ByteArray) 2 2).bind fun t186 => (if t186 = true then ((satchellaw07_fails.f (⟨#[97, 47, 46, 46, 47, 98]⟩ : ByteArray) 2 2).bind fun t187 => (if t187 = true then ((satchellaw07_fails.f (⟨#[97, 32, 98]⟩ : ByteArray) 4 1).bind fun t188 => (if t188 = true then ((strings_Repeat.f (⟨#[97]⟩ : ByteArray) 61).bind fun t189 => ((satchellaw07_fails.f t189 3 60).bind fun t190 => (satchellaw07_PathKnown.j0 k t179 t180 t182 bt183.2 t190))) else (satchellaw07_PathKnown.j0 k t179 t180 t182 bt183.2 false))) else (satchellaw07_PathKnown.j0 k t179 t180 t182 bt183.2 false))) else (satchellaw07_PathKnown.j0 k t179 t180 t182 bt183.2 false))) else (satchellaw07_PathKnown.j0 k t179 t180 t182 bt183.2 false)))) = some r := H
  have A2 := Aside0.mk A20
  clear A20
  replace H := Option.bind_eq_some_iff.mp H
  obtain ⟨⟨t183, t184⟩, A30, H⟩ := H
  replace H : ((satchellaw07_fails.f (⟨#[]⟩ : ByteArray) 2 0).bind fun t185 => (if t185 = true then ((satchellaw07_fails.f (⟨#[97, 47]⟩ : ByteArray) 2 2).bind fun t186 => (if t186 = true then ((satchellaw07_fails.f (⟨#[97, 47, 46, 46, 47, 98]⟩ : ByteArray) 2 2).bind fun t187 => (if t187 = true then ((satchellaw07_fails.f (⟨#[97, 32, 98]⟩ : ByteArray) 4 1).bind fun t188 => (if t188 = true then ((strings_Repeat.f (⟨#[97]⟩ : ByteArray) 61).bind fun t189 => ((satchellaw07_fails.f t189 3 60).bind fun t190 => (satchellaw07_PathKnown.j0 k t179 t180 t182 t184 t190))) else (satchellaw07_PathKnown.j0 k t179 t180 t182 t184 false))) else (satchellaw07_PathKnown.j0 k t179 t180 t182 t184 false))) else (satchellaw07_PathKnown.j0 k t179 t180 t182 t184 false))) else (satchellaw07_PathKnown.j0 k t179 t180 t182 t184 false))) = some r := H
  have A3 := Aside0.mk A30
  clear A30
  have HC4 := Aside0.mk H
  clear H
  go_enter Try.func6, Try.ntmps6
  go_upto_region 4 with (first | ((with_reducible refine gate_callee (f := 15) rfl ?_); refine goesL_ (some 11) rfl rfl Try.func15 (by kernel_rfl) rfl #[.string (⟨#[97, 47, 98, 47, 99]⟩ : ByteArray)] rfl (by (try simp only [List.map_toArray, List.map_cons, List.map_nil]); first | done | rfl | (simp only [List.length_drop, List.length_take]; rfl)) ?_; (with_reducible refine (path_Parent.calls (⟨#[97, 47, 98, 47, 99]⟩ : ByteArray) t179 t180 _ A1.out).mono ?_); rintro e w5 ⟨rfl, hb⟩; refine ⟨_, rfl, ?_⟩; have n0_ := Aside0.mk (below_step (by repeat (first | (with_reducible first | exact HB.out | apply below_alloc | apply pw_below_drewN | apply below_drew1) | exact HB.out)) hb); clear HB; have HB := n0_; clear n0_; (try clear hb); (try clear hb2); (try clear hk); (try clear hi)) | ((with_reducible refine gate_callee (f := 15) rfl ?_); refine goesL_ (some 15) rfl rfl Try.func15 (by kernel_rfl) rfl #[.string (⟨#[97]⟩ : ByteArray)] rfl (by (try simp only [List.map_toArray, List.map_cons, List.map_nil]); first | done | rfl | (simp only [List.length_drop, List.length_take]; rfl)) ?_; (with_reducible refine (path_Parent.calls (⟨#[97]⟩ : ByteArray) t181 t182 _ A2.out).mono ?_); rintro e w6 ⟨rfl, hb⟩; refine ⟨_, rfl, ?_⟩; have n0_ := Aside0.mk (below_step (by repeat (first | (with_reducible first | exact HB.out | apply below_alloc | apply pw_below_drewN | apply below_drew1) | exact HB.out)) hb); clear HB; have HB := n0_; clear n0_; (try clear hb); (try clear hb2); (try clear hk); (try clear hi)) | ((with_reducible refine gate_callee (f := 13) rfl ?_); refine goesL_ (some 19) rfl rfl Try.func13 (by kernel_rfl) rfl #[.string (⟨#[97]⟩ : ByteArray), .string (⟨#[98, 47, 99]⟩ : ByteArray)] rfl (by (try simp only [List.map_toArray, List.map_cons, List.map_nil]); first | done | rfl | (simp only [List.length_drop, List.length_take]; rfl)) ?_; (with_reducible refine (path_Join.calls k (⟨#[97]⟩ : ByteArray) (⟨#[98, 47, 99]⟩ : ByteArray) t183 t184 _ A3.out).mono ?_); rintro e w7 ⟨rfl, hb⟩; refine ⟨_, rfl, ?_⟩; have n0_ := Aside0.mk (below_step (by repeat (first | (with_reducible first | exact HB.out | apply below_alloc | apply pw_below_drewN | apply below_drew1) | exact HB.out)) hb); clear HB; have HB := n0_; clear n0_; (try clear hb); (try clear hb2); (try clear hk); (try clear hi)))
  (try simp only [Act.put, List.setIfInBounds_toArray, List.set_cons_zero, List.set_cons_succ])
  go_cut [7] (fun v7 wc => ∃ (kq : Nat) (x7_3 : Bool), v7 = .bool x7_3 ∧ Aside0 (satchellaw07_PathKnown.j0 kq t179 t180 t182 t184 x7_3 = some r) ∧ Aside0 (kq ≤ k) ∧ Aside0 (Below w.heap.size w wc))
  case first =>
    have H := HC4.out
    clear HC4
    replace H := Option.bind_eq_some_iff.mp H
    obtain ⟨t185, A80, H⟩ := H
    replace H : (if t185 = true then ((satchellaw07_fails.f (⟨#[97, 47]⟩ : ByteArray) 2 2).bind fun t186 => (if t186 = true then ((satchellaw07_fails.f (⟨#[97, 47, 46, 46, 47, 98]⟩ : ByteArray) 2 2).bind fun t187 => (if t187 = true then ((satchellaw07_fails.f (⟨#[97, 32, 98]⟩ : ByteArray) 4 1).bind fun t188 => (if t188 = true then ((strings_Repeat.f (⟨#[97]⟩ : ByteArray) 61).bind fun t189 => ((satchellaw07_fails.f t189 3 60).bind fun t190 => (satchellaw07_PathKnown.j0 k t179 t180 t182 t184 t190))) else (satchellaw07_PathKnown.j0 k t179 t180 t182 t184 false))) else (satchellaw07_PathKnown.j0 k t179 t180 t182 t184 false))) else (satchellaw07_PathKnown.j0 k t179 t180 t182 t184 false))) else (satchellaw07_PathKnown.j0 k t179 t180 t182 t184 false)) = some r := H
    have A8 := Aside0.mk A80
    clear A80
    by_cases c9 : t185 = true
    · subst c9
      have H1 : ((satchellaw07_fails.f (⟨#[97, 47]⟩ : ByteArray) 2 2).bind fun t186 => (if t186 = true then ((satchellaw07_fails.f (⟨#[97, 47, 46, 46, 47, 98]⟩ : ByteArray) 2 2).bind fun t187 => (if t187 = true then ((satchellaw07_fails.f (⟨#[97, 32, 98]⟩ : ByteArray) 4 1).bind fun t188 => (if t188 = true then ((strings_Repeat.f (⟨#[97]⟩ : ByteArray) 61).bind fun t189 => ((satchellaw07_fails.f t189 3 60).bind fun t190 => (satchellaw07_PathKnown.j0 k t179 t180 t182 t184 t190))) else (satchellaw07_PathKnown.j0 k t179 t180 t182 t184 false))) else (satchellaw07_PathKnown.j0 k t179 t180 t182 t184 false))) else (satchellaw07_PathKnown.j0 k t179 t180 t182 t184 false))) = some r := by rw [if_pos rfl] at H; exact H
      clear H
      have H := H1
      clear H1
      replace H := Option.bind_eq_some_iff.mp H
      obtain ⟨t186, A100, H⟩ := H
      replace H : (if t186 = true then ((satchellaw07_fails.f (⟨#[97, 47, 46, 46, 47, 98]⟩ : ByteArray) 2 2).bind fun t187 => (if t187 = true then ((satchellaw07_fails.f (⟨#[97, 32, 98]⟩ : ByteArray) 4 1).bind fun t188 => (if t188 = true then ((strings_Repeat.f (⟨#[97]⟩ : ByteArray) 61).bind fun t189 => ((satchellaw07_fails.f t189 3 60).bind fun t190 => (satchellaw07_PathKnown.j0 k t179 t180 t182 t184 t190))) else (satchellaw07_PathKnown.j0 k t179 t180 t182 t184 false))) else (satchellaw07_PathKnown.j0 k t179 t180 t182 t184 false))) else (satchellaw07_PathKnown.j0 k t179 t180 t182 t184 false)) = some r := H
      have A10 := Aside0.mk A100
      clear A100
      by_cases c11 : t186 = true
      · subst c11
        have H1 : ((satchellaw07_fails.f (⟨#[97, 47, 46, 46, 47, 98]⟩ : ByteArray) 2 2).bind fun t187 => (if t187 = true then ((satchellaw07_fails.f (⟨#[97, 32, 98]⟩ : ByteArray) 4 1).bind fun t188 => (if t188 = true then ((strings_Repeat.f (⟨#[97]⟩ : ByteArray) 61).bind fun t189 => ((satchellaw07_fails.f t189 3 60).bind fun t190 => (satchellaw07_PathKnown.j0 k t179 t180 t182 t184 t190))) else (satchellaw07_PathKnown.j0 k t179 t180 t182 t184 false))) else (satchellaw07_PathKnown.j0 k t179 t180 t182 t184 false))) = some r := by rw [if_pos rfl] at H; exact H
        clear H
        have H := H1
        clear H1
        replace H := Option.bind_eq_some_iff.mp H
        obtain ⟨t187, A120, H⟩ := H
        replace H : (if t187 = true then ((satchellaw07_fails.f (⟨#[97, 32, 98]⟩ : ByteArray) 4 1).bind fun t188 => (if t188 = true then ((strings_Repeat.f (⟨#[97]⟩ : ByteArray) 61).bind fun t189 => ((satchellaw07_fails.f t189 3 60).bind fun t190 => (satchellaw07_PathKnown.j0 k t179 t180 t182 t184 t190))) else (satchellaw07_PathKnown.j0 k t179 t180 t182 t184 false))) else (satchellaw07_PathKnown.j0 k t179 t180 t182 t184 false)) = some r := H
        have A12 := Aside0.mk A120
        clear A120
        by_cases c13 : t187 = true
        · subst c13
          have H1 : ((satchellaw07_fails.f (⟨#[97, 32, 98]⟩ : ByteArray) 4 1).bind fun t188 => (if t188 = true then ((strings_Repeat.f (⟨#[97]⟩ : ByteArray) 61).bind fun t189 => ((satchellaw07_fails.f t189 3 60).bind fun t190 => (satchellaw07_PathKnown.j0 k t179 t180 t182 t184 t190))) else (satchellaw07_PathKnown.j0 k t179 t180 t182 t184 false))) = some r := by rw [if_pos rfl] at H; exact H
          clear H
          have H := H1
          clear H1
          replace H := Option.bind_eq_some_iff.mp H
          obtain ⟨t188, A140, H⟩ := H
          replace H : (if t188 = true then ((strings_Repeat.f (⟨#[97]⟩ : ByteArray) 61).bind fun t189 => ((satchellaw07_fails.f t189 3 60).bind fun t190 => (satchellaw07_PathKnown.j0 k t179 t180 t182 t184 t190))) else (satchellaw07_PathKnown.j0 k t179 t180 t182 t184 false)) = some r := H
          have A14 := Aside0.mk A140
          clear A140
          by_cases c15 : t188 = true
          · subst c15
            have H1 : ((strings_Repeat.f (⟨#[97]⟩ : ByteArray) 61).bind fun t189 => ((satchellaw07_fails.f t189 3 60).bind fun t190 => (satchellaw07_PathKnown.j0 k t179 t180 t182 t184 t190))) = some r := by rw [if_pos rfl] at H; exact H
            clear H
            have H := H1
            clear H1
            replace H := Option.bind_eq_some_iff.mp H
            obtain ⟨t189, A160, H⟩ := H
            replace H : ((satchellaw07_fails.f t189 3 60).bind fun t190 => (satchellaw07_PathKnown.j0 k t179 t180 t182 t184 t190)) = some r := H
            have A16 := Aside0.mk A160
            clear A160
            replace H := Option.bind_eq_some_iff.mp H
            obtain ⟨t190, A170, H⟩ := H
            replace H : (satchellaw07_PathKnown.j0 k t179 t180 t182 t184 t190) = some r := H
            have A17 := Aside0.mk A170
            clear A170
            have H' := Aside0.mk H
            clear H
            go_wp2_with (first | ((with_reducible refine gate_callee (f := 17) rfl ?_); refine goesL_ (some 22) rfl rfl Try.func17 (by kernel_rfl) rfl #[.string (⟨#[]⟩ : ByteArray), .int .i64 2, .int .i64 0] rfl (by (try simp only [List.map_toArray, List.map_cons, List.map_nil]); first | done | rfl | (simp only [List.length_drop, List.length_take]; rfl)) ?_; (with_reducible refine (satchellaw07_fails.calls (⟨#[]⟩ : ByteArray) 2 0 true _ A8.out).mono ?_); rintro e w18 ⟨rfl, hb⟩; refine ⟨_, rfl, ?_⟩; have n0_ := Aside0.mk (below_step (by repeat (first | (with_reducible first | exact HB.out | apply below_alloc | apply pw_below_drewN | apply below_drew1) | exact HB.out)) hb); clear HB; have HB := n0_; clear n0_; (try clear hb); (try clear hb2); (try clear hk); (try clear hi)) | (go_at_call 17; (with_reducible refine (satchellaw07_fails.calls (⟨#[97, 47]⟩ : ByteArray) 2 2 true _ A10.out).mono ?_); rintro e w19 ⟨rfl, hb⟩; have n0_ := Aside0.mk (below_step (by repeat (first | (with_reducible first | exact HB.out | apply below_alloc | apply pw_below_drewN | apply below_drew1) | exact HB.out)) hb); clear HB; have HB := n0_; clear n0_; (try clear hb); (try clear hb2); (try clear hk); (try clear hi)) | (go_at_call 17; (with_reducible refine (satchellaw07_fails.calls (⟨#[97, 47, 46, 46, 47, 98]⟩ : ByteArray) 2 2 true _ A12.out).mono ?_); rintro e w20 ⟨rfl, hb⟩; have n0_ := Aside0.mk (below_step (by repeat (first | (with_reducible first | exact HB.out | apply below_alloc | apply pw_below_drewN | apply below_drew1) | exact HB.out)) hb); clear HB; have HB := n0_; clear n0_; (try clear hb); (try clear hb2); (try clear hk); (try clear hi)) | (go_at_call 17; (with_reducible refine (satchellaw07_fails.calls (⟨#[97, 32, 98]⟩ : ByteArray) 4 1 true _ A14.out).mono ?_); rintro e w21 ⟨rfl, hb⟩; have n0_ := Aside0.mk (below_step (by repeat (first | (with_reducible first | exact HB.out | apply below_alloc | apply pw_below_drewN | apply below_drew1) | exact HB.out)) hb); clear HB; have HB := n0_; clear n0_; (try clear hb); (try clear hb2); (try clear hk); (try clear hi)) | (go_at_call 18; (with_reducible refine (strings_Repeat.calls (⟨#[97]⟩ : ByteArray) 61 t189 _ A16.out).mono ?_); rintro e w22 ⟨rfl, hb⟩; have n0_ := Aside0.mk (below_step (by repeat (first | (with_reducible first | exact HB.out | apply below_alloc | apply pw_below_drewN | apply below_drew1) | exact HB.out)) hb); clear HB; have HB := n0_; clear n0_; (try clear hb); (try clear hb2); (try clear hk); (try clear hi)) | (go_at_call 17; (with_reducible refine (satchellaw07_fails.calls t189 3 60 t190 _ A17.out).mono ?_); rintro e w23 ⟨rfl, hb⟩; have n0_ := Aside0.mk (below_step (by repeat (first | (with_reducible first | exact HB.out | apply below_alloc | apply pw_below_drewN | apply below_drew1) | exact HB.out)) hb); clear HB; have HB := n0_; clear n0_; (try clear hb); (try clear hb2); (try clear hk); (try clear hi)))
            go_meet
            case rel => exact ⟨_, (t190), (by first | rfl | (simp; done) | (simp [*]; done)), H', ⟨by first | omega | exact Nat.le_refl _⟩, ⟨by repeat (first | (with_reducible first | exact HB.out | apply below_alloc | apply pw_below_drewN | apply below_drew1) | exact HB.out)⟩⟩
          · replace c15 := Bool.eq_false_iff.mpr c15
            subst c15
            have H1 : (satchellaw07_PathKnown.j0 k t179 t180 t182 t184 false) = some r := by rw [if_neg (show ¬ (false = true) by decide)] at H; exact H
            clear H
            have H := H1
            clear H1
            have H' := Aside0.mk H
            clear H
            go_wp2_with (first | ((with_reducible refine gate_callee (f := 17) rfl ?_); refine goesL_ (some 22) rfl rfl Try.func17 (by kernel_rfl) rfl #[.string (⟨#[]⟩ : ByteArray), .int .i64 2, .int .i64 0] rfl (by (try simp only [List.map_toArray, List.map_cons, List.map_nil]); first | done | rfl | (simp only [List.length_drop, List.length_take]; rfl)) ?_; (with_reducible refine (satchellaw07_fails.calls (⟨#[]⟩ : ByteArray) 2 0 true _ A8.out).mono ?_); rintro e w24 ⟨rfl, hb⟩; refine ⟨_, rfl, ?_⟩; have n0_ := Aside0.mk (below_step (by repeat (first | (with_reducible first | exact HB.out | apply below_alloc | apply pw_below_drewN | apply below_drew1) | exact HB.out)) hb); clear HB; have HB := n0_; clear n0_; (try clear hb); (try clear hb2); (try clear hk); (try clear hi)) | (go_at_call 17; (with_reducible refine (satchellaw07_fails.calls (⟨#[97, 47]⟩ : ByteArray) 2 2 true _ A10.out).mono ?_); rintro e w25 ⟨rfl, hb⟩; have n0_ := Aside0.mk (below_step (by repeat (first | (with_reducible first | exact HB.out | apply below_alloc | apply pw_below_drewN | apply below_drew1) | exact HB.out)) hb); clear HB; have HB := n0_; clear n0_; (try clear hb); (try clear hb2); (try clear hk); (try clear hi)) | (go_at_call 17; (with_reducible refine (satchellaw07_fails.calls (⟨#[97, 47, 46, 46, 47, 98]⟩ : ByteArray) 2 2 true _ A12.out).mono ?_); rintro e w26 ⟨rfl, hb⟩; have n0_ := Aside0.mk (below_step (by repeat (first | (with_reducible first | exact HB.out | apply below_alloc | apply pw_below_drewN | apply below_drew1) | exact HB.out)) hb); clear HB; have HB := n0_; clear n0_; (try clear hb); (try clear hb2); (try clear hk); (try clear hi)) | (go_at_call 17; (with_reducible refine (satchellaw07_fails.calls (⟨#[97, 32, 98]⟩ : ByteArray) 4 1 false _ A14.out).mono ?_); rintro e w27 ⟨rfl, hb⟩; have n0_ := Aside0.mk (below_step (by repeat (first | (with_reducible first | exact HB.out | apply below_alloc | apply pw_below_drewN | apply below_drew1) | exact HB.out)) hb); clear HB; have HB := n0_; clear n0_; (try clear hb); (try clear hb2); (try clear hk); (try clear hi)))
            go_meet
            case rel => exact ⟨_, (false), (by first | rfl | (simp; done) | (simp [*]; done)), H', ⟨by first | omega | exact Nat.le_refl _⟩, ⟨by repeat (first | (with_reducible first | exact HB.out | apply below_alloc | apply pw_below_drewN | apply below_drew1) | exact HB.out)⟩⟩
        · replace c13 := Bool.eq_false_iff.mpr c13
          subst c13
          have H1 : (satchellaw07_PathKnown.j0 k t179 t180 t182 t184 false) = some r := by rw [if_neg (show ¬ (false = true) by decide)] at H; exact H
          clear H
          have H := H1
          clear H1
          have H' := Aside0.mk H
          clear H
          go_wp2_with (first | ((with_reducible refine gate_callee (f := 17) rfl ?_); refine goesL_ (some 22) rfl rfl Try.func17 (by kernel_rfl) rfl #[.string (⟨#[]⟩ : ByteArray), .int .i64 2, .int .i64 0] rfl (by (try simp only [List.map_toArray, List.map_cons, List.map_nil]); first | done | rfl | (simp only [List.length_drop, List.length_take]; rfl)) ?_; (with_reducible refine (satchellaw07_fails.calls (⟨#[]⟩ : ByteArray) 2 0 true _ A8.out).mono ?_); rintro e w28 ⟨rfl, hb⟩; refine ⟨_, rfl, ?_⟩; have n0_ := Aside0.mk (below_step (by repeat (first | (with_reducible first | exact HB.out | apply below_alloc | apply pw_below_drewN | apply below_drew1) | exact HB.out)) hb); clear HB; have HB := n0_; clear n0_; (try clear hb); (try clear hb2); (try clear hk); (try clear hi)) | (go_at_call 17; (with_reducible refine (satchellaw07_fails.calls (⟨#[97, 47]⟩ : ByteArray) 2 2 true _ A10.out).mono ?_); rintro e w29 ⟨rfl, hb⟩; have n0_ := Aside0.mk (below_step (by repeat (first | (with_reducible first | exact HB.out | apply below_alloc | apply pw_below_drewN | apply below_drew1) | exact HB.out)) hb); clear HB; have HB := n0_; clear n0_; (try clear hb); (try clear hb2); (try clear hk); (try clear hi)) | (go_at_call 17; (with_reducible refine (satchellaw07_fails.calls (⟨#[97, 47, 46, 46, 47, 98]⟩ : ByteArray) 2 2 false _ A12.out).mono ?_); rintro e w30 ⟨rfl, hb⟩; have n0_ := Aside0.mk (below_step (by repeat (first | (with_reducible first | exact HB.out | apply below_alloc | apply pw_below_drewN | apply below_drew1) | exact HB.out)) hb); clear HB; have HB := n0_; clear n0_; (try clear hb); (try clear hb2); (try clear hk); (try clear hi)))
          go_meet
          case rel => exact ⟨_, (false), (by first | rfl | (simp; done) | (simp [*]; done)), H', ⟨by first | omega | exact Nat.le_refl _⟩, ⟨by repeat (first | (with_reducible first | exact HB.out | apply below_alloc | apply pw_below_drewN | apply below_drew1) | exact HB.out)⟩⟩
      · replace c11 := Bool.eq_false_iff.mpr c11
        subst c11
        have H1 : (satchellaw07_PathKnown.j0 k t179 t180 t182 t184 false) = some r := by rw [if_neg (show ¬ (false = true) by decide)] at H; exact H
        clear H
        have H := H1
        clear H1
        have H' := Aside0.mk H
        clear H
        go_wp2_with (first | ((with_reducible refine gate_callee (f := 17) rfl ?_); refine goesL_ (some 22) rfl rfl Try.func17 (by kernel_rfl) rfl #[.string (⟨#[]⟩ : ByteArray), .int .i64 2, .int .i64 0] rfl (by (try simp only [List.map_toArray, List.map_cons, List.map_nil]); first | done | rfl | (simp only [List.length_drop, List.length_take]; rfl)) ?_; (with_reducible refine (satchellaw07_fails.calls (⟨#[]⟩ : ByteArray) 2 0 true _ A8.out).mono ?_); rintro e w31 ⟨rfl, hb⟩; refine ⟨_, rfl, ?_⟩; have n0_ := Aside0.mk (below_step (by repeat (first | (with_reducible first | exact HB.out | apply below_alloc | apply pw_below_drewN | apply below_drew1) | exact HB.out)) hb); clear HB; have HB := n0_; clear n0_; (try clear hb); (try clear hb2); (try clear hk); (try clear hi)) | (go_at_call 17; (with_reducible refine (satchellaw07_fails.calls (⟨#[97, 47]⟩ : ByteArray) 2 2 false _ A10.out).mono ?_); rintro e w32 ⟨rfl, hb⟩; have n0_ := Aside0.mk (below_step (by repeat (first | (with_reducible first | exact HB.out | apply below_alloc | apply pw_below_drewN | apply below_drew1) | exact HB.out)) hb); clear HB; have HB := n0_; clear n0_; (try clear hb); (try clear hb2); (try clear hk); (try clear hi)))
        go_meet
        case rel => exact ⟨_, (false), (by first | rfl | (simp; done) | (simp [*]; done)), H', ⟨by first | omega | exact Nat.le_refl _⟩, ⟨by repeat (first | (with_reducible first | exact HB.out | apply below_alloc | apply pw_below_drewN | apply below_drew1) | exact HB.out)⟩⟩
    · replace c9 := Bool.eq_false_iff.mpr c9
      subst c9
      have H1 : (satchellaw07_PathKnown.j0 k t179 t180 t182 t184 false) = some r := by rw [if_neg (show ¬ (false = true) by decide)] at H; exact H
      clear H
      have H := H1
      clear H1
      have H' := Aside0.mk H
      clear H
      go_wp2_with (first | ((with_reducible refine gate_callee (f := 17) rfl ?_); refine goesL_ (some 22) rfl rfl Try.func17 (by kernel_rfl) rfl #[.string (⟨#[]⟩ : ByteArray), .int .i64 2, .int .i64 0] rfl (by (try simp only [List.map_toArray, List.map_cons, List.map_nil]); first | done | rfl | (simp only [List.length_drop, List.length_take]; rfl)) ?_; (with_reducible refine (satchellaw07_fails.calls (⟨#[]⟩ : ByteArray) 2 0 false _ A8.out).mono ?_); rintro e w33 ⟨rfl, hb⟩; refine ⟨_, rfl, ?_⟩; have n0_ := Aside0.mk (below_step (by repeat (first | (with_reducible first | exact HB.out | apply below_alloc | apply pw_below_drewN | apply below_drew1) | exact HB.out)) hb); clear HB; have HB := n0_; clear n0_; (try clear hb); (try clear hb2); (try clear hk); (try clear hi)))
      go_meet
      case rel => exact ⟨_, (false), (by first | rfl | (simp; done) | (simp [*]; done)), H', ⟨by first | omega | exact Nat.le_refl _⟩, ⟨by repeat (first | (with_reducible first | exact HB.out | apply below_alloc | apply pw_below_drewN | apply below_drew1) | exact HB.out)⟩⟩
  case rest =>
    clear HC4
    try clear c1
    try clear p2
    try clear c6
    try clear c9
    try clear c11
    try clear c13
    try clear c15
    try clear c17
    obtain ⟨kq, x7_3, rfl, HA, HJ3, HB⟩ := hcut
    cases kq with
    | zero => exact absurd HA.out (by simp [satchellaw07_PathKnown.j0])
    | succ kj3 =>
      have H := HA.out
      clear HA
      simp only [satchellaw07_PathKnown.j0] at H
      have HC34 := Aside0.mk H
      clear H
      go_upto_region 5 with (fail)
      go_cut [8] (fun v8 wc => ∃ (kq : Nat) (x8_33 : Bool), v8 = .bool x8_33 ∧ Aside0 (satchellaw07_PathKnown.j1 kq t179 t180 t182 t184 x7_3 x8_33 = some r) ∧ Aside0 (kq ≤ kj3) ∧ Aside0 (Below w.heap.size w wc))
      case first =>
        have H := HC34.out
        clear HC34
        replace H := Option.bind_eq_some_iff.mp H
        obtain ⟨t191, A350, H⟩ := H
        replace H : (if t191 = (-1) then ((path_Compare.f kj3 (⟨#[97, 47, 98]⟩ : ByteArray) (⟨#[97, 47, 98]⟩ : ByteArray)).bind fun t192 => (if t192 = 0 then ((path_Compare.f kj3 (⟨#[97, 32, 98]⟩ : ByteArray) (⟨#[97]⟩ : ByteArray)).bind fun t193 => (satchellaw07_PathKnown.j1 kj3 t179 t180 t182 t184 x7_3 (t193 == (-1)))) else (satchellaw07_PathKnown.j1 kj3 t179 t180 t182 t184 x7_3 false))) else (satchellaw07_PathKnown.j1 kj3 t179 t180 t182 t184 x7_3 false)) = some r := H
        have A35 := Aside0.mk A350
        clear A350
        by_cases c36 : t191 = (-1)
        · rw [if_pos c36] at H
          have c36b0 : (t191 == (-1)) = true := beq_iff_eq.mpr c36
          have c36b1 : (t191 != (-1)) = false := bne_eq_false_iff_eq.mpr c36
          clear c36
          (first | rw [c36b0] | (simp only [i64_w, i32_w]; rw [c36b0]) | skip)
          replace H := Option.bind_eq_some_iff.mp H
          obtain ⟨t192, A370, H⟩ := H
          replace H : (if t192 = 0 then ((path_Compare.f kj3 (⟨#[97, 32, 98]⟩ : ByteArray) (⟨#[97]⟩ : ByteArray)).bind fun t193 => (satchellaw07_PathKnown.j1 kj3 t179 t180 t182 t184 x7_3 (t193 == (-1)))) else (satchellaw07_PathKnown.j1 kj3 t179 t180 t182 t184 x7_3 false)) = some r := H
          have A37 := Aside0.mk A370
          clear A370
          by_cases c38 : t192 = 0
          · rw [if_pos c38] at H
            have c38b0 : (t192 == 0) = true := beq_iff_eq.mpr c38
            have c38b1 : (t192 != 0) = false := bne_eq_false_iff_eq.mpr c38
            clear c38
            replace H := Option.bind_eq_some_iff.mp H
            obtain ⟨t193, A390, H⟩ := H
            replace H : (satchellaw07_PathKnown.j1 kj3 t179 t180 t182 t184 x7_3 (t193 == (-1))) = some r := H
            have A39 := Aside0.mk A390
            clear A390
            have H' := Aside0.mk H
            clear H
            go_wp2_with (first | ((with_reducible refine gate_callee (f := 9) rfl ?_); refine goesL_ (some 36) rfl rfl Try.func9 (by kernel_rfl) rfl #[.string (⟨#[97]⟩ : ByteArray), .string (⟨#[97, 47, 98]⟩ : ByteArray)] rfl (by (try simp only [List.map_toArray, List.map_cons, List.map_nil]); first | done | rfl | (simp only [List.length_drop, List.length_take]; rfl)) ?_; (with_reducible refine (path_Compare.calls kj3 (⟨#[97]⟩ : ByteArray) (⟨#[97, 47, 98]⟩ : ByteArray) t191 _ A35.out).mono ?_); rintro e w40 ⟨rfl, hb⟩; refine ⟨_, rfl, ?_⟩; have n0_ := Aside0.mk (below_step (by repeat (first | (with_reducible first | exact HB.out | apply below_alloc | apply pw_below_drewN | apply below_drew1) | exact HB.out)) hb); clear HB; have HB := n0_; clear n0_; (try clear hb); (try clear hb2); (try clear hk); (try clear hi)) | (go_at_call 9; (with_reducible refine (path_Compare.calls kj3 (⟨#[97, 47, 98]⟩ : ByteArray) (⟨#[97, 47, 98]⟩ : ByteArray) t192 _ A37.out).mono ?_); rintro e w41 ⟨rfl, hb⟩; have n0_ := Aside0.mk (below_step (by repeat (first | (with_reducible first | exact HB.out | apply below_alloc | apply pw_below_drewN | apply below_drew1) | exact HB.out)) hb); clear HB; have HB := n0_; clear n0_; (try clear hb); (try clear hb2); (try clear hk); (try clear hi)) | (go_at_call 9; (with_reducible refine (path_Compare.calls kj3 (⟨#[97, 32, 98]⟩ : ByteArray) (⟨#[97]⟩ : ByteArray) t193 _ A39.out).mono ?_); rintro e w42 ⟨rfl, hb⟩; have n0_ := Aside0.mk (below_step (by repeat (first | (with_reducible first | exact HB.out | apply below_alloc | apply pw_below_drewN | apply below_drew1) | exact HB.out)) hb); clear HB; have HB := n0_; clear n0_; (try clear hb); (try clear hb2); (try clear hk); (try clear hi)))
            go_meet
            case rel => exact ⟨_, ((t193 == (-1))), (by first | rfl | (simp; done) | (simp [*]; done)), H', ⟨by have := HJ3.out; first | omega | exact Nat.le_refl _⟩, ⟨by repeat (first | (with_reducible first | exact HB.out | apply below_alloc | apply pw_below_drewN | apply below_drew1) | exact HB.out)⟩⟩
          · rw [if_neg c38] at H
            have c38b0 : (t192 == 0) = false := beq_eq_false_iff_ne.mpr c38
            have c38b1 : (t192 != 0) = true := bne_iff_ne.mpr c38
            have H' := Aside0.mk H
            clear H
            go_wp2_with (first | ((with_reducible refine gate_callee (f := 9) rfl ?_); refine goesL_ (some 36) rfl rfl Try.func9 (by kernel_rfl) rfl #[.string (⟨#[97]⟩ : ByteArray), .string (⟨#[97, 47, 98]⟩ : ByteArray)] rfl (by (try simp only [List.map_toArray, List.map_cons, List.map_nil]); first | done | rfl | (simp only [List.length_drop, List.length_take]; rfl)) ?_; (with_reducible refine (path_Compare.calls kj3 (⟨#[97]⟩ : ByteArray) (⟨#[97, 47, 98]⟩ : ByteArray) t191 _ A35.out).mono ?_); rintro e w43 ⟨rfl, hb⟩; refine ⟨_, rfl, ?_⟩; have n0_ := Aside0.mk (below_step (by repeat (first | (with_reducible first | exact HB.out | apply below_alloc | apply pw_below_drewN | apply below_drew1) | exact HB.out)) hb); clear HB; have HB := n0_; clear n0_; (try clear hb); (try clear hb2); (try clear hk); (try clear hi)) | (go_at_call 9; (with_reducible refine (path_Compare.calls kj3 (⟨#[97, 47, 98]⟩ : ByteArray) (⟨#[97, 47, 98]⟩ : ByteArray) t192 _ A37.out).mono ?_); rintro e w44 ⟨rfl, hb⟩; have n0_ := Aside0.mk (below_step (by repeat (first | (with_reducible first | exact HB.out | apply below_alloc | apply pw_below_drewN | apply below_drew1) | exact HB.out)) hb); clear HB; have HB := n0_; clear n0_; (try clear hb); (try clear hb2); (try clear hk); (try clear hi)))
            go_meet
            case rel => exact ⟨_, (false), (by first | rfl | (simp; done) | (simp [*]; done)), H', ⟨by have := HJ3.out; first | omega | exact Nat.le_refl _⟩, ⟨by repeat (first | (with_reducible first | exact HB.out | apply below_alloc | apply pw_below_drewN | apply below_drew1) | exact HB.out)⟩⟩
        · rw [if_neg c36] at H
          have c36b0 : (t191 == (-1)) = false := beq_eq_false_iff_ne.mpr c36
          have c36b1 : (t191 != (-1)) = true := bne_iff_ne.mpr c36
          (first | rw [c36b0] | (simp only [i64_w, i32_w]; rw [c36b0]) | skip)
          have H' := Aside0.mk H
          clear H
          go_wp2_with (first | ((with_reducible refine gate_callee (f := 9) rfl ?_); refine goesL_ (some 36) rfl rfl Try.func9 (by kernel_rfl) rfl #[.string (⟨#[97]⟩ : ByteArray), .string (⟨#[97, 47, 98]⟩ : ByteArray)] rfl (by (try simp only [List.map_toArray, List.map_cons, List.map_nil]); first | done | rfl | (simp only [List.length_drop, List.length_take]; rfl)) ?_; (with_reducible refine (path_Compare.calls kj3 (⟨#[97]⟩ : ByteArray) (⟨#[97, 47, 98]⟩ : ByteArray) t191 _ A35.out).mono ?_); rintro e w45 ⟨rfl, hb⟩; refine ⟨_, rfl, ?_⟩; have n0_ := Aside0.mk (below_step (by repeat (first | (with_reducible first | exact HB.out | apply below_alloc | apply pw_below_drewN | apply below_drew1) | exact HB.out)) hb); clear HB; have HB := n0_; clear n0_; (try clear hb); (try clear hb2); (try clear hk); (try clear hi)))
          go_meet
          case rel => exact ⟨_, (false), (by first | rfl | (simp; done) | (simp [*]; done)), H', ⟨by have := HJ3.out; first | omega | exact Nat.le_refl _⟩, ⟨by repeat (first | (with_reducible first | exact HB.out | apply below_alloc | apply pw_below_drewN | apply below_drew1) | exact HB.out)⟩⟩
      case rest =>
        clear HC34
        try clear c1
        try clear p2
        try clear c3
        try clear c6
        try clear c9
        try clear c11
        try clear c13
        try clear c15
        try clear c17
        try clear c36
        try clear c36b0
        try clear c36b1
        try clear c38
        try clear c38b0
        try clear c38b1
        try clear p2
        obtain ⟨kq, x8_33, rfl, HA, HJ33, HB⟩ := hcut
        cases kq with
        | zero => exact absurd HA.out (by simp [satchellaw07_PathKnown.j1])
        | succ kj33 =>
          have H := HA.out
          clear HA
          simp only [satchellaw07_PathKnown.j1] at H
          by_cases c46 : t179.toList = ([97, 47, 98] : List UInt8)
          · rw [if_pos c46] at H
            have c46b0 : (t179.toList == ([97, 47, 98] : List UInt8)) = true := beq_iff_eq.mpr c46
            have c46b1 : (t179.toList != ([97, 47, 98] : List UInt8)) = false := bne_eq_false_iff_eq.mpr c46
            clear c46
            by_cases c47 : t180 = true
            · subst c47
              have H1 : (if t182 = true then ((satchellaw07_awake.f kj33).bind fun t194 => (if t194 = true then (if x7_3 = true then (if x8_33 = true then (some false) else (some false)) else (some false)) else (some false))) else ((path_Base.f (⟨#[97, 47, 98]⟩ : ByteArray)).bind fun t195 => (if t195.toList = ([98] : List UInt8) then ((satchellaw07_joins.f kj33 (⟨#[]⟩ : ByteArray) (⟨#[98]⟩ : ByteArray) (⟨#[98]⟩ : ByteArray)).bind fun t196 => (if t196 = true then (if t184 = 2 then ((path_Under.f (⟨#[97]⟩ : ByteArray) (⟨#[97]⟩ : ByteArray)).bind fun t197 => (if t197 = true then ((satchellaw07_awake.f kj33).bind fun t198 => (if t198 = true then (if x7_3 = true then (if x8_33 = true then (some false) else (some false)) else (some false)) else (some false))) else ((path_Under.f (⟨#[97, 98]⟩ : ByteArray) (⟨#[97]⟩ : ByteArray)).bind fun t199 => ((satchellaw07_awake.f kj33).bind fun t200 => (if t200 = true then (if x7_3 = true then (if x8_33 = true then (some (!t199)) else (some false)) else (some false)) else (some false)))))) else ((satchellaw07_awake.f kj33).bind fun t201 => (if t201 = true then (if x7_3 = true then (if x8_33 = true then (some false) else (some false)) else (some false)) else (some false)))) else ((satchellaw07_awake.f kj33).bind fun t202 => (if t202 = true then (if x7_3 = true then (if x8_33 = true then (some false) else (some false)) else (some false)) else (some false))))) else ((satchellaw07_awake.f kj33).bind fun t203 => (if t203 = true then (if x7_3 = true then (if x8_33 = true then (some false) else (some false)) else (some false)) else (some false)))))) = some r := by rw [if_pos rfl] at H; exact H
              clear H
              have H := H1
              clear H1
              by_cases c48 : t182 = true
              · subst c48
                have H1 : ((satchellaw07_awake.f kj33).bind fun t194 => (if t194 = true then (if x7_3 = true then (if x8_33 = true then (some false) else (some false)) else (some false)) else (some false))) = some r := by rw [if_pos rfl] at H; exact H
                clear H
                have H := H1
                clear H1
                replace H := Option.bind_eq_some_iff.mp H
                obtain ⟨t194, A490, H⟩ := H
                replace H : (if t194 = true then (if x7_3 = true then (if x8_33 = true then (some false) else (some false)) else (some false)) else (some false)) = some r := H
                have A49 := Aside0.mk A490
                clear A490
                by_cases c50 : t194 = true
                · subst c50
                  have H1 : (if x7_3 = true then (if x8_33 = true then (some false) else (some false)) else (some false)) = some r := by rw [if_pos rfl] at H; exact H
                  clear H
                  have H := H1
                  clear H1
                  by_cases c51 : x7_3 = true
                  · subst c51
                    have H1 : (if x8_33 = true then (some false) else (some false)) = some r := by rw [if_pos rfl] at H; exact H
                    clear H
                    have H := H1
                    clear H1
                    by_cases c52 : x8_33 = true
                    · subst c52
                      have H1 : (some false) = some r := by rw [if_pos rfl] at H; exact H
                      clear H
                      have H := H1
                      clear H1
                      obtain rfl := Option.some.inj H
                      go_wp2_with (first | ((with_reducible refine gate_callee (f := 8) rfl ?_); refine goesL_ (some 74) rfl rfl Try.func8 (by kernel_rfl) rfl #[] rfl (by (try simp only [List.map_toArray, List.map_cons, List.map_nil]); first | done | rfl | (simp only [List.length_drop, List.length_take]; rfl)) ?_; (with_reducible refine (satchellaw07_awake.calls kj33  true _ A49.out).mono ?_); rintro e w53 ⟨rfl, hb⟩; refine ⟨_, rfl, ?_⟩; have n0_ := Aside0.mk (below_step (by repeat (first | (with_reducible first | exact HB.out | apply below_alloc | apply pw_below_drewN | apply below_drew1) | exact HB.out)) hb); clear HB; have HB := n0_; clear n0_; (try clear hb); (try clear hb2); (try clear hk); (try clear hi)))
                      go_ret
                      exact ⟨by first | rfl | (simp [errW_none, errW_some] <;> rfl) | (simp [*, errW_none, errW_some] <;> rfl), by repeat (first | (with_reducible first | exact HB.out | apply below_alloc | apply pw_below_drewN | apply below_drew1) | exact HB.out)⟩
                    · replace c52 := Bool.eq_false_iff.mpr c52
                      subst c52
                      have H1 : (some false) = some r := by rw [if_neg (show ¬ (false = true) by decide)] at H; exact H
                      clear H
                      have H := H1
                      clear H1
                      obtain rfl := Option.some.inj H
                      go_wp2_with (first | ((with_reducible refine gate_callee (f := 8) rfl ?_); refine goesL_ (some 74) rfl rfl Try.func8 (by kernel_rfl) rfl #[] rfl (by (try simp only [List.map_toArray, List.map_cons, List.map_nil]); first | done | rfl | (simp only [List.length_drop, List.length_take]; rfl)) ?_; (with_reducible refine (satchellaw07_awake.calls kj33  true _ A49.out).mono ?_); rintro e w54 ⟨rfl, hb⟩; refine ⟨_, rfl, ?_⟩; have n0_ := Aside0.mk (below_step (by repeat (first | (with_reducible first | exact HB.out | apply below_alloc | apply pw_below_drewN | apply below_drew1) | exact HB.out)) hb); clear HB; have HB := n0_; clear n0_; (try clear hb); (try clear hb2); (try clear hk); (try clear hi)))
                      go_ret
                      exact ⟨by first | rfl | (simp [errW_none, errW_some] <;> rfl) | (simp [*, errW_none, errW_some] <;> rfl), by repeat (first | (with_reducible first | exact HB.out | apply below_alloc | apply pw_below_drewN | apply below_drew1) | exact HB.out)⟩
                  · replace c51 := Bool.eq_false_iff.mpr c51
                    subst c51
                    have H1 : (some false) = some r := by rw [if_neg (show ¬ (false = true) by decide)] at H; exact H
                    clear H
                    have H := H1
                    clear H1
                    obtain rfl := Option.some.inj H
                    go_wp2_with (first | ((with_reducible refine gate_callee (f := 8) rfl ?_); refine goesL_ (some 74) rfl rfl Try.func8 (by kernel_rfl) rfl #[] rfl (by (try simp only [List.map_toArray, List.map_cons, List.map_nil]); first | done | rfl | (simp only [List.length_drop, List.length_take]; rfl)) ?_; (with_reducible refine (satchellaw07_awake.calls kj33  true _ A49.out).mono ?_); rintro e w55 ⟨rfl, hb⟩; refine ⟨_, rfl, ?_⟩; have n0_ := Aside0.mk (below_step (by repeat (first | (with_reducible first | exact HB.out | apply below_alloc | apply pw_below_drewN | apply below_drew1) | exact HB.out)) hb); clear HB; have HB := n0_; clear n0_; (try clear hb); (try clear hb2); (try clear hk); (try clear hi)))
                    go_ret
                    exact ⟨by first | rfl | (simp [errW_none, errW_some] <;> rfl) | (simp [*, errW_none, errW_some] <;> rfl), by repeat (first | (with_reducible first | exact HB.out | apply below_alloc | apply pw_below_drewN | apply below_drew1) | exact HB.out)⟩
                · replace c50 := Bool.eq_false_iff.mpr c50
                  subst c50
                  have H1 : (some false) = some r := by rw [if_neg (show ¬ (false = true) by decide)] at H; exact H
                  clear H
                  have H := H1
                  clear H1
                  obtain rfl := Option.some.inj H
                  go_wp2_with (first | ((with_reducible refine gate_callee (f := 8) rfl ?_); refine goesL_ (some 74) rfl rfl Try.func8 (by kernel_rfl) rfl #[] rfl (by (try simp only [List.map_toArray, List.map_cons, List.map_nil]); first | done | rfl | (simp only [List.length_drop, List.length_take]; rfl)) ?_; (with_reducible refine (satchellaw07_awake.calls kj33  false _ A49.out).mono ?_); rintro e w56 ⟨rfl, hb⟩; refine ⟨_, rfl, ?_⟩; have n0_ := Aside0.mk (below_step (by repeat (first | (with_reducible first | exact HB.out | apply below_alloc | apply pw_below_drewN | apply below_drew1) | exact HB.out)) hb); clear HB; have HB := n0_; clear n0_; (try clear hb); (try clear hb2); (try clear hk); (try clear hi)))
                  go_ret
                  exact ⟨by first | rfl | (simp [errW_none, errW_some] <;> rfl) | (simp [*, errW_none, errW_some] <;> rfl), by repeat (first | (with_reducible first | exact HB.out | apply below_alloc | apply pw_below_drewN | apply below_drew1) | exact HB.out)⟩
              · replace c48 := Bool.eq_false_iff.mpr c48
                subst c48
                have H1 : ((path_Base.f (⟨#[97, 47, 98]⟩ : ByteArray)).bind fun t195 => (if t195.toList = ([98] : List UInt8) then ((satchellaw07_joins.f kj33 (⟨#[]⟩ : ByteArray) (⟨#[98]⟩ : ByteArray) (⟨#[98]⟩ : ByteArray)).bind fun t196 => (if t196 = true then (if t184 = 2 then ((path_Under.f (⟨#[97]⟩ : ByteArray) (⟨#[97]⟩ : ByteArray)).bind fun t197 => (if t197 = true then ((satchellaw07_awake.f kj33).bind fun t198 => (if t198 = true then (if x7_3 = true then (if x8_33 = true then (some false) else (some false)) else (some false)) else (some false))) else ((path_Under.f (⟨#[97, 98]⟩ : ByteArray) (⟨#[97]⟩ : ByteArray)).bind fun t199 => ((satchellaw07_awake.f kj33).bind fun t200 => (if t200 = true then (if x7_3 = true then (if x8_33 = true then (some (!t199)) else (some false)) else (some false)) else (some false)))))) else ((satchellaw07_awake.f kj33).bind fun t201 => (if t201 = true then (if x7_3 = true then (if x8_33 = true then (some false) else (some false)) else (some false)) else (some false)))) else ((satchellaw07_awake.f kj33).bind fun t202 => (if t202 = true then (if x7_3 = true then (if x8_33 = true then (some false) else (some false)) else (some false)) else (some false))))) else ((satchellaw07_awake.f kj33).bind fun t203 => (if t203 = true then (if x7_3 = true then (if x8_33 = true then (some false) else (some false)) else (some false)) else (some false))))) = some r := by rw [if_neg (show ¬ (false = true) by decide)] at H; exact H
                clear H
                have H := H1
                clear H1
                replace H := Option.bind_eq_some_iff.mp H
                obtain ⟨t195, A570, H⟩ := H
                replace H : (if t195.toList = ([98] : List UInt8) then ((satchellaw07_joins.f kj33 (⟨#[]⟩ : ByteArray) (⟨#[98]⟩ : ByteArray) (⟨#[98]⟩ : ByteArray)).bind fun t196 => (if t196 = true then (if t184 = 2 then ((path_Under.f (⟨#[97]⟩ : ByteArray) (⟨#[97]⟩ : ByteArray)).bind fun t197 => (if t197 = true then ((satchellaw07_awake.f kj33).bind fun t198 => (if t198 = true then (if x7_3 = true then (if x8_33 = true then (some false) else (some false)) else (some false)) else (some false))) else ((path_Under.f (⟨#[97, 98]⟩ : ByteArray) (⟨#[97]⟩ : ByteArray)).bind fun t199 => ((satchellaw07_awake.f kj33).bind fun t200 => (if t200 = true then (if x7_3 = true then (if x8_33 = true then (some (!t199)) else (some false)) else (some false)) else (some false)))))) else ((satchellaw07_awake.f kj33).bind fun t201 => (if t201 = true then (if x7_3 = true then (if x8_33 = true then (some false) else (some false)) else (some false)) else (some false)))) else ((satchellaw07_awake.f kj33).bind fun t202 => (if t202 = true then (if x7_3 = true then (if x8_33 = true then (some false) else (some false)) else (some false)) else (some false))))) else ((satchellaw07_awake.f kj33).bind fun t203 => (if t203 = true then (if x7_3 = true then (if x8_33 = true then (some false) else (some false)) else (some false)) else (some false)))) = some r := H
                have A57 := Aside0.mk A570
                clear A570
                by_cases c58 : t195.toList = ([98] : List UInt8)
                · rw [if_pos c58] at H
                  have c58b0 : (t195.toList == ([98] : List UInt8)) = true := beq_iff_eq.mpr c58
                  have c58b1 : (t195.toList != ([98] : List UInt8)) = false := bne_eq_false_iff_eq.mpr c58
                  clear c58
                  replace H := Option.bind_eq_some_iff.mp H
                  obtain ⟨t196, A590, H⟩ := H
                  replace H : (if t196 = true then (if t184 = 2 then ((path_Under.f (⟨#[97]⟩ : ByteArray) (⟨#[97]⟩ : ByteArray)).bind fun t197 => (if t197 = true then ((satchellaw07_awake.f kj33).bind fun t198 => (if t198 = true then (if x7_3 = true then (if x8_33 = true then (some false) else (some false)) else (some false)) else (some false))) else ((path_Under.f (⟨#[97, 98]⟩ : ByteArray) (⟨#[97]⟩ : ByteArray)).bind fun t199 => ((satchellaw07_awake.f kj33).bind fun t200 => (if t200 = true then (if x7_3 = true then (if x8_33 = true then (some (!t199)) else (some false)) else (some false)) else (some false)))))) else ((satchellaw07_awake.f kj33).bind fun t201 => (if t201 = true then (if x7_3 = true then (if x8_33 = true then (some false) else (some false)) else (some false)) else (some false)))) else ((satchellaw07_awake.f kj33).bind fun t202 => (if t202 = true then (if x7_3 = true then (if x8_33 = true then (some false) else (some false)) else (some false)) else (some false)))) = some r := H
                  have A59 := Aside0.mk A590
                  clear A590
                  by_cases c60 : t196 = true
                  · subst c60
                    have H1 : (if t184 = 2 then ((path_Under.f (⟨#[97]⟩ : ByteArray) (⟨#[97]⟩ : ByteArray)).bind fun t197 => (if t197 = true then ((satchellaw07_awake.f kj33).bind fun t198 => (if t198 = true then (if x7_3 = true then (if x8_33 = true then (some false) else (some false)) else (some false)) else (some false))) else ((path_Under.f (⟨#[97, 98]⟩ : ByteArray) (⟨#[97]⟩ : ByteArray)).bind fun t199 => ((satchellaw07_awake.f kj33).bind fun t200 => (if t200 = true then (if x7_3 = true then (if x8_33 = true then (some (!t199)) else (some false)) else (some false)) else (some false)))))) else ((satchellaw07_awake.f kj33).bind fun t201 => (if t201 = true then (if x7_3 = true then (if x8_33 = true then (some false) else (some false)) else (some false)) else (some false)))) = some r := by rw [if_pos rfl] at H; exact H
                    clear H
                    have H := H1
                    clear H1
                    by_cases c61 : t184 = 2
                    · rw [if_pos c61] at H
                      have c61b0 : (t184 == 2) = true := beq_iff_eq.mpr c61
                      have c61b1 : (t184 != 2) = false := bne_eq_false_iff_eq.mpr c61
                      clear c61
                      replace H := Option.bind_eq_some_iff.mp H
                      obtain ⟨t197, A620, H⟩ := H
                      replace H : (if t197 = true then ((satchellaw07_awake.f kj33).bind fun t198 => (if t198 = true then (if x7_3 = true then (if x8_33 = true then (some false) else (some false)) else (some false)) else (some false))) else ((path_Under.f (⟨#[97, 98]⟩ : ByteArray) (⟨#[97]⟩ : ByteArray)).bind fun t199 => ((satchellaw07_awake.f kj33).bind fun t200 => (if t200 = true then (if x7_3 = true then (if x8_33 = true then (some (!t199)) else (some false)) else (some false)) else (some false))))) = some r := H
                      have A62 := Aside0.mk A620
                      clear A620
                      by_cases c63 : t197 = true
                      · subst c63
                        have H1 : ((satchellaw07_awake.f kj33).bind fun t198 => (if t198 = true then (if x7_3 = true then (if x8_33 = true then (some false) else (some false)) else (some false)) else (some false))) = some r := by rw [if_pos rfl] at H; exact H
                        clear H
                        have H := H1
                        clear H1
                        replace H := Option.bind_eq_some_iff.mp H
                        obtain ⟨t198, A640, H⟩ := H
                        replace H : (if t198 = true then (if x7_3 = true then (if x8_33 = true then (some false) else (some false)) else (some false)) else (some false)) = some r := H
                        have A64 := Aside0.mk A640
                        clear A640
                        by_cases c65 : t198 = true
                        · subst c65
                          have H1 : (if x7_3 = true then (if x8_33 = true then (some false) else (some false)) else (some false)) = some r := by rw [if_pos rfl] at H; exact H
                          clear H
                          have H := H1
                          clear H1
                          by_cases c66 : x7_3 = true
                          · subst c66
                            have H1 : (if x8_33 = true then (some false) else (some false)) = some r := by rw [if_pos rfl] at H; exact H
                            clear H
                            have H := H1
                            clear H1
                            by_cases c67 : x8_33 = true
                            · subst c67
                              have H1 : (some false) = some r := by rw [if_pos rfl] at H; exact H
                              clear H
                              have H := H1
                              clear H1
                              obtain rfl := Option.some.inj H
                              go_wp2_with (first | (go_at_call 19; (with_reducible refine (path_Base.calls (⟨#[97, 47, 98]⟩ : ByteArray) t195 _ A57.out).mono ?_); rintro e w68 ⟨rfl, hb⟩; have n0_ := Aside0.mk (below_step (by repeat (first | (with_reducible first | exact HB.out | apply below_alloc | apply pw_below_drewN | apply below_drew1) | exact HB.out)) hb); clear HB; have HB := n0_; clear n0_; (try clear hb); (try clear hb2); (try clear hk); (try clear hi)) | (go_at_call 20; (with_reducible refine (satchellaw07_joins.calls kj33 (⟨#[]⟩ : ByteArray) (⟨#[98]⟩ : ByteArray) (⟨#[98]⟩ : ByteArray) true _ A59.out).mono ?_); rintro e w69 ⟨rfl, hb⟩; have n0_ := Aside0.mk (below_step (by repeat (first | (with_reducible first | exact HB.out | apply below_alloc | apply pw_below_drewN | apply below_drew1) | exact HB.out)) hb); clear HB; have HB := n0_; clear n0_; (try clear hb); (try clear hb2); (try clear hk); (try clear hi)) | (go_at_call 11; (with_reducible refine (path_Under.calls (⟨#[97]⟩ : ByteArray) (⟨#[97]⟩ : ByteArray) true _ A62.out).mono ?_); rintro e w70 ⟨rfl, hb⟩; have n0_ := Aside0.mk (below_step (by repeat (first | (with_reducible first | exact HB.out | apply below_alloc | apply pw_below_drewN | apply below_drew1) | exact HB.out)) hb); clear HB; have HB := n0_; clear n0_; (try clear hb); (try clear hb2); (try clear hk); (try clear hi)) | ((with_reducible refine gate_callee (f := 8) rfl ?_); refine goesL_ (some 74) rfl rfl Try.func8 (by kernel_rfl) rfl #[] rfl (by (try simp only [List.map_toArray, List.map_cons, List.map_nil]); first | done | rfl | (simp only [List.length_drop, List.length_take]; rfl)) ?_; (with_reducible refine (satchellaw07_awake.calls kj33  true _ A64.out).mono ?_); rintro e w71 ⟨rfl, hb⟩; refine ⟨_, rfl, ?_⟩; have n0_ := Aside0.mk (below_step (by repeat (first | (with_reducible first | exact HB.out | apply below_alloc | apply pw_below_drewN | apply below_drew1) | exact HB.out)) hb); clear HB; have HB := n0_; clear n0_; (try clear hb); (try clear hb2); (try clear hk); (try clear hi)))
                              go_ret
                              exact ⟨by first | rfl | (simp [errW_none, errW_some] <;> rfl) | (simp [*, errW_none, errW_some] <;> rfl), by repeat (first | (with_reducible first | exact HB.out | apply below_alloc | apply pw_below_drewN | apply below_drew1) | exact HB.out)⟩
                            · replace c67 := Bool.eq_false_iff.mpr c67
                              subst c67
                              have H1 : (some false) = some r := by rw [if_neg (show ¬ (false = true) by decide)] at H; exact H
                              clear H
                              have H := H1
                              clear H1
                              obtain rfl := Option.some.inj H
                              go_wp2_with (first | (go_at_call 19; (with_reducible refine (path_Base.calls (⟨#[97, 47, 98]⟩ : ByteArray) t195 _ A57.out).mono ?_); rintro e w72 ⟨rfl, hb⟩; have n0_ := Aside0.mk (below_step (by repeat (first | (with_reducible first | exact HB.out | apply below_alloc | apply pw_below_drewN | apply below_drew1) | exact HB.out)) hb); clear HB; have HB := n0_; clear n0_; (try clear hb); (try clear hb2); (try clear hk); (try clear hi)) | (go_at_call 20; (with_reducible refine (satchellaw07_joins.calls kj33 (⟨#[]⟩ : ByteArray) (⟨#[98]⟩ : ByteArray) (⟨#[98]⟩ : ByteArray) true _ A59.out).mono ?_); rintro e w73 ⟨rfl, hb⟩; have n0_ := Aside0.mk (below_step (by repeat (first | (with_reducible first | exact HB.out | apply below_alloc | apply pw_below_drewN | apply below_drew1) | exact HB.out)) hb); clear HB; have HB := n0_; clear n0_; (try clear hb); (try clear hb2); (try clear hk); (try clear hi)) | (go_at_call 11; (with_reducible refine (path_Under.calls (⟨#[97]⟩ : ByteArray) (⟨#[97]⟩ : ByteArray) true _ A62.out).mono ?_); rintro e w74 ⟨rfl, hb⟩; have n0_ := Aside0.mk (below_step (by repeat (first | (with_reducible first | exact HB.out | apply below_alloc | apply pw_below_drewN | apply below_drew1) | exact HB.out)) hb); clear HB; have HB := n0_; clear n0_; (try clear hb); (try clear hb2); (try clear hk); (try clear hi)) | ((with_reducible refine gate_callee (f := 8) rfl ?_); refine goesL_ (some 74) rfl rfl Try.func8 (by kernel_rfl) rfl #[] rfl (by (try simp only [List.map_toArray, List.map_cons, List.map_nil]); first | done | rfl | (simp only [List.length_drop, List.length_take]; rfl)) ?_; (with_reducible refine (satchellaw07_awake.calls kj33  true _ A64.out).mono ?_); rintro e w75 ⟨rfl, hb⟩; refine ⟨_, rfl, ?_⟩; have n0_ := Aside0.mk (below_step (by repeat (first | (with_reducible first | exact HB.out | apply below_alloc | apply pw_below_drewN | apply below_drew1) | exact HB.out)) hb); clear HB; have HB := n0_; clear n0_; (try clear hb); (try clear hb2); (try clear hk); (try clear hi)))
                              go_ret
                              exact ⟨by first | rfl | (simp [errW_none, errW_some] <;> rfl) | (simp [*, errW_none, errW_some] <;> rfl), by repeat (first | (with_reducible first | exact HB.out | apply below_alloc | apply pw_below_drewN | apply below_drew1) | exact HB.out)⟩
                          · replace c66 := Bool.eq_false_iff.mpr c66
                            subst c66
                            have H1 : (some false) = some r := by rw [if_neg (show ¬ (false = true) by decide)] at H; exact H
                            clear H
                            have H := H1
                            clear H1
                            obtain rfl := Option.some.inj H
                            go_wp2_with (first | (go_at_call 19; (with_reducible refine (path_Base.calls (⟨#[97, 47, 98]⟩ : ByteArray) t195 _ A57.out).mono ?_); rintro e w76 ⟨rfl, hb⟩; have n0_ := Aside0.mk (below_step (by repeat (first | (with_reducible first | exact HB.out | apply below_alloc | apply pw_below_drewN | apply below_drew1) | exact HB.out)) hb); clear HB; have HB := n0_; clear n0_; (try clear hb); (try clear hb2); (try clear hk); (try clear hi)) | (go_at_call 20; (with_reducible refine (satchellaw07_joins.calls kj33 (⟨#[]⟩ : ByteArray) (⟨#[98]⟩ : ByteArray) (⟨#[98]⟩ : ByteArray) true _ A59.out).mono ?_); rintro e w77 ⟨rfl, hb⟩; have n0_ := Aside0.mk (below_step (by repeat (first | (with_reducible first | exact HB.out | apply below_alloc | apply pw_below_drewN | apply below_drew1) | exact HB.out)) hb); clear HB; have HB := n0_; clear n0_; (try clear hb); (try clear hb2); (try clear hk); (try clear hi)) | (go_at_call 11; (with_reducible refine (path_Under.calls (⟨#[97]⟩ : ByteArray) (⟨#[97]⟩ : ByteArray) true _ A62.out).mono ?_); rintro e w78 ⟨rfl, hb⟩; have n0_ := Aside0.mk (below_step (by repeat (first | (with_reducible first | exact HB.out | apply below_alloc | apply pw_below_drewN | apply below_drew1) | exact HB.out)) hb); clear HB; have HB := n0_; clear n0_; (try clear hb); (try clear hb2); (try clear hk); (try clear hi)) | ((with_reducible refine gate_callee (f := 8) rfl ?_); refine goesL_ (some 74) rfl rfl Try.func8 (by kernel_rfl) rfl #[] rfl (by (try simp only [List.map_toArray, List.map_cons, List.map_nil]); first | done | rfl | (simp only [List.length_drop, List.length_take]; rfl)) ?_; (with_reducible refine (satchellaw07_awake.calls kj33  true _ A64.out).mono ?_); rintro e w79 ⟨rfl, hb⟩; refine ⟨_, rfl, ?_⟩; have n0_ := Aside0.mk (below_step (by repeat (first | (with_reducible first | exact HB.out | apply below_alloc | apply pw_below_drewN | apply below_drew1) | exact HB.out)) hb); clear HB; have HB := n0_; clear n0_; (try clear hb); (try clear hb2); (try clear hk); (try clear hi)))
                            go_ret
                            exact ⟨by first | rfl | (simp [errW_none, errW_some] <;> rfl) | (simp [*, errW_none, errW_some] <;> rfl), by repeat (first | (with_reducible first | exact HB.out | apply below_alloc | apply pw_below_drewN | apply below_drew1) | exact HB.out)⟩
                        · replace c65 := Bool.eq_false_iff.mpr c65
                          subst c65
                          have H1 : (some false) = some r := by rw [if_neg (show ¬ (false = true) by decide)] at H; exact H
                          clear H
                          have H := H1
                          clear H1
                          obtain rfl := Option.some.inj H
                          go_wp2_with (first | (go_at_call 19; (with_reducible refine (path_Base.calls (⟨#[97, 47, 98]⟩ : ByteArray) t195 _ A57.out).mono ?_); rintro e w80 ⟨rfl, hb⟩; have n0_ := Aside0.mk (below_step (by repeat (first | (with_reducible first | exact HB.out | apply below_alloc | apply pw_below_drewN | apply below_drew1) | exact HB.out)) hb); clear HB; have HB := n0_; clear n0_; (try clear hb); (try clear hb2); (try clear hk); (try clear hi)) | (go_at_call 20; (with_reducible refine (satchellaw07_joins.calls kj33 (⟨#[]⟩ : ByteArray) (⟨#[98]⟩ : ByteArray) (⟨#[98]⟩ : ByteArray) true _ A59.out).mono ?_); rintro e w81 ⟨rfl, hb⟩; have n0_ := Aside0.mk (below_step (by repeat (first | (with_reducible first | exact HB.out | apply below_alloc | apply pw_below_drewN | apply below_drew1) | exact HB.out)) hb); clear HB; have HB := n0_; clear n0_; (try clear hb); (try clear hb2); (try clear hk); (try clear hi)) | (go_at_call 11; (with_reducible refine (path_Under.calls (⟨#[97]⟩ : ByteArray) (⟨#[97]⟩ : ByteArray) true _ A62.out).mono ?_); rintro e w82 ⟨rfl, hb⟩; have n0_ := Aside0.mk (below_step (by repeat (first | (with_reducible first | exact HB.out | apply below_alloc | apply pw_below_drewN | apply below_drew1) | exact HB.out)) hb); clear HB; have HB := n0_; clear n0_; (try clear hb); (try clear hb2); (try clear hk); (try clear hi)) | ((with_reducible refine gate_callee (f := 8) rfl ?_); refine goesL_ (some 74) rfl rfl Try.func8 (by kernel_rfl) rfl #[] rfl (by (try simp only [List.map_toArray, List.map_cons, List.map_nil]); first | done | rfl | (simp only [List.length_drop, List.length_take]; rfl)) ?_; (with_reducible refine (satchellaw07_awake.calls kj33  false _ A64.out).mono ?_); rintro e w83 ⟨rfl, hb⟩; refine ⟨_, rfl, ?_⟩; have n0_ := Aside0.mk (below_step (by repeat (first | (with_reducible first | exact HB.out | apply below_alloc | apply pw_below_drewN | apply below_drew1) | exact HB.out)) hb); clear HB; have HB := n0_; clear n0_; (try clear hb); (try clear hb2); (try clear hk); (try clear hi)))
                          go_ret
                          exact ⟨by first | rfl | (simp [errW_none, errW_some] <;> rfl) | (simp [*, errW_none, errW_some] <;> rfl), by repeat (first | (with_reducible first | exact HB.out | apply below_alloc | apply pw_below_drewN | apply below_drew1) | exact HB.out)⟩
                      · replace c63 := Bool.eq_false_iff.mpr c63
                        subst c63
                        have H1 : ((path_Under.f (⟨#[97, 98]⟩ : ByteArray) (⟨#[97]⟩ : ByteArray)).bind fun t199 => ((satchellaw07_awake.f kj33).bind fun t200 => (if t200 = true then (if x7_3 = true then (if x8_33 = true then (some (!t199)) else (some false)) else (some false)) else (some false)))) = some r := by rw [if_neg (show ¬ (false = true) by decide)] at H; exact H
                        clear H
                        have H := H1
                        clear H1
                        replace H := Option.bind_eq_some_iff.mp H
                        obtain ⟨t199, A840, H⟩ := H
                        replace H : ((satchellaw07_awake.f kj33).bind fun t200 => (if t200 = true then (if x7_3 = true then (if x8_33 = true then (some (!t199)) else (some false)) else (some false)) else (some false))) = some r := H
                        have A84 := Aside0.mk A840
                        clear A840
                        replace H := Option.bind_eq_some_iff.mp H
                        obtain ⟨t200, A850, H⟩ := H
                        replace H : (if t200 = true then (if x7_3 = true then (if x8_33 = true then (some (!t199)) else (some false)) else (some false)) else (some false)) = some r := H
                        have A85 := Aside0.mk A850
                        clear A850
                        by_cases c86 : t200 = true
                        · subst c86
                          have H1 : (if x7_3 = true then (if x8_33 = true then (some (!t199)) else (some false)) else (some false)) = some r := by rw [if_pos rfl] at H; exact H
                          clear H
                          have H := H1
                          clear H1
                          by_cases c87 : x7_3 = true
                          · subst c87
                            have H1 : (if x8_33 = true then (some (!t199)) else (some false)) = some r := by rw [if_pos rfl] at H; exact H
                            clear H
                            have H := H1
                            clear H1
                            by_cases c88 : x8_33 = true
                            · subst c88
                              have H1 : (some (!t199)) = some r := by rw [if_pos rfl] at H; exact H
                              clear H
                              have H := H1
                              clear H1
                              obtain rfl := Option.some.inj H
                              go_wp2_with (first | (go_at_call 19; (with_reducible refine (path_Base.calls (⟨#[97, 47, 98]⟩ : ByteArray) t195 _ A57.out).mono ?_); rintro e w89 ⟨rfl, hb⟩; have n0_ := Aside0.mk (below_step (by repeat (first | (with_reducible first | exact HB.out | apply below_alloc | apply pw_below_drewN | apply below_drew1) | exact HB.out)) hb); clear HB; have HB := n0_; clear n0_; (try clear hb); (try clear hb2); (try clear hk); (try clear hi)) | (go_at_call 20; (with_reducible refine (satchellaw07_joins.calls kj33 (⟨#[]⟩ : ByteArray) (⟨#[98]⟩ : ByteArray) (⟨#[98]⟩ : ByteArray) true _ A59.out).mono ?_); rintro e w90 ⟨rfl, hb⟩; have n0_ := Aside0.mk (below_step (by repeat (first | (with_reducible first | exact HB.out | apply below_alloc | apply pw_below_drewN | apply below_drew1) | exact HB.out)) hb); clear HB; have HB := n0_; clear n0_; (try clear hb); (try clear hb2); (try clear hk); (try clear hi)) | (go_at_call 11; (with_reducible refine (path_Under.calls (⟨#[97]⟩ : ByteArray) (⟨#[97]⟩ : ByteArray) false _ A62.out).mono ?_); rintro e w91 ⟨rfl, hb⟩; have n0_ := Aside0.mk (below_step (by repeat (first | (with_reducible first | exact HB.out | apply below_alloc | apply pw_below_drewN | apply below_drew1) | exact HB.out)) hb); clear HB; have HB := n0_; clear n0_; (try clear hb); (try clear hb2); (try clear hk); (try clear hi)) | (go_at_call 11; (with_reducible refine (path_Under.calls (⟨#[97, 98]⟩ : ByteArray) (⟨#[97]⟩ : ByteArray) t199 _ A84.out).mono ?_); rintro e w92 ⟨rfl, hb⟩; have n0_ := Aside0.mk (below_step (by repeat (first | (with_reducible first | exact HB.out | apply below_alloc | apply pw_below_drewN | apply below_drew1) | exact HB.out)) hb); clear HB; have HB := n0_; clear n0_; (try clear hb); (try clear hb2); (try clear hk); (try clear hi)) | ((with_reducible refine gate_callee (f := 8) rfl ?_); refine goesL_ (some 74) rfl rfl Try.func8 (by kernel_rfl) rfl #[] rfl (by (try simp only [List.map_toArray, List.map_cons, List.map_nil]); first | done | rfl | (simp only [List.length_drop, List.length_take]; rfl)) ?_; (with_reducible refine (satchellaw07_awake.calls kj33  true _ A85.out).mono ?_); rintro e w93 ⟨rfl, hb⟩; refine ⟨_, rfl, ?_⟩; have n0_ := Aside0.mk (below_step (by repeat (first | (with_reducible first | exact HB.out | apply below_alloc | apply pw_below_drewN | apply below_drew1) | exact HB.out)) hb); clear HB; have HB := n0_; clear n0_; (try clear hb); (try clear hb2); (try clear hk); (try clear hi)))
                              go_ret
                              exact ⟨by first | rfl | (simp [errW_none, errW_some] <;> rfl) | (simp [*, errW_none, errW_some] <;> rfl), by repeat (first | (with_reducible first | exact HB.out | apply below_alloc | apply pw_below_drewN | apply below_drew1) | exact HB.out)⟩
                            · replace c88 := Bool.eq_false_iff.mpr c88
                              subst c88
                              have H1 : (some false) = some r := by rw [if_neg (show ¬ (false = true) by decide)] at H; exact H
                              clear H
                              have H := H1
                              clear H1
                              obtain rfl := Option.some.inj H
                              go_wp2_with (first | (go_at_call 19; (with_reducible refine (path_Base.calls (⟨#[97, 47, 98]⟩ : ByteArray) t195 _ A57.out).mono ?_); rintro e w94 ⟨rfl, hb⟩; have n0_ := Aside0.mk (below_step (by repeat (first | (with_reducible first | exact HB.out | apply below_alloc | apply pw_below_drewN | apply below_drew1) | exact HB.out)) hb); clear HB; have HB := n0_; clear n0_; (try clear hb); (try clear hb2); (try clear hk); (try clear hi)) | (go_at_call 20; (with_reducible refine (satchellaw07_joins.calls kj33 (⟨#[]⟩ : ByteArray) (⟨#[98]⟩ : ByteArray) (⟨#[98]⟩ : ByteArray) true _ A59.out).mono ?_); rintro e w95 ⟨rfl, hb⟩; have n0_ := Aside0.mk (below_step (by repeat (first | (with_reducible first | exact HB.out | apply below_alloc | apply pw_below_drewN | apply below_drew1) | exact HB.out)) hb); clear HB; have HB := n0_; clear n0_; (try clear hb); (try clear hb2); (try clear hk); (try clear hi)) | (go_at_call 11; (with_reducible refine (path_Under.calls (⟨#[97]⟩ : ByteArray) (⟨#[97]⟩ : ByteArray) false _ A62.out).mono ?_); rintro e w96 ⟨rfl, hb⟩; have n0_ := Aside0.mk (below_step (by repeat (first | (with_reducible first | exact HB.out | apply below_alloc | apply pw_below_drewN | apply below_drew1) | exact HB.out)) hb); clear HB; have HB := n0_; clear n0_; (try clear hb); (try clear hb2); (try clear hk); (try clear hi)) | (go_at_call 11; (with_reducible refine (path_Under.calls (⟨#[97, 98]⟩ : ByteArray) (⟨#[97]⟩ : ByteArray) t199 _ A84.out).mono ?_); rintro e w97 ⟨rfl, hb⟩; have n0_ := Aside0.mk (below_step (by repeat (first | (with_reducible first | exact HB.out | apply below_alloc | apply pw_below_drewN | apply below_drew1) | exact HB.out)) hb); clear HB; have HB := n0_; clear n0_; (try clear hb); (try clear hb2); (try clear hk); (try clear hi)) | ((with_reducible refine gate_callee (f := 8) rfl ?_); refine goesL_ (some 74) rfl rfl Try.func8 (by kernel_rfl) rfl #[] rfl (by (try simp only [List.map_toArray, List.map_cons, List.map_nil]); first | done | rfl | (simp only [List.length_drop, List.length_take]; rfl)) ?_; (with_reducible refine (satchellaw07_awake.calls kj33  true _ A85.out).mono ?_); rintro e w98 ⟨rfl, hb⟩; refine ⟨_, rfl, ?_⟩; have n0_ := Aside0.mk (below_step (by repeat (first | (with_reducible first | exact HB.out | apply below_alloc | apply pw_below_drewN | apply below_drew1) | exact HB.out)) hb); clear HB; have HB := n0_; clear n0_; (try clear hb); (try clear hb2); (try clear hk); (try clear hi)))
                              go_ret
                              exact ⟨by first | rfl | (simp [errW_none, errW_some] <;> rfl) | (simp [*, errW_none, errW_some] <;> rfl), by repeat (first | (with_reducible first | exact HB.out | apply below_alloc | apply pw_below_drewN | apply below_drew1) | exact HB.out)⟩
                          · replace c87 := Bool.eq_false_iff.mpr c87
                            subst c87
                            have H1 : (some false) = some r := by rw [if_neg (show ¬ (false = true) by decide)] at H; exact H
                            clear H
                            have H := H1
                            clear H1
                            obtain rfl := Option.some.inj H
                            go_wp2_with (first | (go_at_call 19; (with_reducible refine (path_Base.calls (⟨#[97, 47, 98]⟩ : ByteArray) t195 _ A57.out).mono ?_); rintro e w99 ⟨rfl, hb⟩; have n0_ := Aside0.mk (below_step (by repeat (first | (with_reducible first | exact HB.out | apply below_alloc | apply pw_below_drewN | apply below_drew1) | exact HB.out)) hb); clear HB; have HB := n0_; clear n0_; (try clear hb); (try clear hb2); (try clear hk); (try clear hi)) | (go_at_call 20; (with_reducible refine (satchellaw07_joins.calls kj33 (⟨#[]⟩ : ByteArray) (⟨#[98]⟩ : ByteArray) (⟨#[98]⟩ : ByteArray) true _ A59.out).mono ?_); rintro e w100 ⟨rfl, hb⟩; have n0_ := Aside0.mk (below_step (by repeat (first | (with_reducible first | exact HB.out | apply below_alloc | apply pw_below_drewN | apply below_drew1) | exact HB.out)) hb); clear HB; have HB := n0_; clear n0_; (try clear hb); (try clear hb2); (try clear hk); (try clear hi)) | (go_at_call 11; (with_reducible refine (path_Under.calls (⟨#[97]⟩ : ByteArray) (⟨#[97]⟩ : ByteArray) false _ A62.out).mono ?_); rintro e w101 ⟨rfl, hb⟩; have n0_ := Aside0.mk (below_step (by repeat (first | (with_reducible first | exact HB.out | apply below_alloc | apply pw_below_drewN | apply below_drew1) | exact HB.out)) hb); clear HB; have HB := n0_; clear n0_; (try clear hb); (try clear hb2); (try clear hk); (try clear hi)) | (go_at_call 11; (with_reducible refine (path_Under.calls (⟨#[97, 98]⟩ : ByteArray) (⟨#[97]⟩ : ByteArray) t199 _ A84.out).mono ?_); rintro e w102 ⟨rfl, hb⟩; have n0_ := Aside0.mk (below_step (by repeat (first | (with_reducible first | exact HB.out | apply below_alloc | apply pw_below_drewN | apply below_drew1) | exact HB.out)) hb); clear HB; have HB := n0_; clear n0_; (try clear hb); (try clear hb2); (try clear hk); (try clear hi)) | ((with_reducible refine gate_callee (f := 8) rfl ?_); refine goesL_ (some 74) rfl rfl Try.func8 (by kernel_rfl) rfl #[] rfl (by (try simp only [List.map_toArray, List.map_cons, List.map_nil]); first | done | rfl | (simp only [List.length_drop, List.length_take]; rfl)) ?_; (with_reducible refine (satchellaw07_awake.calls kj33  true _ A85.out).mono ?_); rintro e w103 ⟨rfl, hb⟩; refine ⟨_, rfl, ?_⟩; have n0_ := Aside0.mk (below_step (by repeat (first | (with_reducible first | exact HB.out | apply below_alloc | apply pw_below_drewN | apply below_drew1) | exact HB.out)) hb); clear HB; have HB := n0_; clear n0_; (try clear hb); (try clear hb2); (try clear hk); (try clear hi)))
                            go_ret
                            exact ⟨by first | rfl | (simp [errW_none, errW_some] <;> rfl) | (simp [*, errW_none, errW_some] <;> rfl), by repeat (first | (with_reducible first | exact HB.out | apply below_alloc | apply pw_below_drewN | apply below_drew1) | exact HB.out)⟩
                        · replace c86 := Bool.eq_false_iff.mpr c86
                          subst c86
                          have H1 : (some false) = some r := by rw [if_neg (show ¬ (false = true) by decide)] at H; exact H
                          clear H
                          have H := H1
                          clear H1
                          obtain rfl := Option.some.inj H
                          go_wp2_with (first | (go_at_call 19; (with_reducible refine (path_Base.calls (⟨#[97, 47, 98]⟩ : ByteArray) t195 _ A57.out).mono ?_); rintro e w104 ⟨rfl, hb⟩; have n0_ := Aside0.mk (below_step (by repeat (first | (with_reducible first | exact HB.out | apply below_alloc | apply pw_below_drewN | apply below_drew1) | exact HB.out)) hb); clear HB; have HB := n0_; clear n0_; (try clear hb); (try clear hb2); (try clear hk); (try clear hi)) | (go_at_call 20; (with_reducible refine (satchellaw07_joins.calls kj33 (⟨#[]⟩ : ByteArray) (⟨#[98]⟩ : ByteArray) (⟨#[98]⟩ : ByteArray) true _ A59.out).mono ?_); rintro e w105 ⟨rfl, hb⟩; have n0_ := Aside0.mk (below_step (by repeat (first | (with_reducible first | exact HB.out | apply below_alloc | apply pw_below_drewN | apply below_drew1) | exact HB.out)) hb); clear HB; have HB := n0_; clear n0_; (try clear hb); (try clear hb2); (try clear hk); (try clear hi)) | (go_at_call 11; (with_reducible refine (path_Under.calls (⟨#[97]⟩ : ByteArray) (⟨#[97]⟩ : ByteArray) false _ A62.out).mono ?_); rintro e w106 ⟨rfl, hb⟩; have n0_ := Aside0.mk (below_step (by repeat (first | (with_reducible first | exact HB.out | apply below_alloc | apply pw_below_drewN | apply below_drew1) | exact HB.out)) hb); clear HB; have HB := n0_; clear n0_; (try clear hb); (try clear hb2); (try clear hk); (try clear hi)) | (go_at_call 11; (with_reducible refine (path_Under.calls (⟨#[97, 98]⟩ : ByteArray) (⟨#[97]⟩ : ByteArray) t199 _ A84.out).mono ?_); rintro e w107 ⟨rfl, hb⟩; have n0_ := Aside0.mk (below_step (by repeat (first | (with_reducible first | exact HB.out | apply below_alloc | apply pw_below_drewN | apply below_drew1) | exact HB.out)) hb); clear HB; have HB := n0_; clear n0_; (try clear hb); (try clear hb2); (try clear hk); (try clear hi)) | ((with_reducible refine gate_callee (f := 8) rfl ?_); refine goesL_ (some 74) rfl rfl Try.func8 (by kernel_rfl) rfl #[] rfl (by (try simp only [List.map_toArray, List.map_cons, List.map_nil]); first | done | rfl | (simp only [List.length_drop, List.length_take]; rfl)) ?_; (with_reducible refine (satchellaw07_awake.calls kj33  false _ A85.out).mono ?_); rintro e w108 ⟨rfl, hb⟩; refine ⟨_, rfl, ?_⟩; have n0_ := Aside0.mk (below_step (by repeat (first | (with_reducible first | exact HB.out | apply below_alloc | apply pw_below_drewN | apply below_drew1) | exact HB.out)) hb); clear HB; have HB := n0_; clear n0_; (try clear hb); (try clear hb2); (try clear hk); (try clear hi)))
                          go_ret
                          exact ⟨by first | rfl | (simp [errW_none, errW_some] <;> rfl) | (simp [*, errW_none, errW_some] <;> rfl), by repeat (first | (with_reducible first | exact HB.out | apply below_alloc | apply pw_below_drewN | apply below_drew1) | exact HB.out)⟩
                    · rw [if_neg c61] at H
                      have c61b0 : (t184 == 2) = false := beq_eq_false_iff_ne.mpr c61
                      have c61b1 : (t184 != 2) = true := bne_iff_ne.mpr c61
                      replace H := Option.bind_eq_some_iff.mp H
                      obtain ⟨t201, A1090, H⟩ := H
                      replace H : (if t201 = true then (if x7_3 = true then (if x8_33 = true then (some false) else (some false)) else (some false)) else (some false)) = some r := H
                      have A109 := Aside0.mk A1090
                      clear A1090
                      by_cases c110 : t201 = true
                      · subst c110
                        have H1 : (if x7_3 = true then (if x8_33 = true then (some false) else (some false)) else (some false)) = some r := by rw [if_pos rfl] at H; exact H
                        clear H
                        have H := H1
                        clear H1
                        by_cases c111 : x7_3 = true
                        · subst c111
                          have H1 : (if x8_33 = true then (some false) else (some false)) = some r := by rw [if_pos rfl] at H; exact H
                          clear H
                          have H := H1
                          clear H1
                          by_cases c112 : x8_33 = true
                          · subst c112
                            have H1 : (some false) = some r := by rw [if_pos rfl] at H; exact H
                            clear H
                            have H := H1
                            clear H1
                            obtain rfl := Option.some.inj H
                            go_wp2_with (first | (go_at_call 19; (with_reducible refine (path_Base.calls (⟨#[97, 47, 98]⟩ : ByteArray) t195 _ A57.out).mono ?_); rintro e w113 ⟨rfl, hb⟩; have n0_ := Aside0.mk (below_step (by repeat (first | (with_reducible first | exact HB.out | apply below_alloc | apply pw_below_drewN | apply below_drew1) | exact HB.out)) hb); clear HB; have HB := n0_; clear n0_; (try clear hb); (try clear hb2); (try clear hk); (try clear hi)) | (go_at_call 20; (with_reducible refine (satchellaw07_joins.calls kj33 (⟨#[]⟩ : ByteArray) (⟨#[98]⟩ : ByteArray) (⟨#[98]⟩ : ByteArray) true _ A59.out).mono ?_); rintro e w114 ⟨rfl, hb⟩; have n0_ := Aside0.mk (below_step (by repeat (first | (with_reducible first | exact HB.out | apply below_alloc | apply pw_below_drewN | apply below_drew1) | exact HB.out)) hb); clear HB; have HB := n0_; clear n0_; (try clear hb); (try clear hb2); (try clear hk); (try clear hi)) | ((with_reducible refine gate_callee (f := 8) rfl ?_); refine goesL_ (some 74) rfl rfl Try.func8 (by kernel_rfl) rfl #[] rfl (by (try simp only [List.map_toArray, List.map_cons, List.map_nil]); first | done | rfl | (simp only [List.length_drop, List.length_take]; rfl)) ?_; (with_reducible refine (satchellaw07_awake.calls kj33  true _ A109.out).mono ?_); rintro e w115 ⟨rfl, hb⟩; refine ⟨_, rfl, ?_⟩; have n0_ := Aside0.mk (below_step (by repeat (first | (with_reducible first | exact HB.out | apply below_alloc | apply pw_below_drewN | apply below_drew1) | exact HB.out)) hb); clear HB; have HB := n0_; clear n0_; (try clear hb); (try clear hb2); (try clear hk); (try clear hi)))
                            go_ret
                            exact ⟨by first | rfl | (simp [errW_none, errW_some] <;> rfl) | (simp [*, errW_none, errW_some] <;> rfl), by repeat (first | (with_reducible first | exact HB.out | apply below_alloc | apply pw_below_drewN | apply below_drew1) | exact HB.out)⟩
                          · replace c112 := Bool.eq_false_iff.mpr c112
                            subst c112
                            have H1 : (some false) = some r := by rw [if_neg (show ¬ (false = true) by decide)] at H; exact H
                            clear H
                            have H := H1
                            clear H1
                            obtain rfl := Option.some.inj H
                            go_wp2_with (first | (go_at_call 19; (with_reducible refine (path_Base.calls (⟨#[97, 47, 98]⟩ : ByteArray) t195 _ A57.out).mono ?_); rintro e w116 ⟨rfl, hb⟩; have n0_ := Aside0.mk (below_step (by repeat (first | (with_reducible first | exact HB.out | apply below_alloc | apply pw_below_drewN | apply below_drew1) | exact HB.out)) hb); clear HB; have HB := n0_; clear n0_; (try clear hb); (try clear hb2); (try clear hk); (try clear hi)) | (go_at_call 20; (with_reducible refine (satchellaw07_joins.calls kj33 (⟨#[]⟩ : ByteArray) (⟨#[98]⟩ : ByteArray) (⟨#[98]⟩ : ByteArray) true _ A59.out).mono ?_); rintro e w117 ⟨rfl, hb⟩; have n0_ := Aside0.mk (below_step (by repeat (first | (with_reducible first | exact HB.out | apply below_alloc | apply pw_below_drewN | apply below_drew1) | exact HB.out)) hb); clear HB; have HB := n0_; clear n0_; (try clear hb); (try clear hb2); (try clear hk); (try clear hi)) | ((with_reducible refine gate_callee (f := 8) rfl ?_); refine goesL_ (some 74) rfl rfl Try.func8 (by kernel_rfl) rfl #[] rfl (by (try simp only [List.map_toArray, List.map_cons, List.map_nil]); first | done | rfl | (simp only [List.length_drop, List.length_take]; rfl)) ?_; (with_reducible refine (satchellaw07_awake.calls kj33  true _ A109.out).mono ?_); rintro e w118 ⟨rfl, hb⟩; refine ⟨_, rfl, ?_⟩; have n0_ := Aside0.mk (below_step (by repeat (first | (with_reducible first | exact HB.out | apply below_alloc | apply pw_below_drewN | apply below_drew1) | exact HB.out)) hb); clear HB; have HB := n0_; clear n0_; (try clear hb); (try clear hb2); (try clear hk); (try clear hi)))
                            go_ret
                            exact ⟨by first | rfl | (simp [errW_none, errW_some] <;> rfl) | (simp [*, errW_none, errW_some] <;> rfl), by repeat (first | (with_reducible first | exact HB.out | apply below_alloc | apply pw_below_drewN | apply below_drew1) | exact HB.out)⟩
                        · replace c111 := Bool.eq_false_iff.mpr c111
                          subst c111
                          have H1 : (some false) = some r := by rw [if_neg (show ¬ (false = true) by decide)] at H; exact H
                          clear H
                          have H := H1
                          clear H1
                          obtain rfl := Option.some.inj H
                          go_wp2_with (first | (go_at_call 19; (with_reducible refine (path_Base.calls (⟨#[97, 47, 98]⟩ : ByteArray) t195 _ A57.out).mono ?_); rintro e w119 ⟨rfl, hb⟩; have n0_ := Aside0.mk (below_step (by repeat (first | (with_reducible first | exact HB.out | apply below_alloc | apply pw_below_drewN | apply below_drew1) | exact HB.out)) hb); clear HB; have HB := n0_; clear n0_; (try clear hb); (try clear hb2); (try clear hk); (try clear hi)) | (go_at_call 20; (with_reducible refine (satchellaw07_joins.calls kj33 (⟨#[]⟩ : ByteArray) (⟨#[98]⟩ : ByteArray) (⟨#[98]⟩ : ByteArray) true _ A59.out).mono ?_); rintro e w120 ⟨rfl, hb⟩; have n0_ := Aside0.mk (below_step (by repeat (first | (with_reducible first | exact HB.out | apply below_alloc | apply pw_below_drewN | apply below_drew1) | exact HB.out)) hb); clear HB; have HB := n0_; clear n0_; (try clear hb); (try clear hb2); (try clear hk); (try clear hi)) | ((with_reducible refine gate_callee (f := 8) rfl ?_); refine goesL_ (some 74) rfl rfl Try.func8 (by kernel_rfl) rfl #[] rfl (by (try simp only [List.map_toArray, List.map_cons, List.map_nil]); first | done | rfl | (simp only [List.length_drop, List.length_take]; rfl)) ?_; (with_reducible refine (satchellaw07_awake.calls kj33  true _ A109.out).mono ?_); rintro e w121 ⟨rfl, hb⟩; refine ⟨_, rfl, ?_⟩; have n0_ := Aside0.mk (below_step (by repeat (first | (with_reducible first | exact HB.out | apply below_alloc | apply pw_below_drewN | apply below_drew1) | exact HB.out)) hb); clear HB; have HB := n0_; clear n0_; (try clear hb); (try clear hb2); (try clear hk); (try clear hi)))
                          go_ret
                          exact ⟨by first | rfl | (simp [errW_none, errW_some] <;> rfl) | (simp [*, errW_none, errW_some] <;> rfl), by repeat (first | (with_reducible first | exact HB.out | apply below_alloc | apply pw_below_drewN | apply below_drew1) | exact HB.out)⟩
                      · replace c110 := Bool.eq_false_iff.mpr c110
                        subst c110
                        have H1 : (some false) = some r := by rw [if_neg (show ¬ (false = true) by decide)] at H; exact H
                        clear H
                        have H := H1
                        clear H1
                        obtain rfl := Option.some.inj H
                        go_wp2_with (first | (go_at_call 19; (with_reducible refine (path_Base.calls (⟨#[97, 47, 98]⟩ : ByteArray) t195 _ A57.out).mono ?_); rintro e w122 ⟨rfl, hb⟩; have n0_ := Aside0.mk (below_step (by repeat (first | (with_reducible first | exact HB.out | apply below_alloc | apply pw_below_drewN | apply below_drew1) | exact HB.out)) hb); clear HB; have HB := n0_; clear n0_; (try clear hb); (try clear hb2); (try clear hk); (try clear hi)) | (go_at_call 20; (with_reducible refine (satchellaw07_joins.calls kj33 (⟨#[]⟩ : ByteArray) (⟨#[98]⟩ : ByteArray) (⟨#[98]⟩ : ByteArray) true _ A59.out).mono ?_); rintro e w123 ⟨rfl, hb⟩; have n0_ := Aside0.mk (below_step (by repeat (first | (with_reducible first | exact HB.out | apply below_alloc | apply pw_below_drewN | apply below_drew1) | exact HB.out)) hb); clear HB; have HB := n0_; clear n0_; (try clear hb); (try clear hb2); (try clear hk); (try clear hi)) | ((with_reducible refine gate_callee (f := 8) rfl ?_); refine goesL_ (some 74) rfl rfl Try.func8 (by kernel_rfl) rfl #[] rfl (by (try simp only [List.map_toArray, List.map_cons, List.map_nil]); first | done | rfl | (simp only [List.length_drop, List.length_take]; rfl)) ?_; (with_reducible refine (satchellaw07_awake.calls kj33  false _ A109.out).mono ?_); rintro e w124 ⟨rfl, hb⟩; refine ⟨_, rfl, ?_⟩; have n0_ := Aside0.mk (below_step (by repeat (first | (with_reducible first | exact HB.out | apply below_alloc | apply pw_below_drewN | apply below_drew1) | exact HB.out)) hb); clear HB; have HB := n0_; clear n0_; (try clear hb); (try clear hb2); (try clear hk); (try clear hi)))
                        go_ret
                        exact ⟨by first | rfl | (simp [errW_none, errW_some] <;> rfl) | (simp [*, errW_none, errW_some] <;> rfl), by repeat (first | (with_reducible first | exact HB.out | apply below_alloc | apply pw_below_drewN | apply below_drew1) | exact HB.out)⟩
                  · replace c60 := Bool.eq_false_iff.mpr c60
                    subst c60
                    have H1 : ((satchellaw07_awake.f kj33).bind fun t202 => (if t202 = true then (if x7_3 = true then (if x8_33 = true then (some false) else (some false)) else (some false)) else (some false))) = some r := by rw [if_neg (show ¬ (false = true) by decide)] at H; exact H
                    clear H
                    have H := H1
                    clear H1
                    replace H := Option.bind_eq_some_iff.mp H
                    obtain ⟨t202, A1250, H⟩ := H
                    replace H : (if t202 = true then (if x7_3 = true then (if x8_33 = true then (some false) else (some false)) else (some false)) else (some false)) = some r := H
                    have A125 := Aside0.mk A1250
                    clear A1250
                    by_cases c126 : t202 = true
                    · subst c126
                      have H1 : (if x7_3 = true then (if x8_33 = true then (some false) else (some false)) else (some false)) = some r := by rw [if_pos rfl] at H; exact H
                      clear H
                      have H := H1
                      clear H1
                      by_cases c127 : x7_3 = true
                      · subst c127
                        have H1 : (if x8_33 = true then (some false) else (some false)) = some r := by rw [if_pos rfl] at H; exact H
                        clear H
                        have H := H1
                        clear H1
                        by_cases c128 : x8_33 = true
                        · subst c128
                          have H1 : (some false) = some r := by rw [if_pos rfl] at H; exact H
                          clear H
                          have H := H1
                          clear H1
                          obtain rfl := Option.some.inj H
                          go_wp2_with (first | (go_at_call 19; (with_reducible refine (path_Base.calls (⟨#[97, 47, 98]⟩ : ByteArray) t195 _ A57.out).mono ?_); rintro e w129 ⟨rfl, hb⟩; have n0_ := Aside0.mk (below_step (by repeat (first | (with_reducible first | exact HB.out | apply below_alloc | apply pw_below_drewN | apply below_drew1) | exact HB.out)) hb); clear HB; have HB := n0_; clear n0_; (try clear hb); (try clear hb2); (try clear hk); (try clear hi)) | (go_at_call 20; (with_reducible refine (satchellaw07_joins.calls kj33 (⟨#[]⟩ : ByteArray) (⟨#[98]⟩ : ByteArray) (⟨#[98]⟩ : ByteArray) false _ A59.out).mono ?_); rintro e w130 ⟨rfl, hb⟩; have n0_ := Aside0.mk (below_step (by repeat (first | (with_reducible first | exact HB.out | apply below_alloc | apply pw_below_drewN | apply below_drew1) | exact HB.out)) hb); clear HB; have HB := n0_; clear n0_; (try clear hb); (try clear hb2); (try clear hk); (try clear hi)) | ((with_reducible refine gate_callee (f := 8) rfl ?_); refine goesL_ (some 74) rfl rfl Try.func8 (by kernel_rfl) rfl #[] rfl (by (try simp only [List.map_toArray, List.map_cons, List.map_nil]); first | done | rfl | (simp only [List.length_drop, List.length_take]; rfl)) ?_; (with_reducible refine (satchellaw07_awake.calls kj33  true _ A125.out).mono ?_); rintro e w131 ⟨rfl, hb⟩; refine ⟨_, rfl, ?_⟩; have n0_ := Aside0.mk (below_step (by repeat (first | (with_reducible first | exact HB.out | apply below_alloc | apply pw_below_drewN | apply below_drew1) | exact HB.out)) hb); clear HB; have HB := n0_; clear n0_; (try clear hb); (try clear hb2); (try clear hk); (try clear hi)))
                          go_ret
                          exact ⟨by first | rfl | (simp [errW_none, errW_some] <;> rfl) | (simp [*, errW_none, errW_some] <;> rfl), by repeat (first | (with_reducible first | exact HB.out | apply below_alloc | apply pw_below_drewN | apply below_drew1) | exact HB.out)⟩
                        · replace c128 := Bool.eq_false_iff.mpr c128
                          subst c128
                          have H1 : (some false) = some r := by rw [if_neg (show ¬ (false = true) by decide)] at H; exact H
                          clear H
                          have H := H1
                          clear H1
                          obtain rfl := Option.some.inj H
                          go_wp2_with (first | (go_at_call 19; (with_reducible refine (path_Base.calls (⟨#[97, 47, 98]⟩ : ByteArray) t195 _ A57.out).mono ?_); rintro e w132 ⟨rfl, hb⟩; have n0_ := Aside0.mk (below_step (by repeat (first | (with_reducible first | exact HB.out | apply below_alloc | apply pw_below_drewN | apply below_drew1) | exact HB.out)) hb); clear HB; have HB := n0_; clear n0_; (try clear hb); (try clear hb2); (try clear hk); (try clear hi)) | (go_at_call 20; (with_reducible refine (satchellaw07_joins.calls kj33 (⟨#[]⟩ : ByteArray) (⟨#[98]⟩ : ByteArray) (⟨#[98]⟩ : ByteArray) false _ A59.out).mono ?_); rintro e w133 ⟨rfl, hb⟩; have n0_ := Aside0.mk (below_step (by repeat (first | (with_reducible first | exact HB.out | apply below_alloc | apply pw_below_drewN | apply below_drew1) | exact HB.out)) hb); clear HB; have HB := n0_; clear n0_; (try clear hb); (try clear hb2); (try clear hk); (try clear hi)) | ((with_reducible refine gate_callee (f := 8) rfl ?_); refine goesL_ (some 74) rfl rfl Try.func8 (by kernel_rfl) rfl #[] rfl (by (try simp only [List.map_toArray, List.map_cons, List.map_nil]); first | done | rfl | (simp only [List.length_drop, List.length_take]; rfl)) ?_; (with_reducible refine (satchellaw07_awake.calls kj33  true _ A125.out).mono ?_); rintro e w134 ⟨rfl, hb⟩; refine ⟨_, rfl, ?_⟩; have n0_ := Aside0.mk (below_step (by repeat (first | (with_reducible first | exact HB.out | apply below_alloc | apply pw_below_drewN | apply below_drew1) | exact HB.out)) hb); clear HB; have HB := n0_; clear n0_; (try clear hb); (try clear hb2); (try clear hk); (try clear hi)))
                          go_ret
                          exact ⟨by first | rfl | (simp [errW_none, errW_some] <;> rfl) | (simp [*, errW_none, errW_some] <;> rfl), by repeat (first | (with_reducible first | exact HB.out | apply below_alloc | apply pw_below_drewN | apply below_drew1) | exact HB.out)⟩
                      · replace c127 := Bool.eq_false_iff.mpr c127
                        subst c127
                        have H1 : (some false) = some r := by rw [if_neg (show ¬ (false = true) by decide)] at H; exact H
                        clear H
                        have H := H1
                        clear H1
                        obtain rfl := Option.some.inj H
                        go_wp2_with (first | (go_at_call 19; (with_reducible refine (path_Base.calls (⟨#[97, 47, 98]⟩ : ByteArray) t195 _ A57.out).mono ?_); rintro e w135 ⟨rfl, hb⟩; have n0_ := Aside0.mk (below_step (by repeat (first | (with_reducible first | exact HB.out | apply below_alloc | apply pw_below_drewN | apply below_drew1) | exact HB.out)) hb); clear HB; have HB := n0_; clear n0_; (try clear hb); (try clear hb2); (try clear hk); (try clear hi)) | (go_at_call 20; (with_reducible refine (satchellaw07_joins.calls kj33 (⟨#[]⟩ : ByteArray) (⟨#[98]⟩ : ByteArray) (⟨#[98]⟩ : ByteArray) false _ A59.out).mono ?_); rintro e w136 ⟨rfl, hb⟩; have n0_ := Aside0.mk (below_step (by repeat (first | (with_reducible first | exact HB.out | apply below_alloc | apply pw_below_drewN | apply below_drew1) | exact HB.out)) hb); clear HB; have HB := n0_; clear n0_; (try clear hb); (try clear hb2); (try clear hk); (try clear hi)) | ((with_reducible refine gate_callee (f := 8) rfl ?_); refine goesL_ (some 74) rfl rfl Try.func8 (by kernel_rfl) rfl #[] rfl (by (try simp only [List.map_toArray, List.map_cons, List.map_nil]); first | done | rfl | (simp only [List.length_drop, List.length_take]; rfl)) ?_; (with_reducible refine (satchellaw07_awake.calls kj33  true _ A125.out).mono ?_); rintro e w137 ⟨rfl, hb⟩; refine ⟨_, rfl, ?_⟩; have n0_ := Aside0.mk (below_step (by repeat (first | (with_reducible first | exact HB.out | apply below_alloc | apply pw_below_drewN | apply below_drew1) | exact HB.out)) hb); clear HB; have HB := n0_; clear n0_; (try clear hb); (try clear hb2); (try clear hk); (try clear hi)))
                        go_ret
                        exact ⟨by first | rfl | (simp [errW_none, errW_some] <;> rfl) | (simp [*, errW_none, errW_some] <;> rfl), by repeat (first | (with_reducible first | exact HB.out | apply below_alloc | apply pw_below_drewN | apply below_drew1) | exact HB.out)⟩
                    · replace c126 := Bool.eq_false_iff.mpr c126
                      subst c126
                      have H1 : (some false) = some r := by rw [if_neg (show ¬ (false = true) by decide)] at H; exact H
                      clear H
                      have H := H1
                      clear H1
                      obtain rfl := Option.some.inj H
                      go_wp2_with (first | (go_at_call 19; (with_reducible refine (path_Base.calls (⟨#[97, 47, 98]⟩ : ByteArray) t195 _ A57.out).mono ?_); rintro e w138 ⟨rfl, hb⟩; have n0_ := Aside0.mk (below_step (by repeat (first | (with_reducible first | exact HB.out | apply below_alloc | apply pw_below_drewN | apply below_drew1) | exact HB.out)) hb); clear HB; have HB := n0_; clear n0_; (try clear hb); (try clear hb2); (try clear hk); (try clear hi)) | (go_at_call 20; (with_reducible refine (satchellaw07_joins.calls kj33 (⟨#[]⟩ : ByteArray) (⟨#[98]⟩ : ByteArray) (⟨#[98]⟩ : ByteArray) false _ A59.out).mono ?_); rintro e w139 ⟨rfl, hb⟩; have n0_ := Aside0.mk (below_step (by repeat (first | (with_reducible first | exact HB.out | apply below_alloc | apply pw_below_drewN | apply below_drew1) | exact HB.out)) hb); clear HB; have HB := n0_; clear n0_; (try clear hb); (try clear hb2); (try clear hk); (try clear hi)) | ((with_reducible refine gate_callee (f := 8) rfl ?_); refine goesL_ (some 74) rfl rfl Try.func8 (by kernel_rfl) rfl #[] rfl (by (try simp only [List.map_toArray, List.map_cons, List.map_nil]); first | done | rfl | (simp only [List.length_drop, List.length_take]; rfl)) ?_; (with_reducible refine (satchellaw07_awake.calls kj33  false _ A125.out).mono ?_); rintro e w140 ⟨rfl, hb⟩; refine ⟨_, rfl, ?_⟩; have n0_ := Aside0.mk (below_step (by repeat (first | (with_reducible first | exact HB.out | apply below_alloc | apply pw_below_drewN | apply below_drew1) | exact HB.out)) hb); clear HB; have HB := n0_; clear n0_; (try clear hb); (try clear hb2); (try clear hk); (try clear hi)))
                      go_ret
                      exact ⟨by first | rfl | (simp [errW_none, errW_some] <;> rfl) | (simp [*, errW_none, errW_some] <;> rfl), by repeat (first | (with_reducible first | exact HB.out | apply below_alloc | apply pw_below_drewN | apply below_drew1) | exact HB.out)⟩
                · rw [if_neg c58] at H
                  have c58b0 : (t195.toList == ([98] : List UInt8)) = false := beq_eq_false_iff_ne.mpr c58
                  have c58b1 : (t195.toList != ([98] : List UInt8)) = true := bne_iff_ne.mpr c58
                  replace H := Option.bind_eq_some_iff.mp H
                  obtain ⟨t203, A1410, H⟩ := H
                  replace H : (if t203 = true then (if x7_3 = true then (if x8_33 = true then (some false) else (some false)) else (some false)) else (some false)) = some r := H
                  have A141 := Aside0.mk A1410
                  clear A1410
                  by_cases c142 : t203 = true
                  · subst c142
                    have H1 : (if x7_3 = true then (if x8_33 = true then (some false) else (some false)) else (some false)) = some r := by rw [if_pos rfl] at H; exact H
                    clear H
                    have H := H1
                    clear H1
                    by_cases c143 : x7_3 = true
                    · subst c143
                      have H1 : (if x8_33 = true then (some false) else (some false)) = some r := by rw [if_pos rfl] at H; exact H
                      clear H
                      have H := H1
                      clear H1
                      by_cases c144 : x8_33 = true
                      · subst c144
                        have H1 : (some false) = some r := by rw [if_pos rfl] at H; exact H
                        clear H
                        have H := H1
                        clear H1
                        obtain rfl := Option.some.inj H
                        go_wp2_with (first | (go_at_call 19; (with_reducible refine (path_Base.calls (⟨#[97, 47, 98]⟩ : ByteArray) t195 _ A57.out).mono ?_); rintro e w145 ⟨rfl, hb⟩; have n0_ := Aside0.mk (below_step (by repeat (first | (with_reducible first | exact HB.out | apply below_alloc | apply pw_below_drewN | apply below_drew1) | exact HB.out)) hb); clear HB; have HB := n0_; clear n0_; (try clear hb); (try clear hb2); (try clear hk); (try clear hi)) | ((with_reducible refine gate_callee (f := 8) rfl ?_); refine goesL_ (some 74) rfl rfl Try.func8 (by kernel_rfl) rfl #[] rfl (by (try simp only [List.map_toArray, List.map_cons, List.map_nil]); first | done | rfl | (simp only [List.length_drop, List.length_take]; rfl)) ?_; (with_reducible refine (satchellaw07_awake.calls kj33  true _ A141.out).mono ?_); rintro e w146 ⟨rfl, hb⟩; refine ⟨_, rfl, ?_⟩; have n0_ := Aside0.mk (below_step (by repeat (first | (with_reducible first | exact HB.out | apply below_alloc | apply pw_below_drewN | apply below_drew1) | exact HB.out)) hb); clear HB; have HB := n0_; clear n0_; (try clear hb); (try clear hb2); (try clear hk); (try clear hi)))
                        go_ret
                        exact ⟨by first | rfl | (simp [errW_none, errW_some] <;> rfl) | (simp [*, errW_none, errW_some] <;> rfl), by repeat (first | (with_reducible first | exact HB.out | apply below_alloc | apply pw_below_drewN | apply below_drew1) | exact HB.out)⟩
                      · replace c144 := Bool.eq_false_iff.mpr c144
                        subst c144
                        have H1 : (some false) = some r := by rw [if_neg (show ¬ (false = true) by decide)] at H; exact H
                        clear H
                        have H := H1
                        clear H1
                        obtain rfl := Option.some.inj H
                        go_wp2_with (first | (go_at_call 19; (with_reducible refine (path_Base.calls (⟨#[97, 47, 98]⟩ : ByteArray) t195 _ A57.out).mono ?_); rintro e w147 ⟨rfl, hb⟩; have n0_ := Aside0.mk (below_step (by repeat (first | (with_reducible first | exact HB.out | apply below_alloc | apply pw_below_drewN | apply below_drew1) | exact HB.out)) hb); clear HB; have HB := n0_; clear n0_; (try clear hb); (try clear hb2); (try clear hk); (try clear hi)) | ((with_reducible refine gate_callee (f := 8) rfl ?_); refine goesL_ (some 74) rfl rfl Try.func8 (by kernel_rfl) rfl #[] rfl (by (try simp only [List.map_toArray, List.map_cons, List.map_nil]); first | done | rfl | (simp only [List.length_drop, List.length_take]; rfl)) ?_; (with_reducible refine (satchellaw07_awake.calls kj33  true _ A141.out).mono ?_); rintro e w148 ⟨rfl, hb⟩; refine ⟨_, rfl, ?_⟩; have n0_ := Aside0.mk (below_step (by repeat (first | (with_reducible first | exact HB.out | apply below_alloc | apply pw_below_drewN | apply below_drew1) | exact HB.out)) hb); clear HB; have HB := n0_; clear n0_; (try clear hb); (try clear hb2); (try clear hk); (try clear hi)))
                        go_ret
                        exact ⟨by first | rfl | (simp [errW_none, errW_some] <;> rfl) | (simp [*, errW_none, errW_some] <;> rfl), by repeat (first | (with_reducible first | exact HB.out | apply below_alloc | apply pw_below_drewN | apply below_drew1) | exact HB.out)⟩
                    · replace c143 := Bool.eq_false_iff.mpr c143
                      subst c143
                      have H1 : (some false) = some r := by rw [if_neg (show ¬ (false = true) by decide)] at H; exact H
                      clear H
                      have H := H1
                      clear H1
                      obtain rfl := Option.some.inj H
                      go_wp2_with (first | (go_at_call 19; (with_reducible refine (path_Base.calls (⟨#[97, 47, 98]⟩ : ByteArray) t195 _ A57.out).mono ?_); rintro e w149 ⟨rfl, hb⟩; have n0_ := Aside0.mk (below_step (by repeat (first | (with_reducible first | exact HB.out | apply below_alloc | apply pw_below_drewN | apply below_drew1) | exact HB.out)) hb); clear HB; have HB := n0_; clear n0_; (try clear hb); (try clear hb2); (try clear hk); (try clear hi)) | ((with_reducible refine gate_callee (f := 8) rfl ?_); refine goesL_ (some 74) rfl rfl Try.func8 (by kernel_rfl) rfl #[] rfl (by (try simp only [List.map_toArray, List.map_cons, List.map_nil]); first | done | rfl | (simp only [List.length_drop, List.length_take]; rfl)) ?_; (with_reducible refine (satchellaw07_awake.calls kj33  true _ A141.out).mono ?_); rintro e w150 ⟨rfl, hb⟩; refine ⟨_, rfl, ?_⟩; have n0_ := Aside0.mk (below_step (by repeat (first | (with_reducible first | exact HB.out | apply below_alloc | apply pw_below_drewN | apply below_drew1) | exact HB.out)) hb); clear HB; have HB := n0_; clear n0_; (try clear hb); (try clear hb2); (try clear hk); (try clear hi)))
                      go_ret
                      exact ⟨by first | rfl | (simp [errW_none, errW_some] <;> rfl) | (simp [*, errW_none, errW_some] <;> rfl), by repeat (first | (with_reducible first | exact HB.out | apply below_alloc | apply pw_below_drewN | apply below_drew1) | exact HB.out)⟩
                  · replace c142 := Bool.eq_false_iff.mpr c142
                    subst c142
                    have H1 : (some false) = some r := by rw [if_neg (show ¬ (false = true) by decide)] at H; exact H
                    clear H
                    have H := H1
                    clear H1
                    obtain rfl := Option.some.inj H
                    go_wp2_with (first | (go_at_call 19; (with_reducible refine (path_Base.calls (⟨#[97, 47, 98]⟩ : ByteArray) t195 _ A57.out).mono ?_); rintro e w151 ⟨rfl, hb⟩; have n0_ := Aside0.mk (below_step (by repeat (first | (with_reducible first | exact HB.out | apply below_alloc | apply pw_below_drewN | apply below_drew1) | exact HB.out)) hb); clear HB; have HB := n0_; clear n0_; (try clear hb); (try clear hb2); (try clear hk); (try clear hi)) | ((with_reducible refine gate_callee (f := 8) rfl ?_); refine goesL_ (some 74) rfl rfl Try.func8 (by kernel_rfl) rfl #[] rfl (by (try simp only [List.map_toArray, List.map_cons, List.map_nil]); first | done | rfl | (simp only [List.length_drop, List.length_take]; rfl)) ?_; (with_reducible refine (satchellaw07_awake.calls kj33  false _ A141.out).mono ?_); rintro e w152 ⟨rfl, hb⟩; refine ⟨_, rfl, ?_⟩; have n0_ := Aside0.mk (below_step (by repeat (first | (with_reducible first | exact HB.out | apply below_alloc | apply pw_below_drewN | apply below_drew1) | exact HB.out)) hb); clear HB; have HB := n0_; clear n0_; (try clear hb); (try clear hb2); (try clear hk); (try clear hi)))
                    go_ret
                    exact ⟨by first | rfl | (simp [errW_none, errW_some] <;> rfl) | (simp [*, errW_none, errW_some] <;> rfl), by repeat (first | (with_reducible first | exact HB.out | apply below_alloc | apply pw_below_drewN | apply below_drew1) | exact HB.out)⟩
            · replace c47 := Bool.eq_false_iff.mpr c47
              subst c47
              have H1 : ((satchellaw07_awake.f kj33).bind fun t204 => (if t204 = true then (if x7_3 = true then (if x8_33 = true then (some false) else (some false)) else (some false)) else (some false))) = some r := by rw [if_neg (show ¬ (false = true) by decide)] at H; exact H
              clear H
              have H := H1
              clear H1
              replace H := Option.bind_eq_some_iff.mp H
              obtain ⟨t204, A1530, H⟩ := H
              replace H : (if t204 = true then (if x7_3 = true then (if x8_33 = true then (some false) else (some false)) else (some false)) else (some false)) = some r := H
              have A153 := Aside0.mk A1530
              clear A1530
              by_cases c154 : t204 = true
              · subst c154
                have H1 : (if x7_3 = true then (if x8_33 = true then (some false) else (some false)) else (some false)) = some r := by rw [if_pos rfl] at H; exact H
                clear H
                have H := H1
                clear H1
                by_cases c155 : x7_3 = true
                · subst c155
                  have H1 : (if x8_33 = true then (some false) else (some false)) = some r := by rw [if_pos rfl] at H; exact H
                  clear H
                  have H := H1
                  clear H1
                  by_cases c156 : x8_33 = true
                  · subst c156
                    have H1 : (some false) = some r := by rw [if_pos rfl] at H; exact H
                    clear H
                    have H := H1
                    clear H1
                    obtain rfl := Option.some.inj H
                    go_wp2_with (first | ((with_reducible refine gate_callee (f := 8) rfl ?_); refine goesL_ (some 74) rfl rfl Try.func8 (by kernel_rfl) rfl #[] rfl (by (try simp only [List.map_toArray, List.map_cons, List.map_nil]); first | done | rfl | (simp only [List.length_drop, List.length_take]; rfl)) ?_; (with_reducible refine (satchellaw07_awake.calls kj33  true _ A153.out).mono ?_); rintro e w157 ⟨rfl, hb⟩; refine ⟨_, rfl, ?_⟩; have n0_ := Aside0.mk (below_step (by repeat (first | (with_reducible first | exact HB.out | apply below_alloc | apply pw_below_drewN | apply below_drew1) | exact HB.out)) hb); clear HB; have HB := n0_; clear n0_; (try clear hb); (try clear hb2); (try clear hk); (try clear hi)))
                    go_ret
                    exact ⟨by first | rfl | (simp [errW_none, errW_some] <;> rfl) | (simp [*, errW_none, errW_some] <;> rfl), by repeat (first | (with_reducible first | exact HB.out | apply below_alloc | apply pw_below_drewN | apply below_drew1) | exact HB.out)⟩
                  · replace c156 := Bool.eq_false_iff.mpr c156
                    subst c156
                    have H1 : (some false) = some r := by rw [if_neg (show ¬ (false = true) by decide)] at H; exact H
                    clear H
                    have H := H1
                    clear H1
                    obtain rfl := Option.some.inj H
                    go_wp2_with (first | ((with_reducible refine gate_callee (f := 8) rfl ?_); refine goesL_ (some 74) rfl rfl Try.func8 (by kernel_rfl) rfl #[] rfl (by (try simp only [List.map_toArray, List.map_cons, List.map_nil]); first | done | rfl | (simp only [List.length_drop, List.length_take]; rfl)) ?_; (with_reducible refine (satchellaw07_awake.calls kj33  true _ A153.out).mono ?_); rintro e w158 ⟨rfl, hb⟩; refine ⟨_, rfl, ?_⟩; have n0_ := Aside0.mk (below_step (by repeat (first | (with_reducible first | exact HB.out | apply below_alloc | apply pw_below_drewN | apply below_drew1) | exact HB.out)) hb); clear HB; have HB := n0_; clear n0_; (try clear hb); (try clear hb2); (try clear hk); (try clear hi)))
                    go_ret
                    exact ⟨by first | rfl | (simp [errW_none, errW_some] <;> rfl) | (simp [*, errW_none, errW_some] <;> rfl), by repeat (first | (with_reducible first | exact HB.out | apply below_alloc | apply pw_below_drewN | apply below_drew1) | exact HB.out)⟩
                · replace c155 := Bool.eq_false_iff.mpr c155
                  subst c155
                  have H1 : (some false) = some r := by rw [if_neg (show ¬ (false = true) by decide)] at H; exact H
                  clear H
                  have H := H1
                  clear H1
                  obtain rfl := Option.some.inj H
                  go_wp2_with (first | ((with_reducible refine gate_callee (f := 8) rfl ?_); refine goesL_ (some 74) rfl rfl Try.func8 (by kernel_rfl) rfl #[] rfl (by (try simp only [List.map_toArray, List.map_cons, List.map_nil]); first | done | rfl | (simp only [List.length_drop, List.length_take]; rfl)) ?_; (with_reducible refine (satchellaw07_awake.calls kj33  true _ A153.out).mono ?_); rintro e w159 ⟨rfl, hb⟩; refine ⟨_, rfl, ?_⟩; have n0_ := Aside0.mk (below_step (by repeat (first | (with_reducible first | exact HB.out | apply below_alloc | apply pw_below_drewN | apply below_drew1) | exact HB.out)) hb); clear HB; have HB := n0_; clear n0_; (try clear hb); (try clear hb2); (try clear hk); (try clear hi)))
                  go_ret
                  exact ⟨by first | rfl | (simp [errW_none, errW_some] <;> rfl) | (simp [*, errW_none, errW_some] <;> rfl), by repeat (first | (with_reducible first | exact HB.out | apply below_alloc | apply pw_below_drewN | apply below_drew1) | exact HB.out)⟩
              · replace c154 := Bool.eq_false_iff.mpr c154
                subst c154
                have H1 : (some false) = some r := by rw [if_neg (show ¬ (false = true) by decide)] at H; exact H
                clear H
                have H := H1
                clear H1
                obtain rfl := Option.some.inj H
                go_wp2_with (first | ((with_reducible refine gate_callee (f := 8) rfl ?_); refine goesL_ (some 74) rfl rfl Try.func8 (by kernel_rfl) rfl #[] rfl (by (try simp only [List.map_toArray, List.map_cons, List.map_nil]); first | done | rfl | (simp only [List.length_drop, List.length_take]; rfl)) ?_; (with_reducible refine (satchellaw07_awake.calls kj33  false _ A153.out).mono ?_); rintro e w160 ⟨rfl, hb⟩; refine ⟨_, rfl, ?_⟩; have n0_ := Aside0.mk (below_step (by repeat (first | (with_reducible first | exact HB.out | apply below_alloc | apply pw_below_drewN | apply below_drew1) | exact HB.out)) hb); clear HB; have HB := n0_; clear n0_; (try clear hb); (try clear hb2); (try clear hk); (try clear hi)))
                go_ret
                exact ⟨by first | rfl | (simp [errW_none, errW_some] <;> rfl) | (simp [*, errW_none, errW_some] <;> rfl), by repeat (first | (with_reducible first | exact HB.out | apply below_alloc | apply pw_below_drewN | apply below_drew1) | exact HB.out)⟩
          · rw [if_neg c46] at H
            have c46b0 : (t179.toList == ([97, 47, 98] : List UInt8)) = false := beq_eq_false_iff_ne.mpr c46
            have c46b1 : (t179.toList != ([97, 47, 98] : List UInt8)) = true := bne_iff_ne.mpr c46
            replace H := Option.bind_eq_some_iff.mp H
            obtain ⟨t205, A1610, H⟩ := H
            replace H : (if t205 = true then (if x7_3 = true then (if x8_33 = true then (some false) else (some false)) else (some false)) else (some false)) = some r := H
            have A161 := Aside0.mk A1610
            clear A1610
            by_cases c162 : t205 = true
            · subst c162
              have H1 : (if x7_3 = true then (if x8_33 = true then (some false) else (some false)) else (some false)) = some r := by rw [if_pos rfl] at H; exact H
              clear H
              have H := H1
              clear H1
              by_cases c163 : x7_3 = true
              · subst c163
                have H1 : (if x8_33 = true then (some false) else (some false)) = some r := by rw [if_pos rfl] at H; exact H
                clear H
                have H := H1
                clear H1
                by_cases c164 : x8_33 = true
                · subst c164
                  have H1 : (some false) = some r := by rw [if_pos rfl] at H; exact H
                  clear H
                  have H := H1
                  clear H1
                  obtain rfl := Option.some.inj H
                  go_wp2_with (first | ((with_reducible refine gate_callee (f := 8) rfl ?_); refine goesL_ (some 74) rfl rfl Try.func8 (by kernel_rfl) rfl #[] rfl (by (try simp only [List.map_toArray, List.map_cons, List.map_nil]); first | done | rfl | (simp only [List.length_drop, List.length_take]; rfl)) ?_; (with_reducible refine (satchellaw07_awake.calls kj33  true _ A161.out).mono ?_); rintro e w165 ⟨rfl, hb⟩; refine ⟨_, rfl, ?_⟩; have n0_ := Aside0.mk (below_step (by repeat (first | (with_reducible first | exact HB.out | apply below_alloc | apply pw_below_drewN | apply below_drew1) | exact HB.out)) hb); clear HB; have HB := n0_; clear n0_; (try clear hb); (try clear hb2); (try clear hk); (try clear hi)))
                  go_ret
                  exact ⟨by first | rfl | (simp [errW_none, errW_some] <;> rfl) | (simp [*, errW_none, errW_some] <;> rfl), by repeat (first | (with_reducible first | exact HB.out | apply below_alloc | apply pw_below_drewN | apply below_drew1) | exact HB.out)⟩
                · replace c164 := Bool.eq_false_iff.mpr c164
                  subst c164
                  have H1 : (some false) = some r := by rw [if_neg (show ¬ (false = true) by decide)] at H; exact H
                  clear H
                  have H := H1
                  clear H1
                  obtain rfl := Option.some.inj H
                  go_wp2_with (first | ((with_reducible refine gate_callee (f := 8) rfl ?_); refine goesL_ (some 74) rfl rfl Try.func8 (by kernel_rfl) rfl #[] rfl (by (try simp only [List.map_toArray, List.map_cons, List.map_nil]); first | done | rfl | (simp only [List.length_drop, List.length_take]; rfl)) ?_; (with_reducible refine (satchellaw07_awake.calls kj33  true _ A161.out).mono ?_); rintro e w166 ⟨rfl, hb⟩; refine ⟨_, rfl, ?_⟩; have n0_ := Aside0.mk (below_step (by repeat (first | (with_reducible first | exact HB.out | apply below_alloc | apply pw_below_drewN | apply below_drew1) | exact HB.out)) hb); clear HB; have HB := n0_; clear n0_; (try clear hb); (try clear hb2); (try clear hk); (try clear hi)))
                  go_ret
                  exact ⟨by first | rfl | (simp [errW_none, errW_some] <;> rfl) | (simp [*, errW_none, errW_some] <;> rfl), by repeat (first | (with_reducible first | exact HB.out | apply below_alloc | apply pw_below_drewN | apply below_drew1) | exact HB.out)⟩
              · replace c163 := Bool.eq_false_iff.mpr c163
                subst c163
                have H1 : (some false) = some r := by rw [if_neg (show ¬ (false = true) by decide)] at H; exact H
                clear H
                have H := H1
                clear H1
                obtain rfl := Option.some.inj H
                go_wp2_with (first | ((with_reducible refine gate_callee (f := 8) rfl ?_); refine goesL_ (some 74) rfl rfl Try.func8 (by kernel_rfl) rfl #[] rfl (by (try simp only [List.map_toArray, List.map_cons, List.map_nil]); first | done | rfl | (simp only [List.length_drop, List.length_take]; rfl)) ?_; (with_reducible refine (satchellaw07_awake.calls kj33  true _ A161.out).mono ?_); rintro e w167 ⟨rfl, hb⟩; refine ⟨_, rfl, ?_⟩; have n0_ := Aside0.mk (below_step (by repeat (first | (with_reducible first | exact HB.out | apply below_alloc | apply pw_below_drewN | apply below_drew1) | exact HB.out)) hb); clear HB; have HB := n0_; clear n0_; (try clear hb); (try clear hb2); (try clear hk); (try clear hi)))
                go_ret
                exact ⟨by first | rfl | (simp [errW_none, errW_some] <;> rfl) | (simp [*, errW_none, errW_some] <;> rfl), by repeat (first | (with_reducible first | exact HB.out | apply below_alloc | apply pw_below_drewN | apply below_drew1) | exact HB.out)⟩
            · replace c162 := Bool.eq_false_iff.mpr c162
              subst c162
              have H1 : (some false) = some r := by rw [if_neg (show ¬ (false = true) by decide)] at H; exact H
              clear H
              have H := H1
              clear H1
              obtain rfl := Option.some.inj H
              go_wp2_with (first | ((with_reducible refine gate_callee (f := 8) rfl ?_); refine goesL_ (some 74) rfl rfl Try.func8 (by kernel_rfl) rfl #[] rfl (by (try simp only [List.map_toArray, List.map_cons, List.map_nil]); first | done | rfl | (simp only [List.length_drop, List.length_take]; rfl)) ?_; (with_reducible refine (satchellaw07_awake.calls kj33  false _ A161.out).mono ?_); rintro e w168 ⟨rfl, hb⟩; refine ⟨_, rfl, ?_⟩; have n0_ := Aside0.mk (below_step (by repeat (first | (with_reducible first | exact HB.out | apply below_alloc | apply pw_below_drewN | apply below_drew1) | exact HB.out)) hb); clear HB; have HB := n0_; clear n0_; (try clear hb); (try clear hb2); (try clear hk); (try clear hi)))
              go_ret
              exact ⟨by first | rfl | (simp [errW_none, errW_some] <;> rfl) | (simp [*, errW_none, errW_some] <;> rfl), by repeat (first | (with_reducible first | exact HB.out | apply below_alloc | apply pw_below_drewN | apply below_drew1) | exact HB.out)⟩

/-- THE ONE PURE STATEMENT of satchellaw07_PathKnown: yours. -/
def satchellaw07_PathKnown.Pure : Prop := ∃ k, satchellaw07_PathKnown.f k  = some true
theorem satchellaw07_PathKnown.walk (P : satchellaw07_PathKnown.Pure)  (w : World)  :
    Calls Try.prog 6 #[] w fun e w' => e = .returned (.bool true) ∧ Below w.heap.size w w' := by
  obtain ⟨k, h⟩ := P  
  refine (satchellaw07_PathKnown.calls k  true w h).mono ?_
  rintro e w' ⟨rfl, hd⟩
  exact ⟨rfl, hd⟩

end Go.Proofs.Ytigldoicijfhoaa.XB
