/- The net's Drop, Copy, Lost. Conditions: the net holds what its word says; at most 10^6 datagrams, losses, bytes. -/
import Derived.Test.YtddndmhjkjanlaaNj
namespace Go.Proofs.Ytddndmhjkjanlaa
open Go.RowKit Go.Shelf

variable {w : World} {bn bm : Nat} {L : List Nd} {K : List (Int × Int)} {lost : Int}

theorem Step.more {w w' w'' : World} {L L' : List Nd} {l : Int} (h : Step w w' bn bm L L' K l) (hu : Upd (fun _ => False) w' w'') : Step w w'' bn bm L L' K l :=
  ⟨h.net.upd hu (fun _ _ h => h), h.upd.trans (hu.mono (fun _ _ h => h.elim)), h.sub⟩
theorem Step.then_lost {w w' : World} {L L' : List Nd} {l : Int} (h : Step w w' bn bm L L' K l) (l' : Int) : Step w (w'.setCell ⟨bn, 7, none⟩ (.int .i64 l')) bn bm L L' K l' :=
  ⟨net_lost h.net l', h.upd.setCell (p := ⟨bn, 7, none⟩) (.inl (by simp [blocks])) _, h.sub⟩

set_option maxRecDepth 100000 in
set_option maxHeartbeats 1000000 in
theorem drop_no (h : NetAt w bn bm L K lost) (i : Int) (hi : i < 0 ∨ (L.length : Int) ≤ i) :
    Calls Try.prog 23 #[.pointer (some ⟨bn, 0, none⟩), .int .i64 i] w fun e w' => e = .returned (.int .i64 6) ∧ Step w w' bn bm L L K lost := by
  go_enter Try.func23, Try.ntmps23
  go_wp2_with fail
  refine (take_no h i hi).mono ?_
  rintro e w1 ⟨rfl, hs⟩
  unfold zeroD
  go_wp2
  go_ret
  exact ⟨rfl, hs.more ((Upd.refl _ _).alloc _)⟩
set_option maxRecDepth 100000 in
set_option maxHeartbeats 1000000 in
theorem drop_yes {L1 L2 : List Nd} {nd : Nd} (h : NetAt w bn bm (L1 ++ nd :: L2) K lost) (hL : (L1 ++ nd :: L2).length ≤ 1000000) (hl0 : 0 ≤ lost) (hl : lost ≤ 1000000) :
    Calls Try.prog 23 #[.pointer (some ⟨bn, 0, none⟩), .int .i64 (L1.length : Int)] w fun e w' => e = .returned (.int .i64 0) ∧ Step w w' bn bm (L1 ++ nd :: L2) (L1 ++ L2) K (lost + 1) := by
  obtain ⟨A, cp, hvv⟩ := (Chain.mid (L1 := L1) h.chain).2.form
  have HV := Lib.hid hvv
  clear hvv
  go_enter Try.func23, Try.ntmps23
  go_wp2_with fail
  refine (take_yes h hL).mono ?_
  rintro e w1 ⟨rfl, hs, _⟩
  rw [HV.out]
  have h3 : NetAt (w1.alloc (.cells #[.int .i64 nd.f, .int .i64 nd.t, .slice A nd.xs.length cp] 28)) bn bm (L1 ++ L2) K lost := hs.net.upd (S := fun _ => False) ((Upd.refl _ _).alloc _) (fun _ _ h => h)
  have c7 := h3.cell7
  have f7 := frozen_of h3.head 7
  have hbn := hs.net.lt bn (by simp [blocks])
  have c7' := hs.net.cell7
  have f7' := frozen_of hs.net.head 7
  go_wp2
  go_ret
  refine ⟨rfl, ?_⟩
  exact (hs.then_lost (lost + 1)).more ((Upd.refl _ _).alloc _)
set_option maxRecDepth 100000 in
set_option maxHeartbeats 1000000 in
theorem lost_any (h : NetAt w bn bm L K lost) : Calls Try.prog 20 #[.pointer (some ⟨bn, 0, none⟩)] w fun e w' => e = .returned (.int .i64 lost) ∧ w = w' := by
  have c0 := h.cell0
  have c7 := h.cell7
  go_enter Try.func20, Try.ntmps20
  go_wp2_with (first | (go_at_call 31; refine (none_made _ true _ c0).mono ?_; rintro e w' ⟨rfl, rfl⟩))
  go_ret
  exact ⟨rfl, rfl⟩
set_option maxRecDepth 100000 in
set_option maxHeartbeats 1000000 in
theorem copy_no (h : NetAt w bn bm L K lost) (i : Int) (hi : i < 0 ∨ (L.length : Int) ≤ i) :
    Calls Try.prog 29 #[.pointer (some ⟨bn, 0, none⟩), .int .i64 i] w fun e w' => e = .returned (.int .i64 6) ∧ Step w w' bn bm L L K lost := by
  have c0 := h.cell0
  go_enter Try.func29, Try.ntmps29
  go_wp2_with (first | (go_at_call 31; refine (none_made _ true _ c0).mono ?_; rintro e w' ⟨rfl, rfl⟩) | (go_at_call 38; refine (at_no h i hi).mono ?_; rintro e w' ⟨rfl, hb1⟩))
  go_ret
  exact ⟨rfl, Step.same h (by assumption)⟩
set_option maxRecDepth 100000 in
set_option maxHeartbeats 1000000 in
theorem copy_full (h : NetAt w bn bm L K lost) (i : Nat) (hi : i < L.length) (hL : L.length ≤ 1000000) (hf : 2000 ≤ L.length) :
    Calls Try.prog 29 #[.pointer (some ⟨bn, 0, none⟩), .int .i64 (i : Int)] w fun e w' => e = .returned (.int .i64 8) ∧ Step w w' bn bm L L K lost := by
  have c0 := h.cell0
  have hd2 : decide ((2000 : Int) ≤ (L.length : Int)) = true := by simp; omega
  go_enter Try.func29, Try.ntmps29
  go_wp2_with (first | (go_at_call 31; refine (none_made _ true _ c0).mono ?_; rintro e w' ⟨rfl, rfl⟩))
  refine (at_yes h i hi hL).mono ?_
  rintro e w1 ⟨rfl, hb1⟩
  have h2 : NetAt w1 bn bm L K lost := h.upd (S := fun _ => False) (Upd.of_below hb1) (fun _ _ h => h)
  have c5 := h2.cell5
  go_wp2
  go_ret
  exact ⟨rfl, Step.same h hb1⟩
set_option maxRecDepth 100000 in
set_option maxHeartbeats 1000000 in
theorem copy_yes {L1 L2 : List Nd} {nd : Nd} (h : NetAt w bn bm (L1 ++ nd :: L2) K lost) (hL : (L1 ++ nd :: L2).length < 2000) (hx : nd.xs.length ≤ 1000000) :
    Calls Try.prog 29 #[.pointer (some ⟨bn, 0, none⟩), .int .i64 (L1.length : Int)] w fun e w' => e = .returned (.int .i64 0) ∧ ∃ nd', vw nd' = vw nd ∧ Step w w' bn bm (L1 ++ nd :: L2) (L1 ++ nd :: L2 ++ [nd']) K lost := by
  have c0 := h.cell0
  obtain ⟨N, hNl⟩ : ∃ N : Int, N = ((L1 ++ nd :: L2).length : Int) := ⟨_, rfl⟩
  have hd2 : decide ((2000 : Int) ≤ N) = false := by
    rw [decide_eq_false_iff_not]; omega
  have HNL := Lib.hid hNl
  clear hNl
  go_enter Try.func29, Try.ntmps29
  go_wp2_with (first | (go_at_call 31; refine (none_made _ true _ c0).mono ?_; rintro e w' ⟨rfl, rfl⟩))
  refine (at_yes h L1.length (by simp) (by omega)).mono ?_
  rw [List.take_left' rfl]
  rintro e w1 ⟨rfl, hb1⟩
  have h2 : NetAt w1 bn bm (L1 ++ nd :: L2) K lost := h.upd (S := fun _ => False) (Upd.of_below hb1) (fun _ _ h => h)
  have c5 := h2.cell5
  rw [← HNL.out] at c5
  have hq := place_cell h2
  have hN := Chain.mid (L1 := L1) h2.chain
  have e0 : w1.cell? ⟨nd.b, 0, none⟩ = some (.int .i64 nd.f) := cell_of hN.1 0 rfl
  have e1 : w1.cell? ⟨nd.b, 1, none⟩ = some (.int .i64 nd.t) := cell_of hN.1 1 rfl
  have e2 : w1.cell? ⟨nd.b, 2, none⟩ = some nd.v := cell_of hN.1 2 rfl
  have hrb := hN.2.rb
  have hnx : nx (nd :: L2) = some ⟨nd.b, 0, none⟩ := rfl
  rw [hnx] at hq
  have HB := Lib.hid hb1
  clear hb1
  go_wp2_with fail
  refine (last_any bn bm (L1 ++ nd :: L2) K lost nd.f nd.t _ nd.xs w1 h2 hrb hx (by omega)).mono ?_
  rintro e w2 ⟨rfl, nd', hnf, hnt, hnx', hN2, hU2, hnew⟩
  have HH := Lib.hid (And.intro hnf (And.intro hnt hnx'))
  clear hnf hnt hnx'
  go_wp2
  go_ret
  have hb := HB.out
  have hsz := hb.size
  refine ⟨rfl, nd', by obtain ⟨h1, h2, h3⟩ := HH.out; simp [vw, h1, h2, h3], hN2, (Upd.of_below hb).trans (hU2.mono (fun _ _ h => .inl h)), fun k hk => ?_⟩
  rw [blocks_eq, nodeBlocks_append] at hk
  rw [blocks_eq]
  simp only [List.mem_cons, List.mem_append] at hk ⊢
  rcases hk with rfl | rfl | hk | hk
  · exact .inl (.inl rfl)
  · exact .inl (.inr (.inl rfl))
  · exact .inl (.inr (.inr hk))
  · exact .inr (by have := hnew k hk; omega)
end Go.Proofs.Ytddndmhjkjanlaa
