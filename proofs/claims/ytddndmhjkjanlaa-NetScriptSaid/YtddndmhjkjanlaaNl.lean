/- The net's Cut. Conditions: the net holds what its word says. -/
import Derived.Test.YtddndmhjkjanlaaNk
namespace Go.Proofs.Ytddndmhjkjanlaa
open Go.RowKit Go.Shelf

variable {w : World} {bn bm : Nat} {L : List Nd} {K : List (Int × Int)} {lost : Int}

theorem below_of_drew {w w1 : World} (h : Below w.drew.heap.size w.drew w1) : Below w.heap.size w w1 := ⟨h.os, h.tape, h.output, h.size, h.block⟩
theorem net_cuts {o : Obj} {K' : List (Int × Int)} (h : NetAt w bn bm L K lost) (hc : CutsAt (w.putObj bm o) bm K') : NetAt (w.putObj bm o) bn bm L K' lost := by
  have hnd := h.apart
  rw [blocks_eq] at hnd
  have hne : ∀ k, k ≠ bm → (w.putObj bm o).heap[k]? = w.heap[k]? := fun k hk => World.putObj_heap_other hk
  refine ⟨(hne bn ?_).trans h.head, h.chain.kept (fun k hk => hne k ?_), hc, h.apart⟩
  · rintro rfl
    exact (List.nodup_cons.1 hnd).1 (by simp)
  · rintro rfl
    exact (List.nodup_cons.1 (List.nodup_cons.1 hnd).2).1 hk

set_option maxRecDepth 100000 in
set_option maxHeartbeats 1000000 in
theorem cut_arg (h : NetAt w bn bm L K lost) (a b : Int) (is : Bool) (he : (endB a && endB b) = false) :
    Calls Try.prog 18 #[.pointer (some ⟨bn, 0, none⟩), .int .i64 a, .int .i64 b, .bool is] w fun e w' => e = .returned (.int .i64 2) ∧ w = w' := by
  have c0 := h.cell0
  cases ha : endB a with
  | false =>
    go_enter Try.func18, Try.ntmps18
    go_wp2_with (first | (go_at_call 31; refine (none_made _ true _ c0).mono ?_; rintro e w' ⟨rfl, rfl⟩) | (go_at_call 32; refine (end_any _ _).mono ?_; rintro e w' ⟨rfl, rfl⟩))
    go_ret
    exact ⟨rfl, rfl⟩
  | true =>
    have hb : endB b = false := by rw [ha] at he; simpa using he
    clear he
    go_enter Try.func18, Try.ntmps18
    go_wp2_with (first | (go_at_call 31; refine (none_made _ true _ c0).mono ?_; rintro e w' ⟨rfl, rfl⟩) | (go_at_call 32; refine (end_any _ _).mono ?_; rintro e w' ⟨rfl, rfl⟩))
    go_ret
    exact ⟨rfl, rfl⟩

set_option maxRecDepth 100000 in
set_option maxHeartbeats 1000000 in
theorem cut_join (h : NetAt w bn bm L K lost) (a b : Int) (ha : endB a = true) (hb : endB b = true) :
    Calls Try.prog 18 #[.pointer (some ⟨bn, 0, none⟩), .int .i64 a, .int .i64 b, .bool false] w fun e w' => e = .returned (.int .i64 0) ∧ Step w w' bn bm L L (K.filter (· != mk a b)) lost := by
  have c0 := h.cell0
  obtain ⟨o, ho⟩ := delete_all h.cuts (mk a b)
  have HO := Lib.hid ho
  clear ho
  have c6 := h.cell6
  have hbn := h.lt bn (by simp [blocks])
  have hbm := h.lt bm (by simp [blocks])
  go_enter Try.func18, Try.ntmps18
  go_wp2_with (first | (go_at_call 31; refine (none_made _ true _ c0).mono ?_; rintro e w' ⟨rfl, rfl⟩) | (go_at_call 32; refine (end_any _ _).mono ?_; rintro e w' ⟨rfl, rfl⟩))
  go_region_with ((go_at_call 39; refine (pair_any a b _).mono ?_; rintro e w1 ⟨rfl, hb1⟩; have hb2 : Below w.heap.size w w1 := below_of_drew hb1; have c6' := (hb2.cell (p := ⟨bn, 6, none⟩) hbn).trans c6; have hd := fun ty => (HO.out w1 ty (hb2.block bm hbm)).1))
  all_goals go_wp2
  all_goals
    go_ret
    have h1 : NetAt w1 bn bm L K lost := h.upd (S := fun _ => False) (Upd.of_below hb2) (fun _ _ h => h)
    exact ⟨rfl, net_cuts h1 (HO.out w1 0 (hb2.block bm hbm)).2, (Upd.of_below hb2).putObj (.inl (by simp [blocks])) _, fun _ h => .inl h⟩

set_option maxRecDepth 100000 in
set_option maxHeartbeats 2000000 in
theorem cut_cut (h : NetAt w bn bm L K lost) (a b : Int) (ha : endB a = true) (hb : endB b = true) :
    Calls Try.prog 18 #[.pointer (some ⟨bn, 0, none⟩), .int .i64 a, .int .i64 b, .bool true] w fun e w' => e = .returned (.int .i64 0) ∧ Step w w' bn bm L L (K.filter (· != mk a b) ++ [mk a b]) lost := by
  have c0 := h.cell0
  obtain ⟨o, ho⟩ := delete_all h.cuts (mk a b)
  have HO := Lib.hid ho
  clear ho
  have c6 := h.cell6
  have hbn := h.lt bn (by simp [blocks])
  have hbm := h.lt bm (by simp [blocks])
  go_enter Try.func18, Try.ntmps18
  go_wp2_with (first | (go_at_call 31; refine (none_made _ true _ c0).mono ?_; rintro e w' ⟨rfl, rfl⟩) | (go_at_call 32; refine (end_any _ _).mono ?_; rintro e w' ⟨rfl, rfl⟩))
  go_region_with ((go_at_call 39; refine (pair_any a b _).mono ?_; rintro e w1 ⟨rfl, hb1⟩; have hb2 : Below w.heap.size w w1 := below_of_drew hb1; have c6' := (hb2.cell (p := ⟨bn, 6, none⟩) hbn).trans c6; have hd := fun ty => (HO.out w1 ty (hb2.block bm hbm)).1))
  all_goals go_wp2
  all_goals
    have h1 : NetAt w1 bn bm L K lost := h.upd (S := fun _ => False) (Upd.of_below hb2) (fun _ _ h => h)
    have h2 := net_cuts h1 (HO.out w1 0 (hb2.block bm hbm)).2
    have hu2 : Upd (· ∈ blocks bn bm L) w (w1.putObj bm o) := (Upd.of_below hb2).putObj (.inl (by simp [blocks])) _
    obtain ⟨o2, ho2⟩ := update_all h2.cuts (mk a b) (by simp)
    have HO2 := Lib.hid ho2
    have k6 := h2.cell6
    have kbn := h2.lt bn (by simp [blocks])
    have kbm := h2.lt bm (by simp [blocks])
    clear ho2 c6' hd c6 c0
    generalize hW2 : w1.putObj bm o = w2 at *
    clear hW2
    go_region_with ((go_at_call 39; refine (pair_any a b _).mono ?_; rintro e w3 ⟨rfl, hb3⟩; have hb4 : Below w2.heap.size w2 w3 := below_of_drew hb3; have k6' := (hb4.cell (p := ⟨bn, 6, none⟩) kbn).trans k6; have hd := (HO2.out w3 (hb4.block bm kbm)).1))
    all_goals go_wp2
    all_goals
      go_ret
      have h3 : NetAt w3 bn bm L (K.filter (· != mk a b)) lost := h2.upd (S := fun _ => False) (Upd.of_below hb4) (fun _ _ h => h)
      exact ⟨rfl, net_cuts h3 (HO2.out w3 (hb4.block bm kbm)).2, (hu2.trans ((Upd.of_below hb4).mono (fun _ _ h => h))).putObj (.inl (by simp [blocks])) _, fun _ h => .inl h⟩
end Go.Proofs.Ytddndmhjkjanlaa
