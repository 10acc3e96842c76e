/- The net's Take and Drop. Conditions: the net holds what its word says; at most 10^6 datagrams, losses. -/
import Derived.Test.YtddndmhjkjanlaaNi
namespace Go.Proofs.Ytddndmhjkjanlaa
open Go.RowKit Go.Shelf

theorem Chain.mid {w : World} : ∀ {L1 : List Nd} {nd : Nd} {L2 : List Nd}, Chain w (L1 ++ nd :: L2) → NodeAt w nd (nx L2)
  | [], _, _, h => h.1
  | _ :: r, _, _, h => Chain.mid (L1 := r) h.2
/-- What the next place behind L1 holds. -/
theorem place_cell {w : World} {bn bm : Nat} {L1 L2 : List Nd} {K : List (Int × Int)} {lost : Int} (h : NetAt w bn bm (L1 ++ L2) K lost) : w.cell? ⟨(place bn L1).1, (place bn L1).2 + 3, none⟩ = some (.pointer (nx L2)) := by
  rcases List.eq_nil_or_concat L1 with rfl | ⟨L0, nd, rfl⟩
  · exact cell_of h.head 4 rfl
  · rw [List.concat_eq_append, place_snoc]
    have hc := h.chain
    rw [List.concat_eq_append, List.append_assoc] at hc
    have := (Chain.mid (L1 := L0) hc).next
    exact this
theorem place_mem (bn bm : Nat) (L1 L2 : List Nd) : (place bn L1).1 ∈ blocks bn bm (L1 ++ L2) := by
  have := place_in bn L1
  rw [blocks_eq, nodeBlocks_append]
  simp only [List.mem_cons, List.mem_append] at this ⊢
  exact this.elim .inl (fun h => .inr (.inr (.inl h)))
theorem node_mem (bn bm : Nat) (L1 : List Nd) (nd : Nd) (L2 : List Nd) : nd.b ∈ blocks bn bm (L1 ++ nd :: L2) := by
  rw [blocks_eq, nodeBlocks_append, nodeBlocks_cons]; simp
theorem place_ne_node {w : World} {bn bm : Nat} {L1 L2 : List Nd} {nd : Nd} {K : List (Int × Int)} {lost : Int} (h : NetAt w bn bm (L1 ++ nd :: L2) K lost) : (place bn L1).1 ≠ nd.b ∧ bn ≠ nd.b := by
  have hnd := h.apart
  rw [blocks_eq, nodeBlocks_append, nodeBlocks_cons] at hnd
  have h1 := List.nodup_cons.1 hnd
  have hb : bn ≠ nd.b := fun e => h1.1 (by rw [e]; simp)
  refine ⟨fun e => ?_, hb⟩
  have h2 := place_in bn L1
  rw [e] at h2
  rcases List.mem_cons.1 h2 with e2 | h2
  · exact hb e2.symm
  · have h3 := (List.nodup_cons.1 h1.2).2
    rw [List.nodup_append] at h3
    exact h3.2.2 _ h2 _ (by simp) rfl
theorem place5 {w : World} {bn bm : Nat} {L1 L2 : List Nd} {K : List (Int × Int)} {lost : Int} (h : NetAt w bn bm (L1 ++ L2) K lost) : ¬ ((place bn L1).1 = bn ∧ (place bn L1).2 + 3 = 5) := by
  rintro ⟨h1, h2⟩
  rcases List.eq_nil_or_concat L1 with rfl | ⟨L0, nd, rfl⟩
  · rw [place_nil] at h2; omega
  · rw [List.concat_eq_append, place_snoc] at h2; omega

/-- A node is taken out of the list, and the count is one less. -/
theorem net_remove {w : World} {bn bm : Nat} {L1 L2 : List Nd} {nd : Nd} {K : List (Int × Int)} {lost : Int} {q : Nat × Nat} (h : NetAt w bn bm (L1 ++ nd :: L2) K lost) (hq : q = place bn L1) (n : Int) (hn : n = ((L1 ++ L2).length : Int)) :
    NetAt ((w.setCell ⟨q.1, q.2 + 3, none⟩ (.pointer (nx L2))).setCell ⟨bn, 5, none⟩ (.int .i64 n)) bn bm (L1 ++ L2) K lost := by
  subst hq
  have hnd : (bn :: bm :: nodeBlocks (L1 ++ L2)).Nodup := by
    have := h.apart
    rw [blocks_eq, nodeBlocks_append, nodeBlocks_cons] at this
    refine this.sublist ?_
    rw [nodeBlocks_append]
    refine List.Sublist.cons_cons _ (List.Sublist.cons_cons _ (List.Sublist.append_left ?_ _))
    exact ((List.sublist_append_right _ _).cons _)
  obtain ⟨r1, r2, r3, r4⟩ := net_relink (L1 := L1) (L2 := nd :: L2) (M := L2) h.head h.chain (Chain.append_left (L := L1) h.chain).2 hnd rfl
  refine ⟨?_, r2.kept (fun k hk => heap_far _ _ _ ?_), ?_, hnd⟩
  · rw [heap_set r1, hn]
    simp [headCells]
  · rintro rfl
    exact (List.nodup_cons.1 hnd).1 (by simp only [List.mem_cons]; exact .inr hk)
  · have hbm : bm ≠ bn := by
      rintro rfl
      exact (List.nodup_cons.1 hnd).1 (by simp)
    have hbq : bm ≠ (place bn L1).1 := by
      intro e
      rw [← e] at r4
      rcases List.mem_cons.1 r4 with e | h4
      · exact hbm e
      · exact (List.nodup_cons.1 (List.nodup_cons.1 hnd).2).1 (by rw [nodeBlocks_append]; simp [h4])
    exact h.cuts.kept ((heap_far _ _ _ hbm).trans (r3 _ hbq))

variable {w : World} {bn bm : Nat} {L : List Nd} {K : List (Int × Int)} {lost : Int}
def zeroD : Value := .agg #[.int .i64 0, .int .i64 0, .slice none 0 0]

set_option maxRecDepth 100000 in
set_option maxHeartbeats 1000000 in
theorem take_no (h : NetAt w bn bm L K lost) (i : Int) (hi : i < 0 ∨ (L.length : Int) ≤ i) :
    Calls Try.prog 24 #[.pointer (some ⟨bn, 0, none⟩), .int .i64 i] w fun e w' => e = .returned (.tuple #[zeroD, .int .i64 6]) ∧ Step w w' bn bm L L K lost := by
  have hbn := h.lt bn (by simp [blocks])
  have h1 : NetAt (w.alloc (.cells #[.int .i64 0, .int .i64 0, .slice none 0 0] 28)) bn bm L K lost := h.upd (S := fun _ => False) ((Upd.refl _ _).alloc _) (fun _ _ h => h)
  have c0 := h1.cell0
  have hblk := Lib.hid (heap_alloc_new w (.cells #[.int .i64 0, .int .i64 0, .slice none 0 0] 28))
  go_enter Try.func24, Try.ntmps24
  go_wp2_with (first | (go_at_call 31; refine (none_made _ true _ c0).mono ?_; rintro e w' ⟨rfl, rfl⟩))
  refine (at_no h1 i hi).mono ?_
  rintro e w1 ⟨rfl, hb1⟩
  have hb2 : Below w.heap.size w w1 := ((Below.refl _ _).alloc (Nat.le_refl _) _).trans (hb1.mono (by simp))
  have k0 := (hb1.block w.heap.size (by simp)).trans hblk.out
  have d0 : w1.cell? ⟨w.heap.size, 0, none⟩ = some (.int .i64 0) := cell_of k0 0 rfl
  have d1 : w1.cell? ⟨w.heap.size, 1, none⟩ = some (.int .i64 0) := cell_of k0 1 rfl
  have d2 : w1.cell? ⟨w.heap.size, 2, none⟩ = some (.slice none 0 0) := cell_of k0 2 rfl
  have f0 := frozen_of k0 0
  have f1 := frozen_of k0 1
  have f2 := frozen_of k0 2
  have HB := Lib.hid hb2
  clear k0 hb1 hb2
  go_wp2
  refine bodyPost_ret (v := .tuple #[zeroD, .int .i64 6]) (by simp [results, Try.f24, go_sem, zeroD, d0, d1, d2]) rfl ⟨rfl, ?_⟩
  have hb := HB.out
  exact Step.same h (((hb.setCell (p := ⟨w.heap.size, 0, none⟩) (Nat.le_refl _) _).setCell (p := ⟨w.heap.size, 1, none⟩) (Nat.le_refl _) _).setCell (p := ⟨w.heap.size, 2, none⟩) (Nat.le_refl _) _)

set_option maxRecDepth 100000 in
set_option maxHeartbeats 1000000 in
theorem take_yes {L1 L2 : List Nd} {nd : Nd} (h : NetAt w bn bm (L1 ++ nd :: L2) K lost) (hL : (L1 ++ nd :: L2).length ≤ 1000000) :
    Calls Try.prog 24 #[.pointer (some ⟨bn, 0, none⟩), .int .i64 (L1.length : Int)] w fun e w' => e = .returned (.tuple #[.agg #[.int .i64 nd.f, .int .i64 nd.t, nd.v], .int .i64 0]) ∧ Step w w' bn bm (L1 ++ nd :: L2) (L1 ++ L2) K lost ∧ OB w' 0 nd.v nd.xs := by
  obtain ⟨A, cp, hvv⟩ := (Chain.mid (L1 := L1) h.chain).2.form
  obtain ⟨b, f, t, v, xs⟩ := nd
  dsimp only at hvv
  subst hvv
  have hbn := h.lt bn (by simp [blocks])
  have h1 : NetAt (w.alloc (.cells #[.int .i64 0, .int .i64 0, .slice none 0 0] 28)) bn bm (L1 ++ ⟨b, f, t, .slice A xs.length cp, xs⟩ :: L2) K lost := h.upd (S := fun _ => False) ((Upd.refl _ _).alloc _) (fun _ _ h => h)
  have c0 := h1.cell0
  have hblk := Lib.hid (heap_alloc_new w (.cells #[.int .i64 0, .int .i64 0, .slice none 0 0] 28))
  go_enter Try.func24, Try.ntmps24
  go_wp2_with (first | (go_at_call 31; refine (none_made _ true _ c0).mono ?_; rintro e w' ⟨rfl, rfl⟩))
  refine (at_yes h1 L1.length (by simp) hL).mono ?_
  rw [List.take_left' rfl]
  rintro e w1 ⟨rfl, hb1⟩
  have h2 : NetAt w1 bn bm (L1 ++ ⟨b, f, t, .slice A xs.length cp, xs⟩ :: L2) K lost := h1.upd (S := fun _ => False) (Upd.of_below hb1) (fun _ _ h => h)
  have hb2 : Below w.heap.size w w1 := ((Below.refl _ _).alloc (Nat.le_refl _) _).trans (hb1.mono (by simp))
  have k0 := (hb1.block w.heap.size (by simp)).trans hblk.out
  have d0 : w1.cell? ⟨w.heap.size, 0, none⟩ = some (.int .i64 0) := cell_of k0 0 rfl
  have d1 : w1.cell? ⟨w.heap.size, 1, none⟩ = some (.int .i64 0) := cell_of k0 1 rfl
  have d2 : w1.cell? ⟨w.heap.size, 2, none⟩ = some (.slice none 0 0) := cell_of k0 2 rfl
  have f0 := frozen_of k0 0
  have f1 := frozen_of k0 1
  have f2 := frozen_of k0 2
  have hq := place_cell h2
  have fq := place_frozen h2 ((place bn L1).2 + 3)
  have hd5 := place5 h2
  have hpn := place_ne_node h2
  have hpm := h.lt _ (place_mem bn bm L1 (⟨b, f, t, .slice A xs.length cp, xs⟩ :: L2))
  have hnm : b < w.heap.size := h.lt _ (node_mem bn bm L1 ⟨b, f, t, .slice A xs.length cp, xs⟩ L2)
  have hN := Chain.mid (L1 := L1) h2.chain
  have e0 : w1.cell? ⟨b, 0, none⟩ = some (.int .i64 f) := cell_of hN.1 0 rfl
  have e1 : w1.cell? ⟨b, 1, none⟩ = some (.int .i64 t) := cell_of hN.1 1 rfl
  have e2 : w1.cell? ⟨b, 2, none⟩ = some (.slice A xs.length cp) := cell_of hN.1 2 rfl
  have e3 : w1.cell? ⟨b, 3, none⟩ = some (.pointer (nx L2)) := cell_of hN.1 3 rfl
  have c5 := h2.cell5
  have f5 := frozen_of h2.head 5
  have hnx : nx (⟨b, f, t, .slice A xs.length cp, xs⟩ :: L2) = some ⟨b, 0, none⟩ := rfl
  rw [hnx] at hq
  obtain ⟨⟨q1, q2⟩, hQ⟩ : ∃ q, q = place bn L1 := ⟨_, rfl⟩
  rw [← hQ] at hq fq hd5 hpn hpm ⊢
  dsimp only at hq fq hd5 hpn hpm ⊢
  obtain ⟨hpn1, hpn2⟩ := hpn
  have hsz : w.heap.size < w1.heap.size := by have := hb1.size; simp at this; omega
  have b1 : q1 < w1.heap.size := by omega
  have b2 : b < w1.heap.size := by omega
  have b3 : bn < w1.heap.size := by omega
  have n1 : ¬ q1 = w.heap.size := by omega
  have n2 : ¬ w.heap.size = q1 := by omega
  have n3 : ¬ bn = w.heap.size := by omega
  have n4 : ¬ w.heap.size = bn := by omega
  have n5 : ¬ b = q1 := fun e => hpn1 e.symm
  have cn2 : ∀ (W : World) (u : Value), (W.setCell ⟨q1, q2 + 3, none⟩ u).cell? ⟨bn, 5, none⟩ = W.cell? ⟨bn, 5, none⟩ := fun W u => World.cell?_setCell_other _ _ _ _ (by intro e; injection e with e1 e2; exact hd5 ⟨e1, e2⟩)
  have HB := Lib.hid hb2
  have HQ := Lib.hid hQ
  have hlen : (0 : Int) < ((L1 ++ ⟨b, f, t, .slice A xs.length cp, xs⟩ :: L2).length : Int) := by simp; omega
  have hlen2 : ((L1 ++ ⟨b, f, t, .slice A xs.length cp, xs⟩ :: L2).length : Int) ≤ 1000000 := by omega
  clear k0 hb1 hb2 hQ hd5
  go_wp2
  refine bodyPost_ret (v := .tuple #[.agg #[.int .i64 f, .int .i64 t, .slice A xs.length cp], .int .i64 0]) (by simp [results, Try.f24, go_sem, d0, d1, d2, n1, n2, n3, n4, hsz, size_setCell]) rfl ⟨rfl, ?_⟩
  have hwr : wrap64 ((L1.length : Int) + ((L2.length : Int) + 1) - 1) = ((L1 ++ L2).length : Int) := by
    have h3 : ((L1 ++ (⟨b, f, t, .slice A xs.length cp, xs⟩ : Nd) :: L2).length : Int) = (L1.length : Int) + ((L2.length : Int) + 1) := by simp
    have h4 : ((L1 ++ L2).length : Int) = (L1.length : Int) + (L2.length : Int) := by simp
    rw [h4]
    unfold wrap64
    omega
  have hb := HB.out
  have hrem := net_remove h2 HQ.out _ hwr
  dsimp only at hrem
  have hne : ∀ k, k < w.heap.size → ¬ (k = w.heap.size) := fun k h => by omega
  have hfin : ∀ W : World, NetAt W bn bm (L1 ++ L2) K lost → ∀ (x y z : Value) (o : Obj), NetAt ((((W.setCell ⟨w.heap.size, 0, none⟩ x).setCell ⟨w.heap.size, 1, none⟩ y).setCell ⟨w.heap.size, 2, none⟩ z).alloc o) bn bm (L1 ++ L2) K lost := by
    intro W hW x y z o
    refine hW.upd (S := fun k => k = w.heap.size) ((((Upd.refl (fun k => k = w.heap.size) W).setCell (p := ⟨w.heap.size, 0, none⟩) (.inl rfl) _).setCell (p := ⟨w.heap.size, 1, none⟩) (.inl rfl) _).setCell (p := ⟨w.heap.size, 2, none⟩) (.inl rfl) _ |>.alloc _) ?_
    intro k hk e
    have : k ∈ blocks bn bm (L1 ++ (⟨b, f, t, .slice A xs.length cp, xs⟩ : Nd) :: L2) := by
      rw [blocks_eq, nodeBlocks_append] at hk ⊢
      rw [nodeBlocks_cons]
      simp only [List.mem_cons, List.mem_append] at hk ⊢
      rcases hk with h | h | h | h
      · exact .inl h
      · exact .inr (.inl h)
      · exact .inr (.inr (.inl h))
      · exact .inr (.inr (.inr (.inr (.inr h))))
    have := h.lt k this
    omega
  have hq5 : (place bn L1).1 ∈ blocks bn bm (L1 ++ (⟨b, f, t, .slice A xs.length cp, xs⟩ : Nd) :: L2) := place_mem bn bm L1 _
  rw [← HQ.out] at hq5
  refine ⟨⟨hfin _ hrem _ _ _ _, ?_, ?_⟩, ?_⟩
  · exact (((((((Upd.of_below hb).setCell (p := ⟨q1, q2 + 3, none⟩) (.inl hq5) _).setCell (p := ⟨bn, 5, none⟩) (.inl (by simp [blocks])) _).setCell (p := ⟨w.heap.size, 0, none⟩) (.inr (Nat.le_refl _)) _).setCell (p := ⟨w.heap.size, 1, none⟩) (.inr (Nat.le_refl _)) _).setCell (p := ⟨w.heap.size, 2, none⟩) (.inr (Nat.le_refl _)) _).alloc _)
  · intro k hk
    refine .inl ?_
    rw [blocks_eq, nodeBlocks_append] at hk ⊢
    rw [nodeBlocks_cons]
    simp only [List.mem_cons, List.mem_append] at hk ⊢
    rcases hk with h | h | h | h
    · exact .inl h
    · exact .inr (.inl h)
    · exact .inr (.inr (.inl h))
    · exact .inr (.inr (.inr (.inr (.inr h))))
  · have ho := hN.2
    refine ho.kept (fun k hk => ?_)
    have hkm : k ∈ blocks bn bm (L1 ++ (⟨b, f, t, .slice A xs.length cp, xs⟩ : Nd) :: L2) := by
      rw [blocks_eq, nodeBlocks_append, nodeBlocks_cons]
      simp only [List.mem_cons, List.mem_append]
      exact .inr (.inr (.inr (.inr (.inl hk))))
    have hkl := h.lt k hkm
    have hap := h.apart
    rw [blocks_eq, nodeBlocks_append, nodeBlocks_cons] at hap
    have hk1 : k ≠ bn := by
      rintro rfl
      exact (List.nodup_cons.1 hap).1 (by simp only [List.mem_cons, List.mem_append]; exact .inr (.inr (.inr (.inl hk))))
    have hk2 : k ≠ q1 := by
      intro e
      have h5 := place_in bn L1
      rw [← HQ.out] at h5
      dsimp only at h5
      rw [← e] at h5
      rcases List.mem_cons.1 h5 with e2 | h5
      · exact hk1 e2
      · have h6 := (List.nodup_cons.1 (List.nodup_cons.1 hap).2).2
        rw [List.nodup_append] at h6
        exact h6.2.2 _ h5 k (by simp only [List.mem_cons, List.mem_append]; exact .inr (.inl hk)) rfl
    have hk3 : k ≠ w.heap.size := by omega
    rw [Below.heap_alloc _ _ _ (by simp only [size_setCell]; omega), heap_far _ _ _ hk3, heap_far _ _ _ hk3, heap_far _ _ _ hk3, heap_far _ _ _ hk1, heap_far _ _ _ hk2]
end Go.Proofs.Ytddndmhjkjanlaa
