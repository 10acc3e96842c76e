/- The net's Swap, whole: two datagrams change places. Conditions: the net holds what its word says; at most 10^6 datagrams. -/
import Derived.Test.YtddndmhjkjanlaaNn
namespace Go.Proofs.Ytddndmhjkjanlaa
open Go.RowKit Go.Shelf

variable {w : World} {bn bm : Nat} {L : List Nd} {K : List (Int × Int)} {lost : Int}

theorem two_nodes {w : World} {L1 L2 L3 : List Nd} {a b : Nd} (h : NetAt w bn bm (L1 ++ a :: (L2 ++ b :: L3)) K lost) : ¬ a.b = b.b := by
  intro e
  have hap := h.apart
  rw [blocks_eq] at hap
  simp only [nodeBlocks_append, nodeBlocks_cons] at hap
  have cnt := List.nodup_iff_count.1 hap a.b
  simp only [List.count_cons, List.count_append, e, beq_self_eq_true, if_true] at cnt
  omega
theorem swapF_of {w : World} {L1 L2 L3 : List Nd} {a b : Nd} (h : NetAt w bn bm (L1 ++ a :: (L2 ++ b :: L3)) K lost) : SwapF w (place bn L1) (place bn (L1 ++ a :: L2)) a b := by
  have hNa := Chain.mid (L1 := L1) h.chain
  have e : L1 ++ a :: (L2 ++ b :: L3) = (L1 ++ a :: L2) ++ b :: L3 := by simp
  have h' : NetAt w bn bm ((L1 ++ a :: L2) ++ b :: L3) K lost := by rw [← e]; exact h
  have hNb := Chain.mid (L1 := L1 ++ a :: L2) h'.chain
  exact ⟨place_cell h, place_cell h', cell_of hNa.1 0 rfl, cell_of hNa.1 1 rfl, cell_of hNa.1 2 rfl, cell_of hNb.1 0 rfl, cell_of hNb.1 1 rfl, cell_of hNb.1 2 rfl, fun o => frozen_of hNa.1 o, fun o => frozen_of hNb.1 o⟩
theorem SwapF.symm {w : World} {p q : Nat × Nat} {a b : Nd} (h : SwapF w p q a b) : SwapF w q p b a := ⟨h.qn, h.pn, h.b0, h.b1, h.b2, h.a0, h.a1, h.a2, h.fb, h.fa⟩

/-- A node's datagram is written over. -/
def over (w : World) (b : Nat) (x y z : Value) : World := ((w.setCell ⟨b, 0, none⟩ x).setCell ⟨b, 1, none⟩ y).setCell ⟨b, 2, none⟩ z
theorem node_over {w : World} {nd : Nd} {b : Nat} (hb : b = nd.b) {x0 y0 z0 : Value} {q : Option Addr} (h : w.heap[nd.b]? = some (.cells #[x0, y0, z0, .pointer q] 58 (0, 0))) (x y z : Value) :
    (over w b x y z).heap[nd.b]? = some (.cells #[x, y, z, .pointer q] 58 (0, 0)) := by
  subst hb
  unfold over
  rw [heap_set (heap_set (heap_set h 0 x) 1 y) 2 z]
  rfl
theorem node_far {w : World} {b k : Nat} (hk : k ≠ b) (x y z : Value) : (over w b x y z).heap[k]? = w.heap[k]? := by
  unfold over
  rw [heap_far _ _ _ hk, heap_far _ _ _ hk, heap_far _ _ _ hk]
theorem Upd.over {S : Nat → Prop} {a w : World} {b : Nat} (h : Upd S a w) (hb : S b) (x y z : Value) : Upd S a (over w b x y z) :=
  ((h.setCell (p := ⟨b, 0, none⟩) (.inl hb) x).setCell (p := ⟨b, 1, none⟩) (.inl hb) y).setCell (p := ⟨b, 2, none⟩) (.inl hb) z
theorem NetAt.drew (h : NetAt w bn bm L K lost) : NetAt w.drew bn bm L K lost := h.kept (fun _ _ => rfl)

theorem swap_perm (bn bm : Nat) (L1 L2 L3 : List Nd) (a b : Nd) : (blocks bn bm (L1 ++ re a b :: (L2 ++ re b a :: L3))).Perm (blocks bn bm (L1 ++ a :: (L2 ++ b :: L3))) := by
  simp only [blocks_eq, nodeBlocks_append, nodeBlocks_cons, re]
  rw [List.perm_iff_count]
  intro x
  simp only [List.count_cons, List.count_append]
  omega
theorem swap_sub (bn bm : Nat) (L1 L2 L3 : List Nd) (a b : Nd) : ∀ k ∈ blocks bn bm (L1 ++ re a b :: (L2 ++ re b a :: L3)), k ∈ blocks bn bm (L1 ++ a :: (L2 ++ b :: L3)) :=
  fun _ hk => (swap_perm bn bm L1 L2 L3 a b).mem_iff.1 hk

theorem swap_lt {L1 L2 L3 : List Nd} {a b : Nd} (h : NetAt w bn bm (L1 ++ a :: (L2 ++ b :: L3)) K lost) (hL : (L1 ++ a :: (L2 ++ b :: L3)).length ≤ 1000000) :
    Calls Try.prog 16 #[.pointer (some ⟨bn, 0, none⟩), .int .i64 (L1.length : Int), .int .i64 ((L1 ++ a :: L2).length : Int)] w fun e w' => e = .returned (.int .i64 0) ∧ Step w w' bn bm (L1 ++ a :: (L2 ++ b :: L3)) (L1 ++ re a b :: (L2 ++ re b a :: L3)) K lost := by
  obtain ⟨A, ca, hva⟩ := (Chain.mid (L1 := L1) h.chain).2.form
  have hc2 : Chain w (L2 ++ b :: L3) := (Chain.append_left (L := L1) h.chain).2
  obtain ⟨B, cb, hvb⟩ := (Chain.mid (L1 := L2) hc2).2.form
  have e : L1 ++ a :: (L2 ++ b :: L3) = (L1 ++ a :: L2) ++ b :: L3 := by simp
  have hne := two_nodes h
  have net1 : ∀ w1, Below w.heap.size w w1 → NetAt w1 bn bm (L1 ++ a :: (L2 ++ b :: L3)) K lost := fun w1 hb => h.upd (S := fun _ => False) (Upd.of_below hb) (fun _ _ h => h)
  have ma : a.b ∈ blocks bn bm (L1 ++ a :: (L2 ++ b :: L3)) := by simp [blocks_eq, nodeBlocks_append, nodeBlocks_cons]
  have mb : b.b ∈ blocks bn bm (L1 ++ a :: (L2 ++ b :: L3)) := by simp [blocks_eq, nodeBlocks_append, nodeBlocks_cons]
  refine swap_walk bn _ _ (place bn L1) (place bn (L1 ++ a :: L2)) a b _ A B _ _ ca cb hva hvb h.cell0 ?_ ?_ (fun w1 hb => swapF_of (net1 w1 hb)) hne ?_
  · have := at_yes h L1.length (by simp) hL
    rwa [List.take_left' rfl] at this
  · intro w1 hb
    have h1 := net1 w1 hb
    rw [e] at h1
    have := at_yes h1 (L1 ++ a :: L2).length (by simp) (by rw [← e]; exact hL)
    rwa [List.take_left' rfl] at this
  · intro w1 hb
    have h1 := net1 w1 hb
    have hNa := Chain.mid (L1 := L1) h1.chain
    have h1c2 : Chain w1 (L2 ++ b :: L3) := (Chain.append_left (L := L1) h1.chain).2
    have hNb := Chain.mid (L1 := L2) h1c2
    have hs := net_swap (w' := over (over w1 a.b (.int .i64 b.f) (.int .i64 b.t) b.v) b.b (.int .i64 a.f) (.int .i64 a.t) a.v) h1 ((node_far hne _ _ _).trans (node_over rfl hNa.1 _ _ _)) (node_over rfl ((node_far (fun e => hne e.symm) _ _ _).trans hNb.1) _ _ _) (fun k k1 k2 => (node_far k2 _ _ _).trans (node_far k1 _ _ _))
    have hu := ((Upd.over (b := b.b) (Upd.over (b := a.b) (Upd.of_below hb) ma (.int .i64 b.f) (.int .i64 b.t) b.v) mb (.int .i64 a.f) (.int .i64 a.t) a.v).drew)
    exact ⟨rfl, hs.drew, hu, fun k hk => .inl (swap_sub bn bm L1 L2 L3 a b k hk)⟩
theorem swap_gt {L1 L2 L3 : List Nd} {a b : Nd} (h : NetAt w bn bm (L1 ++ a :: (L2 ++ b :: L3)) K lost) (hL : (L1 ++ a :: (L2 ++ b :: L3)).length ≤ 1000000) :
    Calls Try.prog 16 #[.pointer (some ⟨bn, 0, none⟩), .int .i64 ((L1 ++ a :: L2).length : Int), .int .i64 (L1.length : Int)] w fun e w' => e = .returned (.int .i64 0) ∧ Step w w' bn bm (L1 ++ a :: (L2 ++ b :: L3)) (L1 ++ re a b :: (L2 ++ re b a :: L3)) K lost := by
  obtain ⟨A, ca, hva⟩ := (Chain.mid (L1 := L1) h.chain).2.form
  have hc2 : Chain w (L2 ++ b :: L3) := (Chain.append_left (L := L1) h.chain).2
  obtain ⟨B, cb, hvb⟩ := (Chain.mid (L1 := L2) hc2).2.form
  have e : L1 ++ a :: (L2 ++ b :: L3) = (L1 ++ a :: L2) ++ b :: L3 := by simp
  have hne := two_nodes h
  have net1 : ∀ w1, Below w.heap.size w w1 → NetAt w1 bn bm (L1 ++ a :: (L2 ++ b :: L3)) K lost := fun w1 hb => h.upd (S := fun _ => False) (Upd.of_below hb) (fun _ _ h => h)
  have ma : a.b ∈ blocks bn bm (L1 ++ a :: (L2 ++ b :: L3)) := by simp [blocks_eq, nodeBlocks_append, nodeBlocks_cons]
  have mb : b.b ∈ blocks bn bm (L1 ++ a :: (L2 ++ b :: L3)) := by simp [blocks_eq, nodeBlocks_append, nodeBlocks_cons]
  refine swap_walk bn _ _ (place bn (L1 ++ a :: L2)) (place bn L1) b a _ B A _ _ cb ca hvb hva h.cell0 ?_ ?_ (fun w1 hb => (swapF_of (net1 w1 hb)).symm) (fun e => hne e.symm) ?_
  · have h1 := h
    rw [e] at h1
    have := at_yes h1 (L1 ++ a :: L2).length (by simp) (by rw [← e]; exact hL)
    rwa [List.take_left' rfl] at this
  · intro w1 hb
    have := at_yes (net1 w1 hb) L1.length (by simp) hL
    rwa [List.take_left' rfl] at this
  · intro w1 hb
    have h1 := net1 w1 hb
    have hNa := Chain.mid (L1 := L1) h1.chain
    have h1c2 : Chain w1 (L2 ++ b :: L3) := (Chain.append_left (L := L1) h1.chain).2
    have hNb := Chain.mid (L1 := L2) h1c2
    have hs := net_swap (w' := over (over w1 b.b (.int .i64 a.f) (.int .i64 a.t) a.v) a.b (.int .i64 b.f) (.int .i64 b.t) b.v) h1 (node_over rfl ((node_far hne _ _ _).trans hNa.1) _ _ _) ((node_far (fun e => hne e.symm) _ _ _).trans (node_over rfl hNb.1 _ _ _)) (fun k k1 k2 => (node_far k1 _ _ _).trans (node_far k2 _ _ _))
    have hu := ((Upd.over (b := a.b) (Upd.over (b := b.b) (Upd.of_below hb) mb (.int .i64 a.f) (.int .i64 a.t) a.v) ma (.int .i64 b.f) (.int .i64 b.t) b.v).drew)
    exact ⟨rfl, hs.drew, hu, fun k hk => .inl (swap_sub bn bm L1 L2 L3 a b k hk)⟩
theorem swap_eq {L1 L2 : List Nd} {a : Nd} (h : NetAt w bn bm (L1 ++ a :: L2) K lost) (hL : (L1 ++ a :: L2).length ≤ 1000000) :
    Calls Try.prog 16 #[.pointer (some ⟨bn, 0, none⟩), .int .i64 (L1.length : Int), .int .i64 (L1.length : Int)] w fun e w' => e = .returned (.int .i64 0) ∧ Step w w' bn bm (L1 ++ a :: L2) (L1 ++ a :: L2) K lost := by
  obtain ⟨A, ca, hva⟩ := (Chain.mid (L1 := L1) h.chain).2.form
  have net1 : ∀ w1, Below w.heap.size w w1 → NetAt w1 bn bm (L1 ++ a :: L2) K lost := fun w1 hb => h.upd (S := fun _ => False) (Upd.of_below hb) (fun _ _ h => h)
  have ma : a.b ∈ blocks bn bm (L1 ++ a :: L2) := node_mem bn bm L1 a L2
  refine swap_same_walk bn _ (place bn L1) a _ A _ ca hva h.cell0 ?_ ?_ ?_ ?_
  · have := at_yes h L1.length (by simp) hL
    rwa [List.take_left' rfl] at this
  · intro w1 hb
    have := at_yes (net1 w1 hb) L1.length (by simp) hL
    rwa [List.take_left' rfl] at this
  · intro w1 hb
    have h1 := net1 w1 hb
    have hNa := Chain.mid (L1 := L1) h1.chain
    exact ⟨place_cell h1, place_cell h1, cell_of hNa.1 0 rfl, cell_of hNa.1 1 rfl, cell_of hNa.1 2 rfl, cell_of hNa.1 0 rfl, cell_of hNa.1 1 rfl, cell_of hNa.1 2 rfl, fun o => frozen_of hNa.1 o, fun o => frozen_of hNa.1 o⟩
  · intro w1 hb
    have h1 := net1 w1 hb
    have hNa := Chain.mid (L1 := L1) h1.chain
    have hs : NetAt (over (over w1 a.b (.int .i64 a.f) (.int .i64 a.t) a.v) a.b (.int .i64 a.f) (.int .i64 a.t) a.v) bn bm (L1 ++ a :: L2) K lost := by
      refine h1.kept (fun k _ => ?_)
      by_cases hk : k = a.b
      · rw [hk, hNa.1]
        exact node_over rfl (node_over rfl hNa.1 _ _ _) _ _ _
      · rw [node_far hk, node_far hk]
    have hu := ((Upd.over (b := a.b) (Upd.over (b := a.b) (Upd.of_below hb) ma (.int .i64 a.f) (.int .i64 a.t) a.v) ma (.int .i64 a.f) (.int .i64 a.t) a.v).drew)
    exact ⟨rfl, hs.drew, hu, fun k hk => .inl hk⟩
end Go.Proofs.Ytddndmhjkjanlaa
