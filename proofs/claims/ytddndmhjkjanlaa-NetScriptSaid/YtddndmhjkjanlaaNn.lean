/- The net's Swap. Conditions: the net holds what its word says; at most 10^6 datagrams. -/
import Derived.Test.YtddndmhjkjanlaaNm
namespace Go.Proofs.Ytddndmhjkjanlaa
open Go.RowKit Go.Shelf

variable {w : World} {bn bm : Nat} {L : List Nd} {K : List (Int × Int)} {lost : Int}

set_option maxRecDepth 100000 in
set_option maxHeartbeats 1000000 in
theorem swap_no1 (h : NetAt w bn bm L K lost) (i : Int) (hi : i < 0 ∨ (L.length : Int) ≤ i) (k : Nat) (hk : k < L.length) (hL : L.length ≤ 1000000) :
    Calls Try.prog 16 #[.pointer (some ⟨bn, 0, none⟩), .int .i64 i, .int .i64 (k : Int)] w fun e w' => e = .returned (.int .i64 6) ∧ Step w w' bn bm L L K lost := by
  have c0 := h.cell0
  go_enter Try.func16, Try.ntmps16
  go_wp2_with (go_at_call 31; refine (none_made _ true _ c0).mono ?_; rintro e w' ⟨rfl, rfl⟩)
  refine (at_no h i hi).mono ?_
  rintro e w1 ⟨rfl, hb1⟩
  have h2 : NetAt w1 bn bm L K lost := h.upd (S := fun _ => False) (Upd.of_below hb1) (fun _ _ h => h)
  go_wp2_with fail
  refine (at_yes h2 k hk hL).mono ?_
  rintro e w2 ⟨rfl, hb2⟩
  go_wp2
  go_ret
  exact ⟨rfl, Step.same h (below_step hb2 hb1)⟩
set_option maxRecDepth 100000 in
set_option maxHeartbeats 1000000 in
theorem swap_no2 (h : NetAt w bn bm L K lost) (i k : Int) (hi : i < 0 ∨ (L.length : Int) ≤ i) (hk : k < 0 ∨ (L.length : Int) ≤ k) (hL : L.length ≤ 1000000) :
    Calls Try.prog 16 #[.pointer (some ⟨bn, 0, none⟩), .int .i64 i, .int .i64 k] w fun e w' => e = .returned (.int .i64 6) ∧ Step w w' bn bm L L K lost := by
  have c0 := h.cell0
  go_enter Try.func16, Try.ntmps16
  go_wp2_with (go_at_call 31; refine (none_made _ true _ c0).mono ?_; rintro e w' ⟨rfl, rfl⟩)
  refine (at_no h i hi).mono ?_
  rintro e w1 ⟨rfl, hb1⟩
  have h2 : NetAt w1 bn bm L K lost := h.upd (S := fun _ => False) (Upd.of_below hb1) (fun _ _ h => h)
  go_wp2_with fail
  refine (at_no h2 k hk).mono ?_
  rintro e w2 ⟨rfl, hb2⟩
  go_wp2
  go_ret
  exact ⟨rfl, Step.same h (below_step hb2 hb1)⟩
set_option maxRecDepth 100000 in
set_option maxHeartbeats 1000000 in
theorem swap_no3 (h : NetAt w bn bm L K lost) (i : Nat) (k : Int) (hi : i < L.length) (hk : k < 0 ∨ (L.length : Int) ≤ k) (hL : L.length ≤ 1000000) :
    Calls Try.prog 16 #[.pointer (some ⟨bn, 0, none⟩), .int .i64 (i : Int), .int .i64 k] w fun e w' => e = .returned (.int .i64 6) ∧ Step w w' bn bm L L K lost := by
  have c0 := h.cell0
  go_enter Try.func16, Try.ntmps16
  go_wp2_with (go_at_call 31; refine (none_made _ true _ c0).mono ?_; rintro e w' ⟨rfl, rfl⟩)
  refine (at_yes h i hi hL).mono ?_
  rintro e w1 ⟨rfl, hb1⟩
  have h2 : NetAt w1 bn bm L K lost := h.upd (S := fun _ => False) (Upd.of_below hb1) (fun _ _ h => h)
  go_wp2_with fail
  refine (at_no h2 k hk).mono ?_
  rintro e w2 ⟨rfl, hb2⟩
  go_wp2
  go_ret
  exact ⟨rfl, Step.same h (below_step hb2 hb1)⟩

/-- What Swap reads of two nodes, and that it may write them. -/
structure SwapF (w : World) (p q : Nat × Nat) (a b : Nd) : Prop where
  pn : w.cell? ⟨p.1, p.2 + 3, none⟩ = some (.pointer (some ⟨a.b, 0, none⟩))
  qn : w.cell? ⟨q.1, q.2 + 3, none⟩ = some (.pointer (some ⟨b.b, 0, none⟩))
  a0 : w.cell? ⟨a.b, 0, none⟩ = some (.int .i64 a.f)
  a1 : w.cell? ⟨a.b, 1, none⟩ = some (.int .i64 a.t)
  a2 : w.cell? ⟨a.b, 2, none⟩ = some a.v
  b0 : w.cell? ⟨b.b, 0, none⟩ = some (.int .i64 b.f)
  b1 : w.cell? ⟨b.b, 1, none⟩ = some (.int .i64 b.t)
  b2 : w.cell? ⟨b.b, 2, none⟩ = some b.v
  fa : ∀ o, w.frozen? ⟨a.b, o, none⟩ = false
  fb : ∀ o, w.frozen? ⟨b.b, o, none⟩ = false

set_option maxRecDepth 100000 in
set_option maxHeartbeats 4000000 in
theorem swap_walk (bn : Nat) (i k : Int) (p q : Nat × Nat) (a b : Nd) (R : Ending → World → Prop) (A B : Option Addr) (na nb ca cb : Nat) (hva : a.v = .slice A na ca) (hvb : b.v = .slice B nb cb) (hmade : w.cell? ⟨bn, 0, none⟩ = some (.bool true))
    (h1 : Calls Try.prog 38 #[.pointer (some ⟨bn, 0, none⟩), .int .i64 i] w fun e w' => e = .returned (.pointer (some ⟨p.1, p.2, none⟩)) ∧ Below w.heap.size w w')
    (h2 : ∀ w1, Below w.heap.size w w1 → Calls Try.prog 38 #[.pointer (some ⟨bn, 0, none⟩), .int .i64 k] w1 fun e w' => e = .returned (.pointer (some ⟨q.1, q.2, none⟩)) ∧ Below w1.heap.size w1 w')
    (hF : ∀ w1, Below w.heap.size w w1 → SwapF w1 p q a b)
    (hne : ¬ a.b = b.b)
    (hfin : ∀ w1, Below w.heap.size w w1 → R (.returned (.int .i64 0)) (((((((w1.setCell ⟨a.b, 0, none⟩ (.int .i64 b.f)).setCell ⟨a.b, 1, none⟩ (.int .i64 b.t)).setCell ⟨a.b, 2, none⟩ b.v).setCell ⟨b.b, 0, none⟩ (.int .i64 a.f)).setCell ⟨b.b, 1, none⟩ (.int .i64 a.t)).setCell ⟨b.b, 2, none⟩ a.v).drew)) :
    Calls Try.prog 16 #[.pointer (some ⟨bn, 0, none⟩), .int .i64 i, .int .i64 k] w R := by
  obtain ⟨ab, af, at', av, axs⟩ := a
  obtain ⟨bb, bf, bt', bv, bxs⟩ := b
  dsimp only at hva hvb
  subst hva hvb
  obtain ⟨p1, p2⟩ := p
  obtain ⟨q1, q2⟩ := q
  have H2 := Lib.hid h2
  have HF := Lib.hid hF
  have HFin := Lib.hid hfin
  clear h2 hF hfin
  go_enter Try.func16, Try.ntmps16
  go_wp2_with (go_at_call 31; refine (none_made _ true _ hmade).mono ?_; rintro e w' ⟨rfl, rfl⟩)
  refine h1.mono ?_
  rintro e w1 ⟨rfl, hb1⟩
  go_wp2_with fail
  refine (H2.out w1 hb1).mono ?_
  rintro e w2 ⟨rfl, hb2⟩
  have hb3 := below_step hb2 hb1
  obtain ⟨pn, qn, a0, a1, a2, b0, b1, b2, fa, fb⟩ := HF.out w2 hb3
  dsimp only at pn qn a0 a1 a2 b0 b1 b2 fa fb hne
  have hne2 : ¬ bb = ab := fun e => hne e.symm
  clear hb1 hb2 h1
  go_wp2
  go_region
  go_wp2
  exact HFin.out _ hb3

set_option maxRecDepth 100000 in
set_option maxHeartbeats 4000000 in
theorem swap_same_walk (bn : Nat) (i : Int) (p : Nat × Nat) (a : Nd) (R : Ending → World → Prop) (A : Option Addr) (na ca : Nat) (hva : a.v = .slice A na ca) (hmade : w.cell? ⟨bn, 0, none⟩ = some (.bool true))
    (h1 : Calls Try.prog 38 #[.pointer (some ⟨bn, 0, none⟩), .int .i64 i] w fun e w' => e = .returned (.pointer (some ⟨p.1, p.2, none⟩)) ∧ Below w.heap.size w w')
    (h2 : ∀ w1, Below w.heap.size w w1 → Calls Try.prog 38 #[.pointer (some ⟨bn, 0, none⟩), .int .i64 i] w1 fun e w' => e = .returned (.pointer (some ⟨p.1, p.2, none⟩)) ∧ Below w1.heap.size w1 w')
    (hF : ∀ w1, Below w.heap.size w w1 → SwapF w1 p p a a)
    (hfin : ∀ w1, Below w.heap.size w w1 → R (.returned (.int .i64 0)) (((((((w1.setCell ⟨a.b, 0, none⟩ (.int .i64 a.f)).setCell ⟨a.b, 1, none⟩ (.int .i64 a.t)).setCell ⟨a.b, 2, none⟩ a.v).setCell ⟨a.b, 0, none⟩ (.int .i64 a.f)).setCell ⟨a.b, 1, none⟩ (.int .i64 a.t)).setCell ⟨a.b, 2, none⟩ a.v).drew)) :
    Calls Try.prog 16 #[.pointer (some ⟨bn, 0, none⟩), .int .i64 i, .int .i64 i] w R := by
  obtain ⟨ab, af, at', av, axs⟩ := a
  dsimp only at hva
  subst hva
  obtain ⟨p1, p2⟩ := p
  have H2 := Lib.hid h2
  have HF := Lib.hid hF
  have HFin := Lib.hid hfin
  clear h2 hF hfin
  go_enter Try.func16, Try.ntmps16
  go_wp2_with (go_at_call 31; refine (none_made _ true _ hmade).mono ?_; rintro e w' ⟨rfl, rfl⟩)
  refine h1.mono ?_
  rintro e w1 ⟨rfl, hb1⟩
  go_wp2_with fail
  refine (H2.out w1 hb1).mono ?_
  rintro e w2 ⟨rfl, hb2⟩
  have hb3 := below_step hb2 hb1
  obtain ⟨pn, qn, a0, a1, a2, b0, b1, b2, fa, fb⟩ := HF.out w2 hb3
  dsimp only at pn a0 a1 a2 fa
  clear hb1 hb2 h1 qn b0 b1 b2 fb
  go_wp2
  go_region
  go_wp2
  exact HFin.out _ hb3

/-- The block of one node, the datagram of another. -/
def re (x y : Nd) : Nd := ⟨x.b, y.f, y.t, y.v, y.xs⟩
theorem net_swap {w w' : World} {L1 L2 L3 : List Nd} {a b : Nd} (h : NetAt w bn bm (L1 ++ a :: (L2 ++ b :: L3)) K lost)
    (ha : w'.heap[a.b]? = some (.cells #[.int .i64 b.f, .int .i64 b.t, b.v, .pointer (nx (L2 ++ b :: L3))] 58 (0, 0)))
    (hb : w'.heap[b.b]? = some (.cells #[.int .i64 a.f, .int .i64 a.t, a.v, .pointer (nx L3)] 58 (0, 0)))
    (ho : ∀ k, k ≠ a.b → k ≠ b.b → w'.heap[k]? = w.heap[k]?) : NetAt w' bn bm (L1 ++ re a b :: (L2 ++ re b a :: L3)) K lost := by
  have hap := h.apart
  have hperm : (blocks bn bm (L1 ++ re a b :: (L2 ++ re b a :: L3))).Perm (blocks bn bm (L1 ++ a :: (L2 ++ b :: L3))) := by
    simp only [blocks_eq, nodeBlocks_append, nodeBlocks_cons, re]
    rw [List.perm_iff_count]
    intro x
    simp only [List.count_cons, List.count_append]
    omega
  rw [blocks_eq] at hap
  simp only [nodeBlocks_append, nodeBlocks_cons] at hap
  have cnt : ∀ x, (bn :: bm :: (nodeBlocks L1 ++ a.b :: (a.v.ownBlock.toList ++ (nodeBlocks L2 ++ b.b :: (b.v.ownBlock.toList ++ nodeBlocks L3))))).count x ≤ 1 := fun x => List.nodup_iff_count.1 hap x
  have far : ∀ x, x ∈ bn :: bm :: (nodeBlocks L1 ++ (a.v.ownBlock.toList ++ (nodeBlocks L2 ++ (b.v.ownBlock.toList ++ nodeBlocks L3)))) → x ≠ a.b ∧ x ≠ b.b := by
    intro x hx
    have h1 : 0 < (bn :: bm :: (nodeBlocks L1 ++ (a.v.ownBlock.toList ++ (nodeBlocks L2 ++ (b.v.ownBlock.toList ++ nodeBlocks L3))))).count x := List.count_pos_iff.2 hx
    have h2 := cnt x
    simp only [List.count_cons, List.count_append] at h1 h2
    constructor
    · rintro rfl
      simp only [beq_self_eq_true, if_true] at h1 h2
      omega
    · rintro rfl
      simp only [beq_self_eq_true, if_true] at h1 h2
      omega
  have kept : ∀ x, x ∈ bn :: bm :: (nodeBlocks L1 ++ (a.v.ownBlock.toList ++ (nodeBlocks L2 ++ (b.v.ownBlock.toList ++ nodeBlocks L3)))) → w'.heap[x]? = w.heap[x]? := fun x hx => ho x (far x hx).1 (far x hx).2
  have hNa := Chain.mid (L1 := L1) h.chain
  have hc2 : Chain w (L2 ++ b :: L3) := (Chain.append_left (L := L1) h.chain).2
  have hNb := Chain.mid (L1 := L2) hc2
  have hc3 : Chain w L3 := (Chain.append_left (L := L2) hc2).2
  have e1 : nx (L2 ++ re b a :: L3) = nx (L2 ++ b :: L3) := by cases L2 <;> rfl
  have e2 : nx (L1 ++ re a b :: (L2 ++ re b a :: L3)) = nx (L1 ++ a :: (L2 ++ b :: L3)) := by cases L1 <;> rfl
  have k3 : Chain w' L3 := hc3.kept (fun x hx => kept x (by
    have hx' : x ∈ nodeBlocks L3 := hx
    simp only [List.mem_cons, List.mem_append]
    exact .inr (.inr (.inr (.inr (.inr (.inr hx')))))))
  have kb : NodeAt w' (re b a) (nx L3) := ⟨hb, hNa.2.kept (fun x hx => kept x (by
    simp only [List.mem_cons, List.mem_append]
    exact .inr (.inr (.inr (.inl hx)))))⟩
  have k2 : Chain w' (L2 ++ re b a :: L3) := chain_change hc2 rfl (fun x hx => kept x (by
    simp only [List.mem_cons, List.mem_append]
    exact .inr (.inr (.inr (.inr (.inl hx)))))) kb k3
  have ka : NodeAt w' (re a b) (nx (L2 ++ re b a :: L3)) := ⟨by rw [e1]; exact ha, hNb.2.kept (fun x hx => kept x (by
    simp only [List.mem_cons, List.mem_append]
    exact .inr (.inr (.inr (.inr (.inr (.inl hx)))))))⟩
  refine ⟨?_, chain_change h.chain rfl (fun x hx => kept x (by
    simp only [List.mem_cons, List.mem_append]
    exact .inr (.inr (.inl hx)))) ka k2, h.cuts.kept (kept bm (by simp)), hperm.nodup_iff.2 h.apart⟩
  rw [kept bn (by simp), h.head, e2]
  simp
end Go.Proofs.Ytddndmhjkjanlaa
