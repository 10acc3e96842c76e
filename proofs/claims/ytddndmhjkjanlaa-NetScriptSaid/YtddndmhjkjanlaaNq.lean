/- The net's Waiting: all datagrams, in memory of their own. Conditions: the net holds what its word says; at most 10^6 datagrams, of at most 10^6 bytes each. -/
import Derived.Test.YtddndmhjkjanlaaNp
namespace Go.Proofs.Ytddndmhjkjanlaa
open Go.RowKit Go.Shelf
attribute [local go_sem] Oper.semAt_some

/-- A datagram in a slice: its ends, the slice of its bytes, the bytes. -/
structure Ed where
  f : Int
  t : Int
  v : Value
  xs : List UInt8
def Ed.cells (d : Ed) : List Value := [.int .i64 d.f, .int .i64 d.t, d.v]
def Ed.dg (d : Ed) : Dg := (d.f, d.t, d.xs)
def cellsE (l : List Ed) : List Value := l.flatMap Ed.cells
theorem cellsE_length (l : List Ed) : (cellsE l).length = l.length * 3 := by
  induction l with
  | nil => rfl
  | cons a r ih => simp [cellsE, Ed.cells] at ih ⊢; omega
theorem cellsE_append (l m : List Ed) : cellsE (l ++ m) = cellsE l ++ cellsE m := by simp [cellsE]
/-- A slice of datagrams that owns its row, and each its bytes. -/
structure DRow (w : World) (base : Nat) (v : Value) (l : List Ed) : Prop where
  row : w.ownsRow base 28 3 v l.length (cellsE l)
  bytes : ∀ d ∈ l, OB w base d.v d.xs

/-- The blocks of cells lie on wherever a block that is none turns. -/
theorem cells_on {W W' : World} {row : Option Nat} (hg : W.grownBy W' row) (hr : ∀ r, row = some r → ∃ o : Obj, W.heap[r]? = some o ∧ o.isCells = false) {b : Nat} {cs : Array Value} {t : TypeId} {fr : Nat × Nat} (h : W.heap[b]? = some (.cells cs t fr)) : W'.heap[b]? = W.heap[b]? := by
  refine hg.block b (Array.getElem?_eq_some_iff.1 h).1 (fun e => ?_)
  obtain ⟨o, h1, h2⟩ := hr b e.symm
  rw [h] at h1
  injection h1 with h1
  subst h1
  cases h2
theorem ownsRow_kept {w w' : World} {base e sz : Nat} {v : Value} {n : Nat} {xs : List Value} (h : w.ownsRow base e sz v n xs) (hb : ∀ g cs t fr, v.ownBlock = some g → w.heap[g]? = some (.cells cs t fr) → w'.heap[g]? = w.heap[g]?) : w'.ownsRow base e sz v n xs := by
  refine ⟨h.1, ?_⟩
  rcases h.2 with h2 | ⟨g, cap, cur, hv, h0, hh, r⟩
  · exact .inl h2
  · exact .inr ⟨g, cap, cur, hv, h0, (hb g _ _ _ (by rw [hv]; rfl) hh).trans hh, r⟩
theorem OB.kept' {w w' : World} {base : Nat} {v : Value} {xs : List UInt8} (h : OB w base v xs) (hb : ∀ g cs fr, v.ownBlock = some g → w.heap[g]? = some (.cells cs 5 fr) → w'.heap[g]? = w.heap[g]?) : OB w' base v xs :=
  h.kept (fun k hk => by
    simp at hk
    obtain ⟨cur, h1, _⟩ := h.typ k hk
    exact hb k _ _ hk h1)
theorem DRow.kept {w w' : World} {base : Nat} {v : Value} {l : List Ed} (h : DRow w base v l) (hb : ∀ (g : Nat) (cs : Array Value) (t : TypeId) (fr : Nat × Nat), base ≤ g → w.heap[g]? = some (.cells cs t fr) → w'.heap[g]? = w.heap[g]?) : DRow w' base v l := by
  refine ⟨?_, fun d hd => ?_⟩
  · refine ⟨h.row.1, ?_⟩
    rcases h.row.2 with h2 | ⟨g, cap, cur, hv, h0, hh, r⟩
    · exact .inl h2
    · exact .inr ⟨g, cap, cur, hv, h0, (hb g _ _ _ h0 hh).trans hh, r⟩
  · have ho := h.bytes d hd
    exact ho.kept' (fun g cs fr hg hh => hb g cs 5 fr (ho.block g (by simp [hg])).1 hh)
theorem DRow.not_row {w : World} {base : Nat} {v : Value} {l : List Ed} (h : DRow w base v l) {b : Nat} {cs : Array Value} {t : TypeId} {fr : Nat × Nat} (hb : w.heap[b]? = some (.cells cs t fr)) (ht : t ≠ 28) : v.ownBlock ≠ some b := by
  intro e
  rcases h.row.2 with ⟨rfl, _⟩ | ⟨g, cap, cur, rfl, _, hh, _⟩
  · simp [Value.ownBlock] at e
  · simp only [Value.ownBlock, Option.some.injEq] at e
    subst e
    rw [hb] at hh
    injection hh with hh
    injection hh with _ hh
    exact ht hh
theorem KeepsOthers.of_below {w w' : World} (h : Below w.heap.size w w') : KeepsOthers w w' :=
  KeepsOthers.of_grownBy (row := none) ⟨h.os, h.tape, h.output, h.size, fun k hk _ => h.block k hk⟩ (fun r o e _ => by cases e)
theorem info28 : (Try.prog.info? 28).map (fun i => (i.zero, i.size, i.bytes)) = some (some (.agg #[.int .i64 0, .int .i64 0, .slice none 0 0]), 3, 40) := by kernel_rfl

set_option maxRecDepth 100000 in
set_option maxHeartbeats 4000000 in
theorem waiting_in {w : World} {bn bm : Nat} {L : List Nd} {K : List (Int × Int)} {lost : Int} (h : NetAt w bn bm L K lost) (hL : L.length ≤ 1000000) (hX : ∀ nd ∈ L, nd.xs.length ≤ 1000000) :
    CallsIn Fence.wide 4 Try.prog 13 #[.pointer (some ⟨bn, 0, none⟩)] w fun e W' => ∃ A c l, e = .returned (.slice A l.length c) ∧ l.map Ed.dg = L.map vw ∧ DRow W' w.heap.size (.slice A l.length c) l ∧ Below w.heap.size w W' := by
  have hbn : bn < w.heap.size := h.lt bn (by simp [blocks])
  have hP := h.pchain
  have c0 := h.cell0
  refine callsIn_of_wp_marks Try.func13 rfl trivial ?_ rfl
  simp only [Try.ntmps13, List.size_toArray, List.length_cons, List.length_nil, Nat.reduceAdd, Nat.reduceSub, Array.replicate_succ, Array.replicate_zero, List.push_toArray, List.append_toArray, List.nil_append, List.cons_append]
  gi_wp2_with (first | (refine ⟨trivial, ?_⟩; gi_at_call 31; refine (callsIn_wide.2 (none_made _ true _ c0)).mono ?_; rintro e w' ⟨rfl, rfl⟩) | (refine ⟨trivial, ?_⟩; gi_at_call 36; refine (all_in Fence.wide (4 - 1) trivial rfl _ _).mono ?_; rintro e w' ⟨rfl, rfl⟩))
  have hB1 : Below w.heap.size w ((w.alloc (.cells #[.slice none 0 0] 22)).alloc (.cells #[.pointer (some ⟨bn, 0, none⟩)] 24)) := below_new _ (below_new _ (Below.refl _ _))
  have d0 : ((w.alloc (.cells #[.slice none 0 0] 22)).alloc (.cells #[.pointer (some ⟨bn, 0, none⟩)] 24)).heap[w.heap.size]? = some (.cells #[.slice none 0 0] 22 (0, 0)) := (Below.heap_alloc _ _ _ (by simp)).trans (heap_alloc_new w _)
  have d3 : ((w.alloc (.cells #[.slice none 0 0] 22)).alloc (.cells #[.pointer (some ⟨bn, 0, none⟩)] 24)).cell? ⟨w.heap.size + 1, 0, none⟩ = some (.pointer (some ⟨bn, 0, none⟩)) := by simp [go_sem]
  have hs0 : ((w.alloc (.cells #[.slice none 0 0] 22)).alloc (.cells #[.pointer (some ⟨bn, 0, none⟩)] 24)).heap.size = w.heap.size + 1 + 1 := by simp
  generalize hW0 : (w.alloc (.cells #[.slice none 0 0] 22)).alloc (.cells #[.pointer (some ⟨bn, 0, none⟩)] 24) = W0 at *
  clear hW0 c0
  refine wpIn_rangeFunc_ownF (n := 4) rfl (by omega) (gf := 49) (lb := #[.pointer (some ⟨w.heap.size + 1, 0, none⟩)]) rfl trivial (enters_of Try.func49 (by kernel_rfl) rfl)
    (all2_stops Fence.wide (4 - 1) trivial rfl (by omega) (w.heap.size + 1) w.heap.size bn L _ (by omega) (by omega) d3 (hP.below hB1)) belowK_t (belowK_b (by omega)) (Below.refl _ _) (fun _ => rfl)
    (fun pre W => (pre.length ≤ L.length ∧ ∃ A c l, l.length = pre.length ∧ l.map Ed.dg = pre.map (fun j => vw L[j.1]) ∧ W.heap[w.heap.size]? = some (.cells #[.slice A l.length c] 22 (0, 0)) ∧ DRow W w.heap.size (.slice A l.length c) l) ∧ Below w.heap.size w W)
    (fun _ _ _ => False)
    (OwnFrom.and (Own.from (fun s A B row hs hg hr => ⟨hs.1, hs.2.imp fun A1 h1 => h1.imp fun c1 h2 => h2.imp fun l h3 => ⟨h3.1, h3.2.1, (cells_on hg hr h3.2.2.1).trans h3.2.2.1, h3.2.2.2.kept (fun g cs t fr _ hh => cells_on hg hr hh)⟩⟩) _) (ownFrom_below (Nat.le_refl _) (by omega)))
    (fun _ _ _ _ _ hs _ _ => hs)
    ⟨⟨by simp, none, 0, [], rfl, rfl, d0, ⟨rfl, .inl ⟨rfl, rfl⟩⟩, fun d hd => by simp at hd⟩, hB1⟩
    ?a1 ?assign ?body ?done ?stop
  case assign =>
    intro l x W K hK
    simp only [encF, zip2_fold]
    simp only [List.setIfInBounds_toArray, List.set_cons_succ, List.set_cons_zero]
    gi_wp2
    exact hK
  case body =>
    rintro l pre x W ⟨⟨hle, A, c, ds, hdl, hdm, hbox, hrow⟩, hB⟩ hlt
    obtain ⟨nd, q, hnd, hnode, hxl, hblt⟩ : ∃ nd q, L[x.1] = nd ∧ NodeAt W nd q ∧ nd.xs.length ≤ 1000000 ∧ nd.b < w.heap.size :=
      ⟨L[x.1], _, rfl, NodeAt.kept (w' := W) (nd := L[x.1]) (Chain.node (nd := L[x.1]) (by simp) h.chain).choose_spec (fun k hk => hB.block k (Chain.lt h.chain k (by
        rw [List.mem_flatMap]; exact ⟨L[x.1], by simp, hk⟩))), hX L[x.1] (by simp), Chain.lt h.chain L[x.1].b (by rw [List.mem_flatMap]; exact ⟨L[x.1], by simp, by simp⟩)⟩
    rw [hnd]
    obtain ⟨An, cn, hvn⟩ := hnode.2.form
    have hrb := hnode.2.rb
    have e0 : W.cell? ⟨nd.b, 0, none⟩ = some (.int .i64 nd.f) := cell_of hnode.1 0 rfl
    have e1 : W.cell? ⟨nd.b, 1, none⟩ = some (.int .i64 nd.t) := cell_of hnode.1 1 rfl
    have e2 : W.cell? ⟨nd.b, 2, none⟩ = some nd.v := cell_of hnode.1 2 rfl
    rw [hvn] at e2 hrb
    have hb3 := hrb.alloc (.cells #[.int .i64 nd.f, .int .i64 nd.t, .slice An nd.xs.length cn] 28)
    have hblk := Lib.hid (heap_alloc_new W (.cells #[.int .i64 nd.f, .int .i64 nd.t, .slice An nd.xs.length cn] 28))
    have hWs := hB.size
    have hbw : w.heap.size < W.heap.size := (Array.getElem?_eq_some_iff.1 hbox).1
    have hnW : nd.b < W.heap.size := by omega
    have HND := Lib.hid hnd
    have HV := Lib.hid hvn
    have HBX := Lib.hid hbox
    clear hnd hvn hbox hnode hrb
    gi_wp2_with fail
    refine ⟨trivial, (CallsIn.inRound l (callsIn_wide.2 (clone_all _ nd.xs _ hb3 hxl))).mono ?_⟩
    rintro e w1 ⟨A1, c1, rfl, hob1, hb1⟩
    have k0 := (hb1.block W.heap.size (by simp)).trans hblk.out
    have kb := (hb1.block w.heap.size (by simp; omega)).trans ((Below.heap_alloc W _ _ hbw).trans HBX.out)
    have q0 : w1.cell? ⟨W.heap.size, 0, none⟩ = some (.int .i64 nd.f) := cell_of k0 0 rfl
    have q1 : w1.cell? ⟨W.heap.size, 1, none⟩ = some (.int .i64 nd.t) := cell_of k0 1 rfl
    have q2 : w1.cell? ⟨W.heap.size, 2, none⟩ = some (.slice An nd.xs.length cn) := cell_of k0 2 rfl
    have g2 := frozen_of k0 2
    have cb : w1.cell? ⟨w.heap.size, 0, none⟩ = some (.slice A ds.length c) := cell_of kb 0 rfl
    have gb := frozen_of kb 0
    have hs1 : W.heap.size < w1.heap.size := by have := hb1.size; simp at this; omega
    have nw : ¬ W.heap.size = w.heap.size := by omega
    have nw2 : ¬ w.heap.size = W.heap.size := by omega
    have hsw : w.heap.size < w1.heap.size := by omega
    obtain ⟨i0, hi, hz0, hz1, hz2⟩ := info_parts info28
    have hrow2 : DRow ((w1.setCell ⟨W.heap.size, 2, none⟩ (.slice A1 nd.xs.length c1)).alloc (.cells #[.int .i64 nd.f, .int .i64 nd.t, .slice A1 nd.xs.length c1] 28)) w.heap.size (.slice A ds.length c) ds :=
      hrow.kept (fun g cs t fr _ hh => by
        have hg := (Array.getElem?_eq_some_iff.1 hh).1
        rw [Below.heap_alloc _ _ _ (by rw [size_setCell]; omega), heap_far _ _ _ (by omega)]
        exact (hb1.block g (by simp; omega)).trans (Below.heap_alloc W _ _ hg))
    have hob2 : OB ((w1.setCell ⟨W.heap.size, 2, none⟩ (.slice A1 nd.xs.length c1)).alloc (.cells #[.int .i64 nd.f, .int .i64 nd.t, .slice A1 nd.xs.length c1] 28)) w.heap.size (.slice A1 nd.xs.length c1) nd.xs :=
      (hob1.mono (by simp; omega)).kept (fun k hk => by
        have := hob1.block k hk
        simp at this
        rw [Below.heap_alloc _ _ _ (by rw [size_setCell]; omega), heap_far _ _ _ (by omega)])
    have hnews : ∀ j u, ([.int .i64 nd.f, .int .i64 nd.t, .slice A1 nd.xs.length c1] : List Value)[j]? = some u → ((w1.setCell ⟨W.heap.size, 2, none⟩ (.slice A1 nd.xs.length c1)).alloc (.cells #[.int .i64 nd.f, .int .i64 nd.t, .slice A1 nd.xs.length c1] 28)).cell? ((⟨w1.heap.size, 0, none⟩ : Addr).add j) = some u :=
      World.news_of_block (cs := #[.int .i64 nd.f, .int .i64 nd.t, .slice A1 nd.xs.length c1]) (by have := heap_alloc_new (w1.setCell ⟨W.heap.size, 2, none⟩ (.slice A1 nd.xs.length c1)) (.cells #[.int .i64 nd.f, .int .i64 nd.t, .slice A1 nd.xs.length c1] 28); rwa [size_setCell] at this)
    have hdl' : ds.length ≤ 1000000 := by omega
    have hszz : w.heap.size ≤ ((w1.setCell ⟨W.heap.size, 2, none⟩ (.slice A1 nd.xs.length c1)).alloc (.cells #[.int .i64 nd.f, .int .i64 nd.t, .slice A1 nd.xs.length c1] 28)).heap.size := by simp only [World.size_alloc, size_setCell]; omega
    have HR := Lib.hid hrow2
    have HOB := Lib.hid hob2
    have HB1 := Lib.hid hb1
    have HNW := Lib.hid hnews
    have HDL := Lib.hid hdl
    have HSZ := Lib.hid hszz
    have hbx3 : ((w1.setCell ⟨W.heap.size, 2, none⟩ (.slice A1 nd.xs.length c1)).alloc (.cells #[.int .i64 nd.f, .int .i64 nd.t, .slice A1 nd.xs.length c1] 28)).heap[w.heap.size]? = some (.cells #[.slice A ds.length c] 22 (0, 0)) := by
      rw [Below.heap_alloc _ _ _ (by rw [size_setCell]; omega), heap_far _ _ _ (by omega)]
      exact kb
    have HBX3 := Lib.hid hbx3
    clear hbx3 k0 kb hob1 hb1 hrow2 hrow e0 e1 e2 hb3 hnews hdl hob2 hszz
    gi_wp2_with (gi_at_builtin; refine wpListIn_append_own _ rfl _ _ 22 rfl w.heap.size 28 i0 (.agg #[.int .i64 0, .int .i64 0, .slice none 0 0]) 3 40 Try.underlying22 hi hz0 hz1 hz2 rfl (by decide) (.slice A ds.length c) ds.length (cellsE ds) (by rfl) HR.out.row ⟨w1.heap.size, 0, none⟩ 1 1 [.int .i64 nd.f, .int .i64 nd.t, .slice A1 nd.xs.length c1] (by rfl) rfl HNW.out (by simp [Value.oneCell']) (by simp only [maxLen]; omega) (by omega) HSZ.out ?_; intro v' w2 hown2 hg2 _; obtain ⟨g', cap', rfl⟩ := ownsRow_succ hown2; have hc2 : w2.cell? ⟨w.heap.size, 0, none⟩ = some (.slice A ds.length c) := cell_of ((hg2.block w.heap.size (by rw [World.size_alloc, size_setCell]; omega) (HR.out.not_row HBX3.out (by decide)).symm).trans HBX3.out) 0 rfl; have hf2 : w2.frozen? ⟨w.heap.size, 0, none⟩ = false := frozen_of ((hg2.block w.heap.size (by rw [World.size_alloc, size_setCell]; omega) (HR.out.not_row HBX3.out (by decide)).symm).trans HBX3.out) 0)
    have hb1 := HB1.out
    have hbW : Below W.heap.size W w1 := below_step hb1 (below_new _ (Below.refl _ _))
    have hbase : ∀ k, (Value.slice A ds.length c).ownBlock = some k → w.heap.size < k := by
      intro k hk
      rcases HR.out.row.2 with ⟨e, _⟩ | ⟨g, cap, cur, e, h0, hh, _⟩
      · rw [e] at hk; simp [Value.ownBlock] at hk
      · rw [e] at hk
        simp only [Value.ownBlock, Option.some.injEq] at hk
        subst hk
        rcases Nat.lt_or_eq_of_le h0 with h1 | h1
        · exact h1
        · subst h1
          rw [HBX3.out] at hh
          injection hh with hh
          injection hh with _ hh
          cases hh
    have hbB : Below (w.heap.size + 1) W w1 := hbW.mono (by omega)
    have hbB2 : Below (w.heap.size + 1) W w2 := (((hbB.setCell (p := ⟨W.heap.size, 2, none⟩) (by dsimp only; omega) _).alloc (by rw [size_setCell]; omega) _)).grown hg2 (by rw [World.size_alloc, size_setCell]; omega) (fun k hk => hbase k hk)
    have hr2 := hown2
    have hWE : ∀ k, k < W.heap.size → ((w1.setCell ⟨W.heap.size, 2, none⟩ (.slice A1 nd.xs.length c1)).alloc (.cells #[.int .i64 nd.f, .int .i64 nd.t, .slice A1 nd.xs.length c1] 28)).heap[k]? = W.heap[k]? := by
      intro k hk
      rw [Below.heap_alloc _ _ _ (by rw [size_setCell]; omega), heap_far _ _ _ (by omega)]
      exact hbW.block k hk
    have hbx2 : w2.heap[w.heap.size]? = some (.cells #[.slice A ds.length c] 22 (0, 0)) := (hg2.block w.heap.size (by rw [World.size_alloc, size_setCell]; omega) (HR.out.not_row HBX3.out (by decide)).symm).trans HBX3.out
    have hbx4 : (w2.setCell ⟨w.heap.size, 0, none⟩ (.slice (some ⟨g', 0, none⟩) (ds.length + 1) cap')).heap[w.heap.size]? = some (.cells #[.slice (some ⟨g', 0, none⟩) (ds.length + 1) cap'] 22 (0, 0)) := heap_set hbx2 0 _
    have hbA : Below w.heap.size w ((w1.setCell ⟨W.heap.size, 2, none⟩ (.slice A1 nd.xs.length c1)).alloc (.cells #[.int .i64 nd.f, .int .i64 nd.t, .slice A1 nd.xs.length c1] 28)) :=
      below_step (k := (hbW.setCell (p := ⟨W.heap.size, 2, none⟩) (Nat.le_refl _) _).alloc (by rw [size_setCell]; omega) _) (h := hB)
    have hB2 : Below w.heap.size w w2 := hbA.grown hg2 HSZ.out (fun k hk => Nat.le_of_lt (hbase k hk))
    have hfin := hB2.setCell (p := ⟨w.heap.size, 0, none⟩) (Nat.le_refl _) (.slice (some ⟨g', 0, none⟩) (ds.length + 1) cap')
    have hg1 : w.heap.size < g' := by
      rcases hown2.2 with ⟨e, _⟩ | ⟨g, cap, cur, e, h0, hh, _⟩
      · cases e
      · injection e with e1
        injection e1 with e1
        injection e1 with e1
        subst e1
        rcases Nat.lt_or_eq_of_le h0 with h1 | h1
        · exact h1
        · subst h1
          rw [hbx2] at hh
          injection hh with hh
          injection hh with _ hh
          cases hh
    have hrow3 : DRow (w2.setCell ⟨w.heap.size, 0, none⟩ (.slice (some ⟨g', 0, none⟩) (ds.length + 1) cap')) w.heap.size (.slice (some ⟨g', 0, none⟩) (ds.length + 1) cap') (ds ++ [⟨nd.f, nd.t, .slice A1 nd.xs.length c1, nd.xs⟩]) := by
      have hbk : ∀ (g : Nat) (cs : Array Value) (fr : Nat × Nat), ((w1.setCell ⟨W.heap.size, 2, none⟩ (.slice A1 nd.xs.length c1)).alloc (.cells #[.int .i64 nd.f, .int .i64 nd.t, .slice A1 nd.xs.length c1] 28)).heap[g]? = some (.cells cs 5 fr) → (w2.setCell ⟨w.heap.size, 0, none⟩ (.slice (some ⟨g', 0, none⟩) (ds.length + 1) cap')).heap[g]? = ((w1.setCell ⟨W.heap.size, 2, none⟩ (.slice A1 nd.xs.length c1)).alloc (.cells #[.int .i64 nd.f, .int .i64 nd.t, .slice A1 nd.xs.length c1] 28)).heap[g]? := by
        intro g cs fr hh
        have hgl := (Array.getElem?_eq_some_iff.1 hh).1
        rw [heap_far _ _ _ (by
          intro e
          subst e
          rw [HBX3.out] at hh
          injection hh with hh
          injection hh with _ hh
          cases hh)]
        exact hg2.block g hgl (HR.out.not_row hh (by decide)).symm
      refine ⟨?_, fun d hd => ?_⟩
      · have := ownsRow_kept (w' := w2.setCell ⟨w.heap.size, 0, none⟩ (.slice (some ⟨g', 0, none⟩) (ds.length + 1) cap')) hown2 (fun g cs t fr hg hh => heap_far _ _ _ (by
          simp only [Value.ownBlock, Option.some.injEq] at hg
          omega))
        simpa [cellsE, Ed.cells] using this
      · rcases List.mem_append.1 hd with hd | hd
        · have ho := HR.out.bytes d hd
          exact ho.kept' (fun g cs fr hg hh => hbk g cs fr hh)
        · simp only [List.mem_singleton] at hd
          subst hd
          exact HOB.out.kept' (fun g cs fr hg hh => hbk g cs fr hh)
    have hmm : (ds ++ [(⟨nd.f, nd.t, .slice A1 nd.xs.length c1, nd.xs⟩ : Ed)]).map Ed.dg = (pre ++ [x]).map (fun j => vw L[j.1]) := by
      simp [hdm, Ed.dg, vw, HND.out]
    have hko : KeepsOthers W (w2.setCell ⟨w.heap.size, 0, none⟩ (.slice (some ⟨g', 0, none⟩) (ds.length + 1) cap')) := by
      refine ((KeepsOthers.of_below ((hbW.setCell (p := ⟨W.heap.size, 2, none⟩) (Nat.le_refl _) (.slice A1 nd.xs.length c1)).alloc (by rw [size_setCell]; omega) (.cells #[.int .i64 nd.f, .int .i64 nd.t, .slice A1 nd.xs.length c1] 28))).trans (KeepsOthers.of_grownBy hg2 (fun r o e hh => ?_))).trans ?_
      · rcases HR.out.row.2 with ⟨e2, _⟩ | ⟨g, cap, cur, e2, h0, hh2, _⟩
        · rw [e2] at e; simp [Value.ownBlock] at e
        · rw [e2] at e
          simp only [Value.ownBlock, Option.some.injEq] at e
          subst e
          rw [hh2] at hh
          injection hh with hh
          subst hh
          rfl
      · exact KeepsOthers.setCell _ _ _
    have hBW : Below w.heap.size W (w2.setCell ⟨w.heap.size, 0, none⟩ (.slice (some ⟨g', 0, none⟩) (ds.length + 1) cap')) :=
      ((((hbW.mono hWs).setCell (p := ⟨W.heap.size, 2, none⟩) hWs (.slice A1 nd.xs.length c1)).alloc (by rw [size_setCell]; omega) (.cells #[.int .i64 nd.f, .int .i64 nd.t, .slice A1 nd.xs.length c1] 28)).grown hg2 HSZ.out (fun k hk => Nat.le_of_lt (hbase k hk))).setCell (p := ⟨w.heap.size, 0, none⟩) (Nat.le_refl _) _
    refine ⟨hko, hBW, ⟨by simp; omega, some ⟨g', 0, none⟩, cap', ds ++ [⟨nd.f, nd.t, .slice A1 nd.xs.length c1, nd.xs⟩], by simp [HDL.out], hmm, by simpa using hbx4, by simpa using hrow3⟩, hfin⟩
  case done =>
    rintro D ys W hD rfl ⟨⟨hle, A, c, ds, hdl, hdm, hbox, hrow⟩, hB⟩ hK
    have cb := cell_of hbox 0 rfl
    gi_wp2
    refine ⟨by simp, .inl ⟨_, _, rfl, run_takeDeferred hK, ?_⟩⟩
    have hpo : ∀ (g : Nat) (cs : Array Value) (t : TypeId) (fr : Nat × Nat), W.heap[g]? = some (.cells cs t fr) → (W.putObj D (.deferred none)).heap[g]? = W.heap[g]? := fun g cs t fr hh => cells_on (grownBy_putObj' _ D (.deferred none)) (fun r e => by cases e; exact ⟨_, hK, rfl⟩) hh
    refine ⟨_, results_tmp rfl _ _ _, A, c, ds, by rw [show ds.length = L.length by simpa using hdl]; rfl, ?_, ?_, hB.trans (belowK_b (w := w) (Nat.le_refl _) W D _ _ (by omega) hK rfl rfl)⟩
    · rw [hdm]
      exact List.ext_getElem (by simp) (fun i h1 h2 => by simp)
    · exact hrow.kept (fun g cs t fr _ hh => hpo g cs t fr hh)
  case stop =>
    rintro D c pre W _ _ h _
    exact h.elim
end Go.Proofs.Ytddndmhjkjanlaa
