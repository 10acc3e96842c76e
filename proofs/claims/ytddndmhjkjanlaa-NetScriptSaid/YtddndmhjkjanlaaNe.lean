/- Plain laws of a net's list in memory: what a store into a next place, or into the head, makes of it. No condition but what a net holds. -/
import Derived.Test.YtddndmhjkjanlaaNd
namespace Go.Proofs.Ytddndmhjkjanlaa
open Go.RowKit Go.Shelf

theorem heap_set {w : World} {b : Nat} {cs : Array Value} {t : TypeId} {fr : Nat × Nat} (h : w.heap[b]? = some (.cells cs t fr)) (o : Nat) (v : Value) :
    (w.setCell ⟨b, o, none⟩ v).heap[b]? = some (.cells (cs.setIfInBounds o v) t fr) := by
  simp [World.setCell, Array.getElem?_modify, h]
theorem heap_far {w : World} (b o : Nat) (v : Value) {k : Nat} (h : k ≠ b) : (w.setCell ⟨b, o, none⟩ v).heap[k]? = w.heap[k]? := Below.heap_setCell w ⟨b, o, none⟩ v k h
theorem cell_of {w : World} {b : Nat} {cs : Array Value} {t : TypeId} {fr : Nat × Nat} (h : w.heap[b]? = some (.cells cs t fr)) (o : Nat) {v : Value} (hv : cs[o]? = some v) : w.cell? ⟨b, o, none⟩ = some v := by
  simp [World.cell?, h, hv]
theorem frozen_of {w : World} {b : Nat} {cs : Array Value} {t : TypeId} (h : w.heap[b]? = some (.cells cs t (0, 0))) (o : Nat) : w.frozen? ⟨b, o, none⟩ = false := by
  simp [World.frozen?, h]

def nodeBlocks (L : List Nd) : List Nat := L.flatMap fun nd => nd.b :: nd.v.ownBlock.toList
theorem nodeBlocks_append (L M : List Nd) : nodeBlocks (L ++ M) = nodeBlocks L ++ nodeBlocks M := by simp [nodeBlocks]
theorem nodeBlocks_cons (nd : Nd) (M : List Nd) : nodeBlocks (nd :: M) = nd.b :: (nd.v.ownBlock.toList ++ nodeBlocks M) := by simp [nodeBlocks]
theorem blocks_eq (bn bm : Nat) (L : List Nd) : blocks bn bm L = bn :: bm :: nodeBlocks L := rfl

/-- The place ahead of what comes behind L. -/
def place (bn : Nat) (L : List Nd) : Nat × Nat := match L.getLast? with
  | none => (bn, 1)
  | some nd => (nd.b, 0)
theorem place_nil (bn : Nat) : place bn [] = (bn, 1) := rfl
theorem place_snoc (bn : Nat) (L : List Nd) (nd : Nd) : place bn (L ++ [nd]) = (nd.b, 0) := by simp [place]

theorem nx_append (L M : List Nd) (h : L ≠ []) : nx (L ++ M) = nx L := by
  cases L with
  | nil => exact absurd rfl h
  | cons a r => rfl
theorem Chain.append_left {w : World} : ∀ {L M : List Nd}, Chain w (L ++ M) → Chain w M
  | [], _, h => h
  | _ :: r, _, h => Chain.append_left (L := r) h.2
/-- The nodes ahead of the last one stand as they stood; the last one has another next. -/
theorem Chain.relink {w w' : World} {nd : Nd} {M N : List Nd} : ∀ {L : List Nd}, Chain w (L ++ nd :: M) →
    (∀ k ∈ nodeBlocks L, w'.heap[k]? = w.heap[k]?) → NodeAt w' nd (nx N) → Chain w' N → Chain w' (L ++ nd :: N)
  | [], _, _, h2, h3 => ⟨h2, h3⟩
  | x :: r, ⟨h0, h1⟩, hb, h2, h3 => by
    refine ⟨?_, Chain.relink (L := r) h1 (fun k hk => hb k (by rw [nodeBlocks_cons]; simp [hk])) h2 h3⟩
    have e : nx (r ++ nd :: N) = nx (r ++ nd :: M) := by cases r <;> rfl
    show NodeAt w' x (nx (r ++ nd :: N))
    rw [e]
    exact h0.kept (fun k hk => hb k (by rw [nodeBlocks_cons]; simp only [List.mem_cons, List.mem_append] at hk ⊢; rcases hk with h | h; exact .inl h; exact .inr (.inl h)))

/-- One node is another, at the same block. -/
theorem chain_change {w w' : World} {nd nd' : Nd} {M M' : List Nd} : ∀ {L : List Nd}, Chain w (L ++ nd :: M) → nd'.b = nd.b →
    (∀ k ∈ nodeBlocks L, w'.heap[k]? = w.heap[k]?) → NodeAt w' nd' (nx M') → Chain w' M' → Chain w' (L ++ nd' :: M')
  | [], _, _, _, h2, h3 => ⟨h2, h3⟩
  | x :: r, ⟨h0, h1⟩, he, hb, h2, h3 => by
    refine ⟨?_, chain_change (L := r) h1 he (fun k hk => hb k (by rw [nodeBlocks_cons]; simp [hk])) h2 h3⟩
    have e : nx (r ++ nd' :: M') = nx (r ++ nd :: M) := by
      cases r with
      | nil => simp [nx, he]
      | cons a s => rfl
    show NodeAt w' x (nx (r ++ nd' :: M'))
    rw [e]
    exact h0.kept (fun k hk => hb k (by rw [nodeBlocks_cons]; simp only [List.mem_cons, List.mem_append] at hk ⊢; rcases hk with h | h; exact .inl h; exact .inr (.inl h)))

/-- The head's cells. -/
def headCells (q : Option Addr) (n : Int) (bm : Nat) (lost : Int) : Array Value :=
  #[.bool true, .int .i64 0, .int .i64 0, .slice none 0 0, .pointer q, .int .i64 n, .map (some bm), .int .i64 lost]

/-- A store into the next place behind L1: the list goes on with M. -/
theorem net_relink {w : World} {bn bm : Nat} {L1 L2 M : List Nd} {n lost : Int} (hh : w.heap[bn]? = some (.cells (headCells (nx (L1 ++ L2)) n bm lost) 61 (0, 0))) (hc : Chain w (L1 ++ L2)) (hM : Chain w M)
    (hd : (bn :: bm :: nodeBlocks (L1 ++ M)).Nodup) {w' : World} (hw : w' = w.setCell ⟨(place bn L1).1, (place bn L1).2 + 3, none⟩ (.pointer (nx M))) :
    w'.heap[bn]? = some (.cells (headCells (nx (L1 ++ M)) n bm lost) 61 (0, 0)) ∧ Chain w' (L1 ++ M) ∧ (∀ k, k ≠ (place bn L1).1 → w'.heap[k]? = w.heap[k]?) ∧ (place bn L1).1 ∈ bn :: nodeBlocks L1 := by
  rcases List.eq_nil_or_concat L1 with rfl | ⟨L0, nd, rfl⟩
  · simp only [place_nil, List.nil_append] at *
    subst hw
    refine ⟨?_, ?_, fun k hk => heap_far _ _ _ hk, by simp⟩
    · rw [heap_set hh]; rfl
    · refine hM.kept (fun k hk => heap_far _ _ _ ?_)
      rintro rfl
      have := (List.nodup_cons.1 hd).1
      exact this (by simp only [List.mem_cons]; exact .inr hk)
  · rw [List.concat_eq_append] at *
    rw [place_snoc] at *
    simp only [List.append_assoc, List.singleton_append] at *
    subst hw
    have hnd := List.nodup_cons.1 hd
    have hnd2 := (List.nodup_cons.1 hnd.2).2
    rw [nodeBlocks_append, nodeBlocks_cons] at hnd2
    have hn : nd.b ∉ nodeBlocks L0 ∧ nd.b ∉ nd.v.ownBlock.toList ∧ nd.b ∉ nodeBlocks M := by
      rw [List.nodup_append] at hnd2
      obtain ⟨_, h2, h3⟩ := hnd2
      have h4 := List.nodup_cons.1 h2
      refine ⟨fun h => h3 _ h _ (by simp) rfl, fun h => h4.1 (by simp [h]), fun h => h4.1 (by simp [h])⟩
    have hbn : bn ≠ nd.b := fun e => hnd.1 (by rw [e, nodeBlocks_append, nodeBlocks_cons]; simp)
    have hN : NodeAt w nd (nx L2) := (Chain.append_left (L := L0) hc).1
    refine ⟨?_, ?_, fun k hk => heap_far _ _ _ hk, by simp [nodeBlocks_append, nodeBlocks_cons]⟩
    · rw [heap_far _ _ _ hbn, hh]
      cases L0 <;> rfl
    · refine Chain.relink hc (fun k hk => heap_far _ _ _ (fun e => hn.1 (e ▸ hk))) ⟨?_, ?_⟩ (hM.kept (fun k hk => heap_far _ _ _ (fun e => hn.2.2 (e ▸ hk))))
      · rw [heap_set hN.1]; rfl
      · exact hN.2.kept (fun k hk => heap_far _ _ _ (fun e => hn.2.1 (e ▸ hk)))

theorem size_setCell (w : World) (a : Addr) (v : Value) : (w.setCell a v).heap.size = w.heap.size := by simp [World.setCell]
theorem ownsRow_base {w : World} {base : Nat} {v : Value} {n : Nat} {xs : List Value} (h : w.ownsRow base 5 1 v n xs) : w.ownsRow 0 5 1 v n xs := by
  obtain ⟨h1, h2⟩ := h
  refine ⟨h1, ?_⟩
  rcases h2 with h2 | ⟨g, cap, cur, hv, hg, r⟩
  · exact .inl h2
  · exact .inr ⟨g, cap, cur, hv, Nat.zero_le _, r⟩
theorem ownsRow_block {w : World} {base : Nat} {v : Value} {n : Nat} {xs : List Value} (h : w.ownsRow base 5 1 v n xs) : ∀ k ∈ v.ownBlock.toList, base ≤ k ∧ k < w.heap.size := by
  intro k hk
  rcases h.2 with ⟨rfl, _⟩ | ⟨g, cap, cur, rfl, hg, hh, _⟩
  · simp [Value.ownBlock] at hk
  · simp [Value.ownBlock] at hk
    subst hk
    exact ⟨hg, (Array.getElem?_eq_some_iff.1 hh).1⟩
theorem ownsRow_at {w w' : World} {base : Nat} {v : Value} {n : Nat} {xs : List Value} (h : w.ownsRow base 5 1 v n xs) (hb : ∀ k ∈ v.ownBlock.toList, w'.heap[k]? = w.heap[k]?) : w'.ownsRow base 5 1 v n xs := by
  obtain ⟨h1, h2⟩ := h
  refine ⟨h1, ?_⟩
  rcases h2 with h2 | ⟨g, cap, cur, rfl, hg, hh, r⟩
  · exact .inl h2
  · exact .inr ⟨g, cap, cur, rfl, hg, (hb g (by simp [Value.ownBlock])).trans hh, r⟩

theorem ownsRow_mono {w : World} {base base' : Nat} {v : Value} {n : Nat} {xs : List Value} (h : w.ownsRow base 5 1 v n xs) (hb : base' ≤ base) : w.ownsRow base' 5 1 v n xs := by
  obtain ⟨h1, h2⟩ := h
  refine ⟨h1, ?_⟩
  rcases h2 with h2 | ⟨g, cap, cur, hv, hg, r⟩
  · exact .inl h2
  · exact .inr ⟨g, cap, cur, hv, Nat.le_trans hb hg, r⟩
theorem Chain.node {w : World} : ∀ {L : List Nd} {nd : Nd}, nd ∈ L → Chain w L → ∃ q, NodeAt w nd q
  | [], _, h, _ => by simp at h
  | x :: r, nd, h, ⟨h1, h2⟩ => by
    rcases List.mem_cons.1 h with rfl | h
    · exact ⟨_, h1⟩
    · exact Chain.node h h2
theorem place_frozen {w : World} {bn bm : Nat} {L L2 : List Nd} {K : List (Int × Int)} {lost : Int} (hN : NetAt w bn bm (L ++ L2) K lost) (o : Nat) : w.frozen? ⟨(place bn L).1, o, none⟩ = false := by
  rcases List.eq_nil_or_concat L with rfl | ⟨L0, nd, rfl⟩
  · exact frozen_of hN.head _
  · rw [List.concat_eq_append, place_snoc]
    obtain ⟨q, h, _⟩ := Chain.node (nd := nd) (by simp) hN.chain
    exact frozen_of h _

theorem ownsRow_form {w : World} {base : Nat} {v : Value} {n : Nat} {xs : List Value} (h : w.ownsRow base 5 1 v n xs) : ∃ A c, v = .slice A n c := by
  rcases h.2 with ⟨rfl, h0⟩ | ⟨g, cap, cur, rfl, _⟩
  · have : n = 0 := by have := h.1; rw [h0] at this; simp at this; omega
    subst this
    exact ⟨_, _, rfl⟩
  · exact ⟨_, _, rfl⟩

/-- A new node, of its own bytes, is laid behind the last one, and counted. -/
theorem net_push {w w1 : World} {bn bm : Nat} {L : List Nd} {K : List (Int × Int)} {lost f t : Int} {v : Value} {xs : List UInt8} {q : Nat × Nat} (hN : NetAt w bn bm L K lost) (hu : Upd (fun _ => False) w w1)
    (ho : OB w1 w.heap.size v xs) (hq : q = place bn L) :
    let W := (((w1.setCell ⟨q.1, q.2 + 3, none⟩ (.pointer (some ⟨w1.heap.size, 0, none⟩))).setCell ⟨bn, 5, none⟩ (.int .i64 ((L.length : Int) + 1))).alloc (.cells #[.int .i64 f, .int .i64 t, v, .pointer none] 58))
    NetAt W bn bm (L ++ [⟨w1.heap.size, f, t, v, xs⟩]) K lost ∧ Upd (· ∈ blocks bn bm L) w W ∧ (∀ k ∈ nodeBlocks [⟨w1.heap.size, f, t, v, xs⟩], w.heap.size ≤ k) := by
  intro W
  have hlt := hN.lt
  have hN1 : NetAt w1 bn bm L K lost := hN.upd hu (fun _ _ h => h)
  have hlt1 := hN1.lt
  have hbn := hlt1 bn (by simp [blocks])
  have hq1 : q.1 ∈ bn :: nodeBlocks L := by
    rw [hq]
    rcases List.eq_nil_or_concat L with rfl | ⟨L0, nd, rfl⟩
    · simp [place]
    · rw [List.concat_eq_append, place_snoc]; simp [nodeBlocks]
  have hq2 : q.1 < w1.heap.size := by
    refine hlt1 _ ?_
    rw [blocks_eq]
    simp only [List.mem_cons] at hq1 ⊢
    exact hq1.elim .inl (fun h => .inr (.inr h))
  have hW : W = (((w1.alloc (.cells #[.int .i64 f, .int .i64 t, v, .pointer none] 58)).setCell ⟨q.1, q.2 + 3, none⟩ (.pointer (some ⟨w1.heap.size, 0, none⟩))).setCell ⟨bn, 5, none⟩ (.int .i64 ((L.length : Int) + 1))) := by
    rw [World.setCell_alloc_past _ _ _ _ hq2, World.setCell_alloc_past _ _ _ _ (by rw [size_setCell]; exact hbn)]
  have hown := ho.block
  have hsz := hu.size
  have hnew : ∀ k ∈ nodeBlocks [(⟨w1.heap.size, f, t, v, xs⟩ : Nd)], w.heap.size ≤ k := by
    intro k hk
    simp only [nodeBlocks, List.flatMap_cons, List.flatMap_nil, List.append_nil, List.mem_cons] at hk
    rcases hk with rfl | hk
    · exact hsz
    · exact (hown k hk).1
  have hNa : NetAt (w1.alloc (.cells #[.int .i64 f, .int .i64 t, v, .pointer none] 58)) bn bm L K lost := hN1.upd (S := fun _ => False) ((Upd.refl _ _).alloc _) (fun _ _ h => h)
  have hnode : Chain (w1.alloc (.cells #[.int .i64 f, .int .i64 t, v, .pointer none] 58)) [(⟨w1.heap.size, f, t, v, xs⟩ : Nd)] := by
    refine ⟨⟨heap_alloc_new w1 _, ?_⟩, trivial⟩
    exact (ho.mono (Nat.zero_le _)).kept (fun k hk => Below.heap_alloc _ _ _ (hown k hk).2)
  have hnd : (bn :: bm :: nodeBlocks (L ++ [(⟨w1.heap.size, f, t, v, xs⟩ : Nd)])).Nodup := by
    rw [nodeBlocks_append, ← List.cons_append, ← List.cons_append]
    refine List.nodup_append.2 ⟨hN.apart, ?_, ?_⟩
    · simp only [nodeBlocks, List.flatMap_cons, List.flatMap_nil, List.append_nil]
      refine List.nodup_cons.2 ⟨fun h => by have := (hown _ h).2; omega, ?_⟩
      cases v.ownBlock <;> simp
    · intro a ha b hb e
      subst e
      have h1 := hnew a hb
      have h2 := hlt a ha
      omega
  obtain ⟨r1, r2, r3, r4⟩ := net_relink (L1 := L) (L2 := []) (M := [⟨w1.heap.size, f, t, v, xs⟩]) (w' := (w1.alloc (.cells #[.int .i64 f, .int .i64 t, v, .pointer none] 58)).setCell ⟨q.1, q.2 + 3, none⟩ (.pointer (some ⟨w1.heap.size, 0, none⟩))) (by rw [List.append_nil]; exact hNa.head) (by rw [List.append_nil]; exact hNa.chain) hnode hnd (by rw [hq]; rfl)
  rw [← hq] at r3 r4
  rw [hW]
  refine ⟨⟨?_, ?_, ?_, hnd⟩, ?_, hnew⟩
  · rw [heap_set r1]
    simp [headCells]
  · refine r2.kept (fun k hk => heap_far _ _ _ ?_)
    rintro rfl
    exact (List.nodup_cons.1 hnd).1 (by simp only [List.mem_cons]; exact .inr hk)
  · have hbm : bm ≠ bn := by
      rintro rfl
      exact (List.nodup_cons.1 hnd).1 (by simp)
    have hbq : bm ≠ q.1 := by
      rintro rfl
      have h2 := (List.nodup_cons.1 (List.nodup_cons.1 hN.apart).2).1
      simp only [List.mem_cons] at hq1
      exact hq1.elim (fun e => hbm e) (fun h => h2 h)
    exact hNa.cuts.kept ((heap_far _ _ _ hbm).trans (r3 _ hbq))
  · have h0 : Upd (· ∈ blocks bn bm L) w w1 := hu.mono (fun _ _ h => h.elim)
    refine ((h0.alloc _).setCell (.inl ?_) _).setCell (.inl (by simp [blocks])) _
    rw [blocks_eq]
    simp only [List.mem_cons] at hq1 ⊢
    exact hq1.elim .inl (fun h => .inr (.inr h))
end Go.Proofs.Ytddndmhjkjanlaa
