/- A net and the document's, side by side. Conditions: both hold the same. -/
import Derived.Test.YtddndmhjkjanlaaRm
namespace Go.Proofs.Ytddndmhjkjanlaa
open Go.RowKit Go.Shelf
variable {w : World} {bn r base : Nat} {M : St} {Kp : List Nat}

/-- A net at bn and the document's at r hold the same; Kp: the blocks of the latter. -/
structure Pair (w : World) (bn r : Nat) (M : St) (base : Nat) (Kp : List Nat) : Prop where
  ns : NS w bn M base Kp
  rn : RNet w r M Kp
  lo : ∀ k ∈ Kp, base ≤ k
theorem Pair.below {w' : World} (h : Pair w bn r M base Kp) (hb : Below w.heap.size w w') : Pair w' bn r M base Kp := ⟨h.ns.below hb, h.rn.below hb, h.lo⟩
/-- A call of the law's own part: what the two hold then, and what else is as it was. -/
def PEnd (w w' : World) (bn r : Nat) (M' : St) (base : Nat) : Prop := ∃ Kp', Pair w' bn r M' base Kp' ∧ Below base w w'
theorem NS.kmore {w' : World} (h : NS w bn M base Kp) {Kp' : List Nat} (hs : ∀ k ∈ Kp', k ∈ Kp) (u : Upd (· ∈ Kp') w w') : NS w' bn M base (Kmore Kp' w w') := by
  have h2 := h.less hs
  have h' := h2.upd u (fun k hk _ e => hk.2 e)
  obtain ⟨bm, L, h1, hL, h3⟩ := h2.net
  obtain ⟨bm', L', g1, g2, g3⟩ := h'.net
  refine ⟨h.ok, fun k hk => ?_, h'.bound, bm, L, h1, hL.upd u (fun k hk e => (h3 k hk).2 e), fun k hk => ⟨(h3 k hk).1, fun e => ?_⟩⟩
  · rcases mem_kmore.1 hk with hk | hk
    · exact h'.lt k hk
    · exact hk.2
  · rcases mem_kmore.1 e with e | e
    · exact (h3 k hk).2 e
    · have := hL.lt k hk; omega
theorem Upd.base_below {S : Nat → Prop} {w' : World} (u : Upd S w w') (hb : base ≤ w.heap.size) (hs : ∀ k, S k → base ≤ k) : Below base w w' := u.below hb hs
/-- A call of the net, then the same of the document's. -/
theorem pair_end {w0 w1 w2 : World} {b : Nat} {M1 : St} (hlo : ∀ k ∈ Kp, base ≤ k) (hb0 : Below base w w0) (hsz : base ≤ w0.heap.size) (N1 : NS w1 bn M1 base (b :: Kp)) (u1 : Upd (Far base (b :: Kp)) w0 w1) (RS : RStep w1 w2 r M1 Kp) : PEnd w w2 bn r M1 base := by
  have hbase0 : base ≤ w1.heap.size := N1.bound
  refine ⟨Kmore Kp w1 w2, ⟨N1.kmore (fun k hk => List.mem_cons_of_mem _ hk) RS.upd, RS.net, fun k hk => ?_⟩, ?_⟩
  · rcases mem_kmore.1 hk with hk | hk
    · exact hlo k hk
    · omega
  · exact hb0.trans ((u1.below hsz (fun _ h => h.1)).trans (RS.upd.below hbase0 hlo))

/-- The call as it lies in a box. -/
def boxOf (kind i k : Int) (is : Bool) (f t : Int) (v : Value) : Obj := .cells #[.int .i64 kind, .int .i64 i, .int .i64 k, .bool is, .int .i64 f, .int .i64 t, v] 53
/-- What the region of a call of both reads. -/
theorem box_cells {w : World} {b : Nat} {kind i k : Int} {is : Bool} {f t : Int} {v : Value} (h : w.heap[b]? = some (boxOf kind i k is f t v)) :
    w.cell? ⟨b, 0, none⟩ = some (.int .i64 kind) ∧ w.cell? ⟨b, 1, none⟩ = some (.int .i64 i) ∧ w.cell? ⟨b, 2, none⟩ = some (.int .i64 k) ∧ w.cell? ⟨b, 3, none⟩ = some (.bool is) ∧ w.cell? ⟨b, 4, none⟩ = some (.int .i64 f) ∧ w.cell? ⟨b, 5, none⟩ = some (.int .i64 t) ∧ w.cell? ⟨b, 6, none⟩ = some v :=
  ⟨cell_of h 0 rfl, cell_of h 1 rfl, cell_of h 2 rfl, cell_of h 3 rfl, cell_of h 4 rfl, cell_of h 5 rfl, cell_of h 6 rfl⟩
/-- Ready for a call of both: the pair behind the box. -/
structure Ready (w : World) (bn r : Nat) (M : St) (base : Nat) (Kp : List Nat) (kind i k : Int) (is : Bool) (f t : Int) (v : Value) : Prop where
  ns : NS (w.alloc (boxOf kind i k is f t v)) bn M base (w.heap.size :: Kp)
  rn : RNet (w.alloc (boxOf kind i k is f t v)) r M Kp
  lo : ∀ k ∈ Kp, base ≤ k
  lt : ∀ k ∈ Kp, k < w.heap.size
  bx : (w.alloc (boxOf kind i k is f t v)).heap[w.heap.size]? = some (boxOf kind i k is f t v)
  sz : base ≤ w.heap.size
theorem Pair.ready (h : Pair w bn r M base Kp) (kind i k : Int) (is : Bool) (f t : Int) (v : Value) : Ready w bn r M base Kp kind i k is f t v :=
  ⟨h.ns.more (below_new _ (Below.refl _ _)) [w.heap.size] (by simp), h.rn.below (below_new _ (Below.refl _ _)), h.lo, h.ns.lt, heap_alloc_new w _, h.ns.bound⟩
/-- Behind the net's call: the box is as it was; the document's net too. -/
theorem Ready.then {kind i k : Int} {is : Bool} {f t : Int} {v : Value} (h : Ready w bn r M base Kp kind i k is f t v) {w1 : World} (u : Upd (Far base (w.heap.size :: Kp)) (w.alloc (boxOf kind i k is f t v)) w1) :
    w1.heap[w.heap.size]? = some (boxOf kind i k is f t v) ∧ RNet w1 r M Kp ∧ ∀ k ∈ Kp, k < w1.heap.size := by
  refine ⟨(u.block _ (Array.getElem?_eq_some_iff.1 h.bx).1 (fun e => e.2 (by simp))).trans h.bx, h.rn.upd u (fun q hq e => e.2 (List.mem_cons_of_mem _ hq)), fun q hq => ?_⟩
  have := h.lt q hq
  have := u.size
  simp at this
  omega
theorem Ready.box2 {kind i k : Int} {is : Bool} {f t : Int} {v : Value} (h : Ready w bn r M base Kp kind i k is f t v) {w1 w2 : World} (hx : w1.heap[w.heap.size]? = some (boxOf kind i k is f t v)) (u : Upd (· ∈ Kp) w1 w2) : w2.heap[w.heap.size]? = some (boxOf kind i k is f t v) :=
  (u.block _ (Array.getElem?_eq_some_iff.1 hx).1 (fun e => by have := h.lt _ e; omega)).trans hx
theorem Ready.fin {kind i k : Int} {is : Bool} {f t : Int} {v : Value} (h : Ready w bn r M base Kp kind i k is f t v) {w1 w2 : World} {M1 : St} (N1 : NS w1 bn M1 base (w.heap.size :: Kp)) (u1 : Upd (Far base (w.heap.size :: Kp)) (w.alloc (boxOf kind i k is f t v)) w1) (RS : RStep w1 w2 r M1 Kp) : PEnd w w2 bn r M1 base :=
  pair_end h.lo ((below_new _ (Below.refl _ w)).mono h.sz) (by simp; have := h.sz; omega) N1 u1 RS

end Go.Proofs.Ytddndmhjkjanlaa
