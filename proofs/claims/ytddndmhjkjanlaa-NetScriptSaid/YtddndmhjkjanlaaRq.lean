/- A call of a net and of the document's, any other kind (Send). Conditions: both hold the same; at most 10^6 bytes. -/
import Derived.Test.YtddndmhjkjanlaaRp
namespace Go.Proofs.Ytddndmhjkjanlaa
open Go.RowKit Go.Shelf
variable {w : World} {bn r base : Nat} {M : St} {Kp : List Nat}

/-- The three blocks as they were laid. -/
structure Trip (w W : World) (g : Nat) (kind i k : Int) (is : Bool) (f t : Int) (A : Option Addr) (xs : List UInt8) (c : Nat) : Prop where
  bx : W.heap[w.heap.size]? = some (boxOf kind i k is f t (.slice A xs.length c))
  dx : W.heap[w.heap.size + 1]? = some (.cells #[.int .i64 f, .int .i64 t, .slice (some ⟨g, 0, none⟩) xs.length (xs.length + 3)] 28 (0, 0))
  cs : W.heap[g]? = some (.cells (byv (xs ++ marksB xs.length)).toArray 5 (0, 0))
theorem Trip.cells {W : World} {g : Nat} {kind i k : Int} {is : Bool} {f t : Int} {A : Option Addr} {xs : List UInt8} {c : Nat} (h : Trip w W g kind i k is f t A xs c) :
    W.cell? ⟨w.heap.size + 1, 0, none⟩ = some (.int .i64 f) ∧ W.cell? ⟨w.heap.size + 1, 1, none⟩ = some (.int .i64 t) ∧ W.cell? ⟨w.heap.size + 1, 2, none⟩ = some (.slice (some ⟨g, 0, none⟩) xs.length (xs.length + 3)) ∧
    W.cell? ⟨w.heap.size, 4, none⟩ = some (.int .i64 f) ∧ W.cell? ⟨w.heap.size, 5, none⟩ = some (.int .i64 t) ∧ W.cell? ⟨w.heap.size, 6, none⟩ = some (.slice A xs.length c) := by
  obtain ⟨-, -, -, -, c4, c5, c6⟩ := box_cells h.bx
  exact ⟨cell_of h.dx 0 rfl, cell_of h.dx 1 rfl, cell_of h.dx 2 rfl, c4, c5, c6⟩
theorem Trip.move {W W' : World} {g : Nat} {kind i k : Int} {is : Bool} {f t : Int} {A : Option Addr} {xs : List UInt8} {c : Nat} (h : Trip w W g kind i k is f t A xs c) {S : Nat → Prop} (u : Upd S W W') (hs : ∀ q, S q → q ≠ w.heap.size ∧ q ≠ w.heap.size + 1 ∧ q ≠ g) : Trip w W' g kind i k is f t A xs c :=
  ⟨(u.block _ (Array.getElem?_eq_some_iff.1 h.bx).1 (fun e => (hs _ e).1 rfl)).trans h.bx, (u.block _ (Array.getElem?_eq_some_iff.1 h.dx).1 (fun e => (hs _ e).2.1 rfl)).trans h.dx, (u.block _ (Array.getElem?_eq_some_iff.1 h.cs).1 (fun e => (hs _ e).2.2 rfl)).trans h.cs⟩
structure SRdy (w W : World) (bn r : Nat) (M : St) (base : Nat) (Kp : List Nat) (g : Nat) (kind i k : Int) (is : Bool) (f t : Int) (A : Option Addr) (xs : List UInt8) (c : Nat) : Prop where
  T : Trip w W g kind i k is f t A xs c
  ns : NS W bn M base (w.heap.size :: (w.heap.size + 1) :: g :: Kp)
  rn : RNet W r M Kp
  lo : ∀ q ∈ Kp, base ≤ q
  lt : ∀ q ∈ Kp, q < w.heap.size
  sz : base ≤ w.heap.size
  bel : Below w.heap.size w W
  gl : w.heap.size + 1 < g
theorem SRdy.then {W : World} {g : Nat} {kind i k : Int} {is : Bool} {f t : Int} {A : Option Addr} {xs : List UInt8} {c : Nat} (h : SRdy w W bn r M base Kp g kind i k is f t A xs c) {w4 : World} (u : Upd (Far base (w.heap.size :: (w.heap.size + 1) :: g :: Kp)) W w4) :
    Trip w w4 g kind i k is f t A xs c ∧ RNet w4 r M Kp ∧ (∀ q ∈ Kp, q < w4.heap.size) ∧ Below base w w4 := by
  refine ⟨h.T.move u (fun q hq => ?_), h.rn.upd u (fun q hq e => e.2 (by simp [hq])), fun q hq => ?_, (h.bel.mono h.sz).trans (u.below (Nat.le_trans h.sz h.bel.size) (fun _ h => h.1))⟩
  · have := hq.2
    simp only [List.mem_cons, not_or] at this
    exact ⟨this.1, this.2.1, this.2.2.1⟩
  · have := h.lt q hq
    have := h.bel.size
    have := u.size
    omega
theorem SRdy.then2 {W : World} {g : Nat} {kind i k : Int} {is : Bool} {f t : Int} {A : Option Addr} {xs : List UInt8} {c : Nat} (h : SRdy w W bn r M base Kp g kind i k is f t A xs c) {w4 w5 : World} (T : Trip w w4 g kind i k is f t A xs c) (B : Below base w w4) (u : Upd (· ∈ Kp) w4 w5) :
    Trip w w5 g kind i k is f t A xs c ∧ Below base w w5 := by
  refine ⟨T.move u (fun q hq => ?_), B.trans (u.below (Nat.le_trans h.sz B.size) h.lo)⟩
  have := h.lt q hq
  have := h.gl
  omega

set_option maxRecDepth 100000 in
set_option maxHeartbeats 4000000 in
theorem both_send (h : Pair w bn r M base Kp) (kind i k : Int) (is : Bool) (f t : Int) (A : Option Addr) (xs : List UInt8) (c : Nat) (hl : M.lost < 1000000) (hxl : xs.length ≤ 1000000) (harg : ∀ W, Below base w W → RB W (.slice A xs.length c) xs)
    (k3 : (kind == 3) = false) (k4 : (kind == 4) = false) (k5 : (kind == 5) = false) (k6 : (kind == 6) = false) (k7 : (kind == 7) = false) (k8 : (kind == 8) = false) :
    Calls Try.prog 26 #[.pointer (some ⟨bn, 0, none⟩), .pointer (some ⟨r, 0, none⟩), .agg #[.int .i64 kind, .int .i64 i, .int .i64 k, .bool is, .int .i64 f, .int .i64 t, .slice A xs.length c]] w fun e w' => e = .returned (.bool true) ∧ PEnd w w' bn r (M.send (f, t, xs)).2 base := by
  have hsz := h.ns.bound
  obtain ⟨res, hres⟩ : ∃ res, M.send (f, t, xs) = res := ⟨_, rfl⟩
  obtain ⟨e1, M1⟩ := res
  rw [hres]
  dsimp only []
  have HRES := Lib.hid hres
  clear hres
  obtain ⟨W1, hW1⟩ : ∃ W1, (w.alloc (.cells #[.int .i64 kind, .int .i64 i, .int .i64 k, .bool is, .int .i64 f, .int .i64 t, .slice A xs.length c] 53)).alloc (.cells #[.int .i64 f, .int .i64 t, .slice A xs.length c] 28) = W1 := ⟨_, rfl⟩
  have b1 : Below w.heap.size w W1 := hW1 ▸ below_new _ (below_new _ (Below.refl _ _))
  have s1 : W1.heap.size = w.heap.size + 2 := by rw [← hW1]; simp
  have x1 : W1.heap[w.heap.size]? = some (boxOf kind i k is f t (.slice A xs.length c)) := by
    rw [← hW1, Below.heap_alloc _ _ _ (by simp)]; exact heap_alloc_new w _
  have x2 : W1.heap[w.heap.size + 1]? = some (.cells #[.int .i64 f, .int .i64 t, .slice A xs.length c] 28 (0, 0)) := by
    rw [← hW1]
    have := heap_alloc_new (w.alloc (.cells #[.int .i64 kind, .int .i64 i, .int .i64 k, .bool is, .int .i64 f, .int .i64 t, .slice A xs.length c] 53)) (.cells #[.int .i64 f, .int .i64 t, .slice A xs.length c] 28)
    rwa [World.size_alloc] at this
  have hb0 := box_cells (heap_alloc_new w (boxOf kind i k is f t (.slice A xs.length c)))
  unfold boxOf at hb0
  obtain ⟨a0, -, -, -, a4, a5, a6⟩ := hb0
  have hb1 := box_cells x1
  obtain ⟨c0, -, -, -, c4, c5, c6⟩ := hb1
  have H := Lib.hid h; have HA := Lib.hid harg; have HB1 := Lib.hid b1; have HS1 := Lib.hid s1; have HX1 := Lib.hid x1; have HX2 := Lib.hid x2
  clear h harg b1 s1 x1 x2
  go_enter Try.func26, Try.ntmps26
  go_wp2_with fail
  refine (lent_any (.slice A xs.length c) xs _ (HA.out W1 (HB1.out.mono hsz)) hxl).mono ?_
  rintro e w3 ⟨rfl, hg, b13⟩
  have hd3 := (b13.block (w.heap.size + 1) (by have := HS1.out; omega)).trans HX2.out
  have d0 := cell_of hd3 0 rfl
  have d1 := cell_of hd3 1 rfl
  have d2 := cell_of hd3 2 rfl
  have df := frozen_of hd3 2
  obtain ⟨g, hgd⟩ : ∃ g, W1.heap.size = g := ⟨_, rfl⟩
  rw [hgd] at hg ⊢
  have hgl : w.heap.size + 1 < g := by have := HS1.out; omega
  obtain ⟨W, hW⟩ : ∃ W, w3.setCell ⟨w.heap.size + 1, 2, none⟩ (.slice (some ⟨g, 0, none⟩) xs.length (xs.length + 3)) = W := ⟨_, rfl⟩
  have SR : SRdy w W bn r M base Kp g kind i k is f t A xs c := by
    have hlt := (Array.getElem?_eq_some_iff.1 hg).1
    have bel : Below w.heap.size w W := by rw [← hW]; exact (below_step b13 HB1.out).setCell (p := ⟨w.heap.size + 1, 2, none⟩) (by simp) _
    have szW : W.heap.size = w3.heap.size := by rw [← hW, size_setCell]
    refine ⟨⟨?_, ?_, ?_⟩, ?_, H.out.rn.below bel, H.out.lo, H.out.ns.lt, hsz, bel, hgl⟩
    · rw [← hW, heap_far _ _ _ (by omega), b13.block _ (by have := HS1.out; omega)]; exact HX1.out
    · rw [← hW]
      exact heap_set hd3 2 _
    · rw [← hW, heap_far _ _ _ (by omega)]; exact hg
    · exact H.out.ns.more bel [w.heap.size, w.heap.size + 1, g] (by
        intro q hq
        simp only [List.mem_cons, List.not_mem_nil, or_false] at hq
        rw [szW]
        omega)
  have hP := (SR.ns.below (Below.refl _ W).drew).send (f, t, xs) (.slice (some ⟨g, 0, none⟩) xs.length (xs.length + 3)) ((lent_ob (base := 0) (Nat.zero_le _) hxl SR.T.cs).rb) hl
  have hR : ∀ w1, RNet w1 r M Kp → (∀ q ∈ Kp, q < w1.heap.size) → RB w1 (.slice A xs.length c) xs → Calls Try.prog 47 #[.pointer (some ⟨r, 0, none⟩), .agg #[.int .i64 f, .int .i64 t, .slice A xs.length c]] w1 fun e w' => e = .returned (.int .i64 (M.send (f, t, xs)).1) ∧ RStep w1 w' r (M.send (f, t, xs)).2 Kp := fun w1 hn hk hv => rsend_any hn hk hl (f, t, xs) _ hv
  rw [HRES.out] at hP hR
  dsimp only [] at hP hR
  obtain ⟨y0, y1, y2, y3, y4, y5⟩ := SR.T.cells
  have HP := Lib.hid hP; have HR := Lib.hid hR; have HSR := Lib.hid SR
  clear hP hR SR hg b13 hd3
  go_wp2_with fail
  go_region_held3 (fun w' => w'.cell? ⟨w.heap.size + 1, 0, none⟩ = some (.int .i64 f) ∧ w'.cell? ⟨w.heap.size + 1, 1, none⟩ = some (.int .i64 t) ∧ w'.cell? ⟨w.heap.size + 1, 2, none⟩ = some (.slice (some ⟨g, 0, none⟩) xs.length (xs.length + 3)) ∧ w'.cell? ⟨w.heap.size, 4, none⟩ = some (.int .i64 f) ∧ w'.cell? ⟨w.heap.size, 5, none⟩ = some (.int .i64 t) ∧ w'.cell? ⟨w.heap.size, 6, none⟩ = some (.slice A xs.length c))
    ((first | exact ⟨y0, y1, y2, y3, y4, y5⟩ | exact T6.out.cells | exact T5.out.1.cells | exact T4.out.1.cells))
    (first
      | (go_at_call 11; refine HP.out.mono ?_; rintro e w4 ⟨rfl, N4, u40⟩; have u4 := Upd.old (Below.refl _ W).drew u40; clear u40; have T4 := Lib.hid (HSR.out.then u4); replace N4 := Lib.hid N4; replace u4 := Lib.hid u4)
      | (go_at_call 47; refine (HR.out w4 T4.out.2.1 T4.out.2.2.1 (HA.out _ T4.out.2.2.2)).mono ?_; rintro e w5 ⟨rfl, RS⟩; have T5 := Lib.hid (HSR.out.then2 T4.out.1 T4.out.2.2.2 RS.upd); replace RS := Lib.hid RS)
      | (go_at_call 48; refine (kept_any g (.slice A xs.length c) xs w5 (HA.out _ T5.out.2) hxl T5.out.1.cs).mono ?_; rintro e w6 ⟨rfl, b56⟩; have T6 := Lib.hid (T5.out.1.move (S := fun _ => False) (Upd.of_below b56) (fun _ h => h.elim)); replace b56 := Lib.hid b56))
  all_goals
    clear y0 y1 y2 y3 y4 y5
    have q2 := T6.out.cells.2.2.1
    have ob6 := Lib.hid (lent_ob (w := w6) (base := base) (show base ≤ g by omega) hxl T6.out.cs)
    go_wp2_with fail
    refine (over_ob ob6.out).mono ?_
    rintro e w8 ⟨rfl, u8⟩
    replace u8 := Lib.hid u8
    clear q2
    go_wp2
    go_ret
    refine ⟨rfl, take_fin (w0 := W) (w1 := w4) (w2 := w4) (b := w.heap.size) (v := .slice (some ⟨g, 0, none⟩) xs.length (xs.length + 3)) (xs := xs) HSR.out.lo (HSR.out.bel.mono hsz) (Nat.le_trans hsz HSR.out.bel.size) (lent_ob (by omega) hxl T4.out.1.cs) (N4.out.less (fun q hq => ?_)) (u4.out.mono (fun q _ hq => ⟨hq.1, fun e => hq.2 ?_⟩)) (fun q hq e => ?_) (Below.refl _ _) RS.out b56.out u8.out⟩
    · simp only [Value.ownBlock, Option.toList, List.cons_append, List.nil_append, List.mem_cons] at hq
      simp only [List.mem_cons]
      rcases hq with hq | hq | hq
      · exact .inr (.inr (.inl hq))
      · exact .inl hq
      · exact .inr (.inr (.inr hq))
    · simp only [List.mem_cons] at e ⊢
      rcases e with e | e
      · exact .inl e
      · exact .inr (.inr (.inr e))
    · simp only [Value.ownBlock, Option.toList, List.mem_cons, List.not_mem_nil, or_false] at hq
      subst hq
      rcases List.mem_cons.1 e with e | e
      · omega
      · have := HSR.out.lt _ e; omega
end Go.Proofs.Ytddndmhjkjanlaa
