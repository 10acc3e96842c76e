/- The document's net: own, a datagram in memory of its own. Conditions: at most 10^6 bytes. -/
import Derived.Test.YtddndmhjkjanlaaRb
namespace Go.Proofs.Ytddndmhjkjanlaa
open Go.RowKit Go.Shelf
variable {w : World} {r : Nat} {M : St} {Kp : List Nat}

theorem run_append_none (w : World) (base : Nat) (ty : TypeId) (v : Value) (xs : List UInt8) (h : OB w base v xs) : (Builtin.append_ #[26, 26] ty #[v, .slice none 0 0]).run Try.prog w = .ok v w := by
  obtain ⟨i, hi, hz0, hz1, hz2⟩ := info_parts info5
  rcases h.own.2 with ⟨rfl, _⟩ | ⟨g, cap, cur, rfl, _, hh, hnc, _⟩
  · simp [Builtin.append_, run_underlying Try.underlying26, sizeOf, typeInfo, hi, Builtin.lenOf, Builtin.firstCells]
  · simp [Builtin.append_, run_underlying Try.underlying26, sizeOf, typeInfo, hi, Builtin.lenOf, Builtin.firstCells, hnc, storeCells]
theorem wpList_append_rb {w : World} {ops : Array Oper} {rest : List Oper} {o : Oper} {a : Act} {Q : Exit → Act → World → Prop} (hgd : o.guard = none) (s x : Operand)
    (ho : o.op = .call { callee := .builtin .append, args := #[s, x], argTypes := #[26, 26] }) (base : Nat) (v : Value) (xs ys : List UInt8) (hs : a.eval s = v) (h : OB w base v xs) (u : Value) (hx : a.eval x = u)
    (hu : RB w u ys) (hsm : xs.length + ys.length ≤ 140737488355328) (hbase : base ≤ w.heap.size)
    (k : ∀ A cap w', OB w' base (.slice A (xs ++ ys).length cap) (xs ++ ys) → w.grownBy w' v.ownBlock → ((Value.slice A (xs ++ ys).length cap).ownBlock = v.ownBlock ∨ (Value.slice A (xs ++ ys).length cap).ownBlock = some w.heap.size) → wpList Try.prog ops Q rest (a.put o.dst (.slice A (xs ++ ys).length cap)) w') :
    wpList Try.prog ops Q (o :: rest) a w := by
  obtain ⟨A, c, rfl, h0, hc⟩ := hu
  cases A with
  | some ad => exact wpList_append_bytes hgd s x ho base v xs ys hs h ad c hx (fun j hj => hc ad rfl j hj) hsm hbase k
  | none =>
    obtain ⟨rfl, rfl⟩ := h0 rfl
    refine wpList_plain hgd fun K hK => ?_
    have hr := run_append_none w base o.type v xs h
    obtain ⟨A, c', rfl⟩ := h.form
    unfold Oper.wp execOp
    simp only [ho, resolve, invoke, builtin, Sem.run_bind, Sem.run_pure, Result.andThen_ok, List.map_toArray, List.map_cons, List.map_nil, hs, hx, List.length_nil, hr]
    have := k A c' w (by simpa using h) ⟨rfl, rfl, rfl, Nat.le_refl _, fun _ _ _ => rfl⟩ (.inl (by simp))
    rw [List.append_nil] at this
    exact hK _ _ this

set_option maxHeartbeats 1000000 in
theorem own_any (f t : Int) (v : Value) (xs : List UInt8) (w : World) (h : RB w v xs) (hl : xs.length ≤ 1000000) :
    Calls Try.prog 51 #[.agg #[.int .i64 f, .int .i64 t, v]] w fun e w' => ∃ A c, e = .returned (.agg #[.int .i64 f, .int .i64 t, .slice A xs.length c]) ∧ OB w' w.heap.size (.slice A xs.length c) xs ∧ Below w.heap.size w w' := by
  obtain ⟨W, hW⟩ : ∃ W, (w.alloc (.cells #[.int .i64 f, .int .i64 t, v] 28)).alloc (.cells #[.int .i64 0, .int .i64 0, .slice none 0 0] 28) = W := ⟨_, rfl⟩
  have hB : Below w.heap.size w W := hW ▸ below_new _ (below_new _ (Below.refl _ _))
  have hs : W.heap.size = w.heap.size + 2 := by rw [← hW]; simp
  have hown := (own_empty W).mono (base' := w.heap.size) (by omega)
  have hrb := h.below (below_new (.cells #[] 5) hB)
  have b1 : (W.alloc (.cells #[] 5)).heap[w.heap.size]? = some (.cells #[.int .i64 f, .int .i64 t, v] 28 (0, 0)) := by
    rw [Below.heap_alloc _ _ _ (by omega), ← hW, Below.heap_alloc _ _ _ (by simp)]; exact heap_alloc_new w _
  have b2 : (W.alloc (.cells #[] 5)).heap[w.heap.size + 1]? = some (.cells #[.int .i64 0, .int .i64 0, .slice none 0 0] 28 (0, 0)) := by
    rw [Below.heap_alloc _ _ _ (by omega), ← hW]
    have := heap_alloc_new (w.alloc (.cells #[.int .i64 f, .int .i64 t, v] 28)) (.cells #[.int .i64 0, .int .i64 0, .slice none 0 0] 28)
    rwa [World.size_alloc] at this
  have c2 := cell_of b1 2 rfl
  have e5 : (⟨W.heap.size, 0, none⟩ : Addr) = ⟨w.heap.size + 2, 0, none⟩ := by rw [hs]
  rw [e5] at hown
  have HO := Lib.hid hown; have HR := Lib.hid hrb; have HB := Lib.hid hB; have HB1 := Lib.hid b1; have HB2 := Lib.hid b2; have HS := Lib.hid hs
  clear hown hrb hB b1 b2 e5
  go_enter Try.func51, Try.ntmps51
  go_wp2_with (at_builtin; refine wpList_append_rb rfl _ _ rfl w.heap.size (.slice (some ⟨w.heap.size + 2, 0, none⟩) 0 0) [] xs (by rfl) HO.out v rfl HR.out (by simp; omega) (by simp; omega) ?_; intro A1 cap1 w1 hown1 hg1 hor1; rw [List.nil_append] at hown1 ⊢; have g1 := hg1.block w.heap.size (by simp; omega) (by simp [Value.ownBlock]); have g2 := hg1.block (w.heap.size + 1) (by simp; omega) (by simp [Value.ownBlock]); rw [HB1.out] at g1; rw [HB2.out] at g2; have d0 := cell_of g1 0 rfl; have d1 := cell_of g1 1 rfl; have d2 := cell_of g1 2 rfl; have f2 := frozen_of g1 2; have q0 := cell_of g2 0 rfl; have q1 := cell_of g2 1 rfl; have q2 := cell_of g2 2 rfl; have p0 := frozen_of g2 0; have p1 := frozen_of g2 1; have p2 := frozen_of g2 2; replace hown1 := Lib.hid hown1; replace hg1 := Lib.hid hg1; replace g1 := Lib.hid g1; replace g2 := Lib.hid g2; clear hor1 c2)
  refine bodyPost_ret (v := .agg #[.int .i64 f, .int .i64 t, .slice A1 xs.length cap1]) (by simp [results, Try.f51, go_sem, d0, d1, d2, q0, q1, q2]) rfl ⟨A1, cap1, rfl, ?_, ?_⟩
  · refine hown1.out.kept' (fun g cs fr hg hh => ?_)
    have n1 : g ≠ w.heap.size := by
      rintro rfl
      rw [g1.out] at hh
      injection hh with hh
      injection hh with _ hh
      cases hh
    have n2 : g ≠ w.heap.size + 1 := by
      rintro rfl
      rw [g2.out] at hh
      injection hh with hh
      injection hh with _ hh
      cases hh
    rw [heap_far _ _ _ n2, heap_far _ _ _ n2, heap_far _ _ _ n2, heap_far _ _ _ n1]
  · have hb1 : Below w.heap.size w w1 := (below_new (.cells #[] 5) HB.out).grown hg1.out (by have := HS.out; simp; omega) (by intro k e; simp [Value.ownBlock] at e; omega)
    exact (((hb1.setCell (p := ⟨w.heap.size, 2, none⟩) (Nat.le_refl _) _).setCell (p := ⟨w.heap.size + 1, 0, none⟩) (by simp) _).setCell (p := ⟨w.heap.size + 1, 1, none⟩) (by simp) _).setCell (p := ⟨w.heap.size + 1, 2, none⟩) (by simp) _
end Go.Proofs.Ytddndmhjkjanlaa
