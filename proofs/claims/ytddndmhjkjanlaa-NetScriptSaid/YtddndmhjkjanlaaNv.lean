/- awake. -/
import Derived.Test.YtddndmhjkjanlaaNu
namespace Go.Proofs.Ytddndmhjkjanlaa
open Go.RowKit Go.Shelf

theorem cellsE_get : ∀ (l : List Ed) (j : Nat) (hj : j < l.length), (cellsE l)[j * 3]? = some (.int .i64 l[j].f) ∧ (cellsE l)[j * 3 + 1]? = some (.int .i64 l[j].t) ∧ (cellsE l)[j * 3 + 2]? = some l[j].v
  | [], j, hj => by simp at hj
  | d :: r, 0, _ => by simp [cellsE, Ed.cells]
  | d :: r, j + 1, hj => by
    have := cellsE_get r j (by simpa using hj)
    have e : ∀ k, (cellsE (d :: r))[(j + 1) * 3 + k]? = (cellsE r)[j * 3 + k]? := fun k => by
      simp only [cellsE, Ed.cells, List.flatMap_cons]
      rw [List.getElem?_append_right (by simp; omega)]
      congr 1
      simp; omega
    exact ⟨(e 0).trans this.1, (e 1).trans this.2.1, (e 2).trans this.2.2⟩
theorem RD.of_row {w : World} {g : Nat} {cs : Array Value} {t : TypeId} {fr : Nat × Nat} {l : List Ed} {c : Nat} (h : w.heap[g]? = some (.cells cs t fr)) (hc : cs.toList.take (l.length * 3) = cellsE l) (hb : ∀ d ∈ l, RB w d.v d.xs) : RD w (.slice (some ⟨g, 0, none⟩) l.length c) l :=
  ⟨_, c, rfl, fun _ => ⟨g, 0, rfl, fun j hj => by
    have hk : ∀ k v, k < l.length * 3 → (cellsE l)[k]? = some v → cs[k]? = some v := fun k v h1 h2 => by
      rw [← hc, List.getElem?_take_of_lt h1, Array.getElem?_toList] at h2
      exact h2
    obtain ⟨h1, h2, h3⟩ := cellsE_get l j hj
    refine ⟨?_, ?_, ?_, hb _ (by simp)⟩
    · rw [Nat.zero_add]; exact cell_of h _ (hk _ _ (by omega) h1)
    · rw [Nat.zero_add]; exact cell_of h _ (hk _ _ (by omega) h2)
    · rw [Nat.zero_add]; exact cell_of h _ (hk _ _ (by omega) h3)⟩⟩
theorem DRow.rd {w : World} {base : Nat} {A : Option Addr} {c : Nat} {l : List Ed} (h : DRow w base (.slice A l.length c) l) : RD w (.slice A l.length c) l := by
  have hb : ∀ d ∈ l, RB w d.v d.xs := fun d hd => (h.bytes d hd).rb
  rcases h.row.2 with ⟨e, h0⟩ | ⟨g, cap, cur, e, _, hh, _, _, _, hr⟩
  · injection e with e1 e2 e3
    exact ⟨A, c, rfl, fun h => (h (List.eq_nil_of_length_eq_zero h0)).elim⟩
  · injection e with e1 e2 e3
    subst e1 e3
    exact RD.of_row hh hr hb

set_option maxRecDepth 100000 in
set_option maxHeartbeats 1000000 in
theorem awake_any (w : World) : Calls Try.prog 9 #[] w fun e w' => e = .returned (.bool true) ∧ Below w.heap.size w w' := by
  go_enter Try.func9, Try.ntmps9
  go_wp2_with fail
  refine (begun_any _).mono ?_
  rintro e w1 ⟨bn, rfl, h1, b1⟩
  have h1 := Lib.hid h1; have b1 := Lib.hid b1
  go_wp2_with fail
  refine (one_any 0 1 7 _).mono ?_
  rintro e w2 ⟨rfl, r2, b2⟩
  have hs2 : w1.heap.size + 1 < w2.heap.size := by
    have := r2.lt (by simp) (w1.heap.size + 1) ⟨_, _, _, rfl, rfl⟩
    omega
  have r2 := Lib.hid r2; have b2 := Lib.hid b2
  go_wp2_with fail
  refine (is_any (h1.out.more b2.out [w1.heap.size + 1] (by simp; omega)) 0 (d := (0, 1, [7])) (r := 0) (M' := ⟨[(0, 2, [6]), (0, 1, [5])], [], 0⟩) (by decide) 0 1 _ _ [7] r2.out ?_).mono ?_
  · rintro k ⟨ad, n, c, e, rfl⟩ _ hf
    injection e with e1
    injection e1 with e1
    subst e1
    exact hf.2 (by simp)
  rintro e w3 ⟨rfl, h3, u3⟩
  have b3 := Lib.hid (below_step b2.out b1.out |>.trans (u3.far (by have := b1.out.size; have := b2.out.size; omega)))
  have h3 := Lib.hid h3
  have e0 : (decide ((0 : Int) = 0) && decide ((((0 : Int), (1 : Int), [(7 : UInt8)]) : Dg) = (0, 1, [7]))) = true := by decide
  rw [e0]
  clear u3 h1 b1 r2 b2 e0
  go_wp2_with fail
  refine h3.out.waiting.mono ?_
  rintro e w4 ⟨A, c, l, rfl, hl, hrow, b4⟩
  have b4' := Lib.hid (below_step b4 b3.out)
  have r4 := Lib.hid hrow.rd
  have hll : l.length = 2 := by have := congrArg List.length hl; simpa using this
  have hl := Lib.hid hl
  clear hrow b4 b3 h3
  rw [hll] at r4 ⊢
  go_wp2_with fail
  refine (one_any 0 2 6 _).mono ?_
  rintro e w5 ⟨rfl, r5, b5⟩
  have hs5 : w4.heap.size + 1 < w5.heap.size := by
    have := r5.lt (by simp) (w4.heap.size + 1) ⟨_, _, _, rfl, rfl⟩
    omega
  have r5 := Lib.hid r5; have b5 := Lib.hid b5
  go_wp2_with fail
  refine (one_any 0 1 5 _).mono ?_
  rintro e w6 ⟨rfl, r6, b6⟩
  have r6 := Lib.hid r6; have b6 := Lib.hid b6
  go_wp2_with fail
  have b7 := below_new (.cells #[.int .i64 0, .int .i64 2, .slice (some ⟨w4.heap.size + 1, 0, none⟩) 1 1, .int .i64 0, .int .i64 1, .slice (some ⟨w5.heap.size + 1, 0, none⟩) 1 1] 28) (Below.refl _ w6)
  have d7 := heap_alloc_new w6 (.cells #[.int .i64 0, .int .i64 2, .slice (some ⟨w4.heap.size + 1, 0, none⟩) 1 1, .int .i64 0, .int .i64 1, .slice (some ⟨w5.heap.size + 1, 0, none⟩) 1 1] 28)
  refine (same_any _ _ l [⟨0, 2, .slice (some ⟨w4.heap.size + 1, 0, none⟩) 1 1, [6]⟩, ⟨0, 1, .slice (some ⟨w5.heap.size + 1, 0, none⟩) 1 1, [5]⟩] _ (r4.out.below (below_step b7 (below_step b6.out b5.out))) (RD.of_row (c := 2) d7 (by simp [cellsE, Ed.cells]) ?_) (by omega) (by simp)).mono ?_
  · intro d hd
    simp only [List.mem_cons, List.not_mem_nil, or_false] at hd
    rcases hd with rfl | rfl
    · exact r5.out.below (below_step b7 b6.out)
    · exact r6.out.below b7
  rintro e w7 ⟨rfl, b8⟩
  have b9 := Lib.hid (below_step b8 (below_step b7 (below_step b6.out (below_step b5.out b4'.out))))
  have e1 : decide (l.map Ed.dg = [((0 : Int), (2 : Int), [(6 : UInt8)]), (0, 1, [5])]) = true := by rw [hl.out]; decide
  have e2 : ([⟨0, 2, .slice (some ⟨w4.heap.size + 1, 0, none⟩) 1 1, [6]⟩, ⟨0, 1, .slice (some ⟨w5.heap.size + 1, 0, none⟩) 1 1, [5]⟩] : List Ed).map Ed.dg = [((0 : Int), (2 : Int), [(6 : UInt8)]), (0, 1, [5])] := rfl
  rw [e2, e1]
  clear e1 e2 d7 b7 b8
  go_wp2
  go_ret
  exact ⟨rfl, b9.out⟩
end Go.Proofs.Ytddndmhjkjanlaa
