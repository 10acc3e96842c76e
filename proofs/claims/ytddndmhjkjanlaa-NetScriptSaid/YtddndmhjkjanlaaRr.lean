/- A call of a net and of the document's, any kind; what is told is written over. Conditions: both hold the same. -/
import Derived.Test.YtddndmhjkjanlaaRq
namespace Go.Proofs.Ytddndmhjkjanlaa
open Go.RowKit Go.Shelf
variable {w : World} {bn r base : Nat} {M : St} {Kp : List Nat}

theorem send_sizes (M : St) (d : Dg) : (M.send d).2.lost ≤ M.lost + 1 ∧ (M.send d).2.K.length ≤ M.K.length + 1 := by
  unfold St.send
  split
  · exact ⟨by dsimp only []; omega, by dsimp only []; omega⟩
  split
  · exact ⟨by dsimp only []; omega, by dsimp only []; omega⟩
  split
  · exact ⟨by dsimp only []; omega, by dsimp only []; omega⟩
  split
  · exact ⟨by dsimp only []; omega, by dsimp only []; omega⟩
  · exact ⟨by dsimp only []; omega, by dsimp only []; omega⟩
theorem take_sizes (M : St) (i : Int) : (M.take i).2.lost ≤ M.lost + 1 ∧ (M.take i).2.K.length ≤ M.K.length + 1 := by
  unfold St.take
  rcases M.at? i with _ | k <;> exact ⟨by dsimp only []; omega, by dsimp only []; omega⟩
theorem drop_sizes (M : St) (i : Int) : (M.drop i).2.lost ≤ M.lost + 1 ∧ (M.drop i).2.K.length ≤ M.K.length + 1 := by
  unfold St.drop
  rcases M.at? i with _ | k <;> exact ⟨by dsimp only []; omega, by dsimp only []; omega⟩
theorem copy_sizes (M : St) (i : Int) : (M.copy i).2.lost ≤ M.lost + 1 ∧ (M.copy i).2.K.length ≤ M.K.length + 1 := by
  unfold St.copy
  rcases M.at? i with _ | k
  · exact ⟨by dsimp only []; omega, by dsimp only []; omega⟩
  · dsimp only []
    split <;> exact ⟨by dsimp only []; omega, by dsimp only []; omega⟩
theorem turn_sizes (M : St) (i k : Int) : (M.turn i k).2.lost ≤ M.lost + 1 ∧ (M.turn i k).2.K.length ≤ M.K.length + 1 := by
  unfold St.turn
  rcases M.at? i with _ | q
  · exact ⟨by dsimp only []; omega, by dsimp only []; omega⟩
  · dsimp only []
    split <;> exact ⟨by dsimp only []; omega, by dsimp only []; omega⟩
theorem swap_sizes (M : St) (i k : Int) : (M.swap i k).2.lost ≤ M.lost + 1 ∧ (M.swap i k).2.K.length ≤ M.K.length + 1 := by
  unfold St.swap
  rcases M.at? i with _ | a <;> rcases M.at? k with _ | b <;> exact ⟨by dsimp only []; omega, by dsimp only []; omega⟩
theorem cut_sizes (M : St) (a b : Int) (is : Bool) : (M.cut a b is).2.lost ≤ M.lost + 1 ∧ (M.cut a b is).2.K.length ≤ M.K.length + 1 := by
  unfold St.cut
  split
  · exact ⟨by dsimp only []; omega, by dsimp only []; omega⟩
  · refine ⟨by dsimp only []; omega, ?_⟩
    dsimp only []
    have := List.length_filter_le (fun x => x != Ytddndmhjkjanlaa.mk a b) M.K
    rw [List.length_append]
    cases is <;> simp <;> omega

theorem both_any (h : Pair w bn r M base Kp) (kind i k : Int) (is : Bool) (f t : Int) (A : Option Addr) (xs : List UInt8) (c : Nat) (hk2 : k ≤ 9223372036854775807) (hl : M.lost < 1000) (hK : M.K.length < 1000) (hxl : xs.length ≤ 8000) (harg : ∀ W, Below base w W → RB W (.slice A xs.length c) xs) :
    Calls Try.prog 26 #[.pointer (some ⟨bn, 0, none⟩), .pointer (some ⟨r, 0, none⟩), .agg #[.int .i64 kind, .int .i64 i, .int .i64 k, .bool is, .int .i64 f, .int .i64 t, .slice A xs.length c]] w fun e w' => e = .returned (.bool true) ∧ ∃ M', PEnd w w' bn r M' base ∧ M'.lost ≤ M.lost + 1 ∧ M'.K.length ≤ M.K.length + 1 := by
  by_cases h3 : kind = 3
  · subst h3; exact (both_take h i k is f t A _ c).mono fun e w' ⟨he, hp⟩ => ⟨he, _, hp, take_sizes M i⟩
  by_cases h4 : kind = 4
  · subst h4; exact (both_drop h i k is f t A _ c (by omega)).mono fun e w' ⟨he, hp⟩ => ⟨he, _, hp, drop_sizes M i⟩
  by_cases h5 : kind = 5
  · subst h5; exact (both_copy h i k is f t A _ c).mono fun e w' ⟨he, hp⟩ => ⟨he, _, hp, copy_sizes M i⟩
  by_cases h6 : kind = 6
  · subst h6; exact (both_turn h i k is f t A _ c hk2).mono fun e w' ⟨he, hp⟩ => ⟨he, _, hp, turn_sizes M i k⟩
  by_cases h7 : kind = 7
  · subst h7; exact (both_swap h i k is f t A _ c).mono fun e w' ⟨he, hp⟩ => ⟨he, _, hp, swap_sizes M i k⟩
  by_cases h8 : kind = 8
  · subst h8; exact (both_cut h i k is f t A _ c (by omega)).mono fun e w' ⟨he, hp⟩ => ⟨he, _, hp, cut_sizes M i k is⟩
  exact (both_send h kind i k is f t A xs c (by omega) (by omega) harg (by simp [h3]) (by simp [h4]) (by simp [h5]) (by simp [h6]) (by simp [h7]) (by simp [h8])).mono fun e w' ⟨he, hp⟩ => ⟨he, _, hp, send_sizes M (f, t, xs)⟩

/-- A slice of bytes of the call's own, whatever it holds. -/
def Ovr (w : World) (base : Nat) (v : Value) : Prop := v = .slice none 0 0 ∨ ∃ g n cap cur, v = .slice (some ⟨g, 0, none⟩) n cap ∧ base ≤ g ∧ n ≤ cap ∧ cap ≤ 9223372036854775807 ∧ cur.size = cap ∧ w.heap[g]? = some (.cells cur 5 (0, 0)) ∧ AllU8 cur
theorem OB.ovr {v : Value} {xs : List UInt8} (h : OB w base v xs) : Ovr w base v := by
  rcases h.own.2 with ⟨rfl, _⟩ | ⟨g, cap, cur, rfl, hg, hh, hnc, hcm, hcs, htake⟩
  · exact .inl rfl
  · obtain ⟨cur', h1, h2⟩ := h.typ g rfl
    rw [hh] at h1
    injection h1 with h1
    injection h1 with h1
    subst h1
    exact .inr ⟨g, _, cap, cur, rfl, hg, hnc, by simp only [maxLen] at hcm; omega, by omega, hh, h2⟩
theorem Ovr.below {w' : World} {v : Value} (h : Ovr w base v) (hb : Below w.heap.size w w') : Ovr w' base v := by
  rcases h with rfl | ⟨g, n, cap, cur, rfl, hg, h1, h2, h3, hh, h4⟩
  · exact .inl rfl
  · exact .inr ⟨g, n, cap, cur, rfl, hg, h1, h2, h3, (hb.block g (Array.getElem?_eq_some_iff.1 hh).1).trans hh, h4⟩
theorem Ovr.far {w' : World} {v : Value} (h : Ovr w base v) {q : Nat} {cs : Array Value} (hq : w.heap[q]? = some (.cells cs 28 (0, 0))) (u : Upd (fun k => k = q) w w') : Ovr w' base v := by
  rcases h with rfl | ⟨g, n, cap, cur, rfl, hg, h1, h2, h3, hh, h4⟩
  · exact .inl rfl
  · exact .inr ⟨g, n, cap, cur, rfl, hg, h1, h2, h3, (u.block g (Array.getElem?_eq_some_iff.1 hh).1 (blk_ne hh hq (by decide))).trans hh, h4⟩
set_option maxHeartbeats 2000000 in
theorem over_row2 (g n cap : Nat) (cur : Array Value) (w : World) (hn : n ≤ cap) (hc : cap ≤ 9223372036854775807) (hs : cur.size = cap) (hu : AllU8 cur) (hh : w.heap[g]? = some (.cells cur 5 (0, 0))) :
    Calls Try.prog 28 #[.slice (some ⟨g, 0, none⟩) n cap] w fun e w' => e = .returned (.tuple #[]) ∧ Upd (fun k => k = g) w w' ∧ ∃ cs : Array Value, cs.size = cap ∧ AllU8 cs ∧ w'.heap[g]? = some (.cells cs 5 (0, 0)) := by
  go_enter Try.func28, Try.ntmps28
  go_wp2
  go_loopw [3] (fun p wr => ∃ (j : Nat) (cs : Array Value), j ≤ cap ∧ p = .int .i64 (j : Int) ∧ cs.size = cap ∧ AllU8 cs ∧ wr.heap[g]? = some (.cells cs 5 (0, 0)) ∧ Upd (fun k => k = g) w wr) (fun p wr => cap - (intOf p).toNat)
  case atStart => exact ⟨0, cur, by omega, rfl, hs, hu, hh, Upd.refl _ _⟩
  case round =>
    obtain ⟨j, cs, hj, rfl, hcs, hcu, hw, hU⟩ := hrel
    by_cases hlt : j < cap
    · have hjs : j < cs.size := by omega
      obtain ⟨x, hx⟩ := hcu cs[j] (by simp)
      have hc0 : wr.cell? ⟨g, j, none⟩ = some (.int .u8 (x.toNat : Int)) := cell_of hw j (by rw [Array.getElem?_eq_getElem hjs, hx])
      have hf : wr.frozen? ⟨g, j, none⟩ = false := frozen_of hw j
      have hxor := xor_u8 x 90
      have e90 : (((90 : UInt8).toNat : Nat) : Int) = 90 := rfl
      rw [e90] at hxor
      have HW := Lib.hid hw
      have HU := Lib.hid hU
      have HCU := Lib.hid hcu
      have HCS := Lib.hid hcs
      clear hw hU hcu hcs hx hu hs hh
      go_wp2
      go_roundw
      case rel =>
        refine ⟨j + 1, cs.setIfInBounds j (.int .u8 ((x ^^^ 90).toNat : Int)), by omega, by go_num, by simp [HCS.out], ?_, by first | exact heap_set HW.out j _ | (rw [hxor]; exact heap_set HW.out j _), HU.out.setCell (p := ⟨g, j, none⟩) (.inl rfl) _⟩
        intro u hu
        simp only [Array.toList_setIfInBounds] at hu
        rcases List.mem_or_eq_of_mem_set hu with hu | rfl
        · exact HCU.out u hu
        · exact ⟨_, rfl⟩
      case measure => simp [intOf]; omega
    · obtain rfl : j = cap := by omega
      have HU := Lib.hid hU
      have HW := Lib.hid hw
      have HCU := Lib.hid hcu
      have HCS := Lib.hid hcs
      clear hw hU hcu hcs hu hs hh
      go_wp2
      go_end0
      exact ⟨rfl, HU.out, cs, HCS.out, HCU.out, HW.out⟩
/-- What is told is written over: the others stay what they are. -/
theorem over_ovr {v : Value} (h : Ovr w base v) (hb : base ≤ w.heap.size) : Calls Try.prog 28 #[v] w fun e w' => e = .returned (.tuple #[]) ∧ Below base w w' ∧ (∀ u, Ovr w base u → Ovr w' base u) ∧ ∀ (q : Nat) cs t0 fr, t0 ≠ 5 → w.heap[q]? = some (.cells cs t0 fr) → w'.heap[q]? = some (.cells cs t0 fr) := by
  rcases h with rfl | ⟨g, n, cap, cur, rfl, hg, h1, h2, h3, hh, h4⟩
  · refine (over_nil w).mono fun e w' ⟨he, hU⟩ => ⟨he, hU.below hb (fun _ h => h.elim), fun u hu => ?_, fun q cs t0 fr _ hq => (hU.block q (Array.getElem?_eq_some_iff.1 hq).1 (fun h => h)).trans hq⟩
    exact hu.below (hU.below (Nat.le_refl _) (fun _ h => h.elim))
  · refine (over_row2 g n cap cur w h1 h2 h3 h4 hh).mono fun e w' ⟨he, hU, cs, c1, c2, c3⟩ => ⟨he, hU.below hb (fun _ h => h ▸ hg), fun u hu => ?_, fun q cs' t0 fr ht hq => (hU.block q (Array.getElem?_eq_some_iff.1 hq).1 (blk_ne hq hh ht)).trans hq⟩
    rcases hu with rfl | ⟨g', n', cap', cur', rfl, hg', h1', h2', h3', hh', h4'⟩
    · exact .inl rfl
    · by_cases e : g' = g
      · subst e
        rw [hh] at hh'
        injection hh' with hh'
        injection hh' with hh'
        subst hh'
        exact .inr ⟨g', n', cap', cs, rfl, hg', h1', h2', by omega, c3, c2⟩
      · exact .inr ⟨g', n', cap', cur', rfl, hg', h1', h2', h3', (hU.block g' (Array.getElem?_eq_some_iff.1 hh').1 e).trans hh', h4'⟩
end Go.Proofs.Ytddndmhjkjanlaa
