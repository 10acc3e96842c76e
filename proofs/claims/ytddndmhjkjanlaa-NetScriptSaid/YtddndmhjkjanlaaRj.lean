/- The document's net: Swap. Conditions: it holds what its word says. -/
import Derived.Test.YtddndmhjkjanlaaRi
namespace Go.Proofs.Ytddndmhjkjanlaa
open Go.RowKit Go.Shelf
variable {w : World} {r : Nat} {M : St} {Kp : List Nat}

theorem rswap_no1 (h : RNet w r M Kp) (i k : Int) (hi : M.at? i = none) :
    Calls Try.prog 44 #[.pointer (some ⟨r, 0, none⟩), .int .i64 i, .int .i64 k] w fun e w' => e = .returned (.int .i64 6) ∧ w = w' := by
  have hT := Lib.hid (there_any h i)
  rw [hi] at hT
  clear h
  go_enter Try.func44, Try.ntmps44
  go_wp2_with fail
  refine hT.out.mono ?_
  rintro e w' ⟨rfl, rfl⟩
  go_wp2
  go_ret
  exact ⟨rfl, rfl⟩
theorem rswap_no2 (h : RNet w r M Kp) (i k : Int) {a : Nat} (hi : M.at? i = some a) (hk : M.at? k = none) :
    Calls Try.prog 44 #[.pointer (some ⟨r, 0, none⟩), .int .i64 i, .int .i64 k] w fun e w' => e = .returned (.int .i64 6) ∧ w = w' := by
  have hT := Lib.hid (there_any h i)
  have hU := Lib.hid (there_any h k)
  rw [hi] at hT
  rw [hk] at hU
  clear h
  go_enter Try.func44, Try.ntmps44
  go_wp2_with fail
  refine hT.out.mono ?_
  rintro e w' ⟨rfl, rfl⟩
  go_wp2_with fail
  refine hU.out.mono ?_
  rintro e w' ⟨rfl, rfl⟩
  go_wp2
  go_ret
  exact ⟨rfl, rfl⟩

set_option maxRecDepth 100000 in
set_option maxHeartbeats 4000000 in
theorem rswap_yes (h : RNet w r M Kp) (i k : Nat) (hi : i < M.l.length) (hk : k < M.l.length) :
    Calls Try.prog 44 #[.pointer (some ⟨r, 0, none⟩), .int .i64 (i : Int), .int .i64 (k : Int)] w fun e w' => e = .returned (.int .i64 0) ∧ RStep w w' r { M with l := (M.l.set i (M.l.getD k zD)).set k (M.l.getD i zD) } Kp := by
  have hat : (M.at? (i : Int)) = some i := by unfold St.at?; rw [if_neg (by omega)]; rfl
  have hat2 : (M.at? (k : Int)) = some k := by unfold St.at?; rw [if_neg (by omega)]; rfl
  have hT := Lib.hid (there_any h (i : Int))
  have hU := Lib.hid (there_any h (k : Int))
  rw [hat] at hT
  rw [hat2] at hU
  obtain ⟨A, c, l, vK, ho⟩ := h.opened
  have hlen := ho.len
  obtain ⟨g, df, dt, Ad, cd, dxs, rfl, hd, hgd, hob, hcell, cur, hcur⟩ := ho.elem hi
  obtain ⟨g', ef, et, Ae, ce, exs, e1, he, hge, hoe, hcelle, -⟩ := ho.elem hk
  obtain rfl : g = g' := by injection e1 with e1; injection e1 with e1
  have hdx : dxs.length ≤ 1500 := h.ok.each (df, dt, dxs) (by rw [← ho.map]; exact List.mem_map_of_mem (List.mem_of_getElem? hd))
  have hex : exs.length ≤ 1500 := h.ok.each (ef, et, exs) (by rw [← ho.map]; exact List.mem_map_of_mem (List.mem_of_getElem? he))
  rw [hgd, hge]
  have c0 := cell_of ho.head 0 rfl
  obtain ⟨a0, a1, a2⟩ := hcell w (Below.refl _ _)
  have hli : (i : Int) < (l.length : Int) := by omega
  have hlk : (k : Int) < (l.length : Int) := by omega
  obtain ⟨W, hW⟩ : ∃ W, w.alloc (.cells #[.int .i64 df, .int .i64 dt, .slice Ad dxs.length cd] 28) = W := ⟨_, rfl⟩
  have hbW : Below w.heap.size w W := hW ▸ below_new _ (Below.refl _ _)
  have hbx : W.heap[w.heap.size]? = some (.cells #[.int .i64 df, .int .i64 dt, .slice Ad dxs.length cd] 28 (0, 0)) := hW ▸ heap_alloc_new w _
  have hoW := ho.below hbW
  have e0 := cell_of hoW.head 0 rfl
  obtain ⟨b0, b1, b2⟩ := hcelle W hbW
  obtain ⟨b3, b4, b5⟩ := hcell W hbW
  have hcW := (hbW.block g (Array.getElem?_eq_some_iff.1 hcur).1).trans hcur
  have f0 := frozen_of hcW (i * 3)
  have f1 := frozen_of hcW (i * 3 + 1)
  have f2 := frozen_of hcW (i * 3 + 2)
  have hgr : g ≠ r := blk_ne hcur ho.head (by decide)
  have hgx : w.heap.size ≠ g := by have := (Array.getElem?_eq_some_iff.1 hcur).1; omega
  have hp := (h.below hbW).putE hoW (i := i) (by omega) ⟨ef, et, .slice Ae exs.length ce, exs⟩ (hoe.kept' (fun q cs fr _ hh => hbW.block q (Array.getElem?_eq_some_iff.1 hh).1)) Kp (fun q hq => hq) (ho.bd _ (List.mem_of_getElem? he)) hex
  dsimp only [] at hp
  obtain ⟨W4, hW4⟩ : ∃ W4, ((W.setCell ⟨g, i * 3, none⟩ (.int .i64 ef)).setCell ⟨g, i * 3 + 1, none⟩ (.int .i64 et)).setCell ⟨g, i * 3 + 2, none⟩ (.slice Ae exs.length ce) = W4 := ⟨_, rfl⟩
  rw [hW4] at hp
  have hx4 : W4.heap[w.heap.size]? = some (.cells #[.int .i64 df, .int .i64 dt, .slice Ad dxs.length cd] 28 (0, 0)) := by
    rw [← hW4, heap_far _ _ _ hgx, heap_far _ _ _ hgx, heap_far _ _ _ hgx]; exact hbx
  have h0 := cell_of hp.2.head 0 rfl
  have x0 := cell_of hx4 0 rfl
  have x1 := cell_of hx4 1 rfl
  have x2 := cell_of hx4 2 rfl
  rw [List.length_set] at h0
  obtain ⟨cur4, hc4⟩ := ownsRow_typed hp.2.own (g := g) rfl
  have q0 := frozen_of hc4 (k * 3)
  have q1 := frozen_of hc4 (k * 3 + 1)
  have q2 := frozen_of hc4 (k * 3 + 2)
  have hg : g ∈ Kp := ho.bl g rfl
  obtain ⟨g4, f4, t4, A4, cc4, xs4, e4, -, -, -, hcell4, -⟩ := hp.2.elem (i := k) (by simpa using hk)
  obtain rfl : g = g4 := by injection e4 with e4; injection e4 with e4
  obtain ⟨p0, p1, p2⟩ := hcell4 W4 (Below.refl _ _)
  have hda : OB W4 0 (.slice Ad dxs.length cd) dxs := hob.kept' (fun q cs fr _ hh => by
    have n := blk_ne hh hcur (by decide)
    rw [← hW4, heap_far _ _ _ n, heap_far _ _ _ n, heap_far _ _ _ n]
    exact hbW.block q (Array.getElem?_eq_some_iff.1 hh).1)
  have hp2 := hp.1.putE hp.2 (i := k) (by simp; omega) ⟨df, dt, .slice Ad dxs.length cd, dxs⟩ hda Kp (fun q hq => hq) (ho.bd _ (List.mem_of_getElem? hd)) hdx
  dsimp only [] at hp2
  have hU4 : Upd (· ∈ Kp) w W4 := by
    rw [← hW4]
    exact (((Upd.of_below hbW).setCell (p := ⟨g, i * 3, none⟩) (.inl hg) _).setCell (p := ⟨g, i * 3 + 1, none⟩) (.inl hg) _).setCell (p := ⟨g, i * 3 + 2, none⟩) (.inl hg) _
  have HP := Lib.hid hp2.1; have HU4 := Lib.hid hU4
  clear hcell4 e4 h ho hoW hp hp2 hU4 hda hx4 hc4 hcW hbx hcell hcelle hob hoe hgd hge hd he hcur hat hat2 hlen hgr hgx hbW
  go_enter Try.func44, Try.ntmps44
  go_wp2_with fail
  refine hT.out.mono ?_
  rintro e w' ⟨rfl, rfl⟩
  go_wp2_with fail
  refine hU.out.mono ?_
  rintro e w' ⟨rfl, rfl⟩
  go_wp2
  go_region
  all_goals
    clear b0 b1 b2 b3 b4 b5 f0 f1 f2 e0 a0 a1 a2 c0
    go_wp2
    go_region
    all_goals
      go_wp2
      go_ret
      refine ⟨rfl, (HP.out.below ((Below.refl _ _).drew.drew)).more (fun q hq => mem_kmore.2 (.inl hq)), (((HU4.out.setCell (p := ⟨g, k * 3, none⟩) (.inl hg) _).setCell (p := ⟨g, k * 3 + 1, none⟩) (.inl hg) _).setCell (p := ⟨g, k * 3 + 2, none⟩) (.inl hg) _).drew.drew⟩
theorem rswap_any (h : RNet w r M Kp) (i k : Int) :
    Calls Try.prog 44 #[.pointer (some ⟨r, 0, none⟩), .int .i64 i, .int .i64 k] w fun e w' => e = .returned (.int .i64 (M.swap i k).1) ∧ RStep w w' r (M.swap i k).2 Kp := by
  unfold St.swap
  rcases hi : M.at? i with _ | a
  · refine (rswap_no1 h i k hi).mono ?_
    rintro e w' ⟨rfl, rfl⟩
    exact ⟨rfl, RStep.same h (Below.refl _ _)⟩
  rcases hk : M.at? k with _ | b
  · refine (rswap_no2 h i k hi hk).mono ?_
    rintro e w' ⟨rfl, rfl⟩
    exact ⟨rfl, RStep.same h (Below.refl _ _)⟩
  obtain ⟨rfl, ha⟩ := St.at?_some hi
  obtain ⟨rfl, hb⟩ := St.at?_some hk
  exact rswap_yes h a b ha hb
end Go.Proofs.Ytddndmhjkjanlaa
