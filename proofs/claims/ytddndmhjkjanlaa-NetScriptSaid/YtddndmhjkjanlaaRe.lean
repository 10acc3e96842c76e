/- The document's net: Take at any place; Drop. Conditions: it holds what its word says; fewer than 10^6 losses. -/
import Derived.Test.YtddndmhjkjanlaaRd
namespace Go.Proofs.Ytddndmhjkjanlaa
open Go.RowKit Go.Shelf
variable {w : World} {r : Nat} {M : St} {Kp : List Nat}

theorem rtake_any (h : RNet w r M Kp) (hkp : ∀ k ∈ Kp, k < w.heap.size) (i : Int) :
    Calls Try.prog 40 #[.pointer (some ⟨r, 0, none⟩), .int .i64 i] w fun e w' => ∃ d : Ed, e = .returned (.tuple #[.agg #[.int .i64 d.f, .int .i64 d.t, d.v], .int .i64 (M.take i).1.2]) ∧ d.dg = (M.take i).1.1 ∧ RB w' d.v d.xs ∧
      RStep w w' r (M.take i).2 Kp := by
  unfold St.take
  rcases hi : M.at? i with _ | k
  · dsimp only []
    refine (rtake_no h i hi).mono ?_
    rintro e w' ⟨rfl, hb⟩
    exact ⟨⟨0, 0, .slice none 0 0, []⟩, rfl, rfl, RB.nil _, RStep.same h hb⟩
  · obtain ⟨rfl, hk⟩ := St.at?_some hi
    dsimp only []
    refine (rtake_yes h hkp k hk).mono ?_
    rintro e w' ⟨d, rfl, hd, hr, hs⟩
    exact ⟨d, rfl, by rw [List.getD_eq_getElem?_getD, hd]; rfl, hr, hs⟩

/-- One more is lost. -/
theorem RNet.putN {W : World} (h : RNet W r M Kp) {M' : St} (h1 : M'.l = M.l) (h2 : M'.K = M.K) (hok : M'.Ok) : RNet (W.setCell ⟨r, 2, none⟩ (.int .i64 M'.lost)) r M' Kp := by
  obtain ⟨vL0, vK, l, g1, g2, g3, g4, g5, g6, g7, g8⟩ := h.mem
  have hd := heap_set g2 2 (.int .i64 M'.lost)
  refine ⟨hok, by rw [h2]; exact h.kl, h.self, vL0, vK, l, by rw [h1]; exact g1, hd, ownsRow_put g3 g2 (by decide) 2 _, ?_, fun d hd => (g5 d hd).put g2 (by decide) 2 _, g6, g7, g8⟩
  rw [h2]
  exact ownsRow_put g4 g2 (by decide) 2 _
theorem RStep.then_n {w' : World} {M1 M' : St} (h : RStep w w' r M1 Kp) (hself : r ∈ Kp) (h1 : M'.l = M1.l) (h2 : M'.K = M1.K) (hok : M'.Ok) : RStep w (w'.setCell ⟨r, 2, none⟩ (.int .i64 M'.lost)) r M' Kp := by
  refine ⟨(h.net.putN h1 h2 hok).more (fun k hk => ?_), h.upd.setCell (p := ⟨r, 2, none⟩) (.inl hself) _⟩
  rw [mem_kmore] at hk ⊢
  rwa [size_setCell]
theorem RStep.new {w' w2 : World} {M1 : St} (h : RStep w w' r M1 Kp) (hb : Below w'.heap.size w' w2) : RStep w w2 r M1 Kp := by
  refine ⟨(h.net.below hb).more (fun k hk => ?_), h.upd.grow (Upd.of_below hb)⟩
  rw [mem_kmore] at hk ⊢
  have := hb.size
  rcases hk with hk | hk
  · exact .inl hk
  · exact .inr ⟨hk.1, by omega⟩

theorem rtake_is (M : St) (i : Int) : ((M.take i).1.2 = 0 ∧ (M.take i).2.lost = M.lost ∧ M.drop i = (0, { (M.take i).2 with lost := M.lost + 1 })) ∨ ((M.take i).1.2 = 6 ∧ M.take i = ((zD, 6), M) ∧ M.drop i = (6, M)) := by
  unfold St.take St.drop
  rcases hi : M.at? i with _ | k
  · exact .inr ⟨rfl, rfl, rfl⟩
  · exact .inl ⟨rfl, rfl, rfl⟩

set_option maxHeartbeats 2000000 in
theorem rdrop_any (h : RNet w r M Kp) (hkp : ∀ k ∈ Kp, k < w.heap.size) (i : Int) (hl : M.lost < 1000000) :
    Calls Try.prog 41 #[.pointer (some ⟨r, 0, none⟩), .int .i64 i] w fun e w' => e = .returned (.int .i64 (M.drop i).1) ∧ RStep w w' r (M.drop i).2 Kp := by
  have hok := h.ok
  have hself := h.self
  have hrs := hkp r hself
  rcases rtake_is M i with ⟨h1, h2, h3⟩ | ⟨h1, h2, h3⟩
  · have hT := Lib.hid (rtake_any h hkp i)
    rw [h3]
    rw [h1] at hT
    have H2 := Lib.hid h2; have HO := Lib.hid hok
    generalize hM1 : (M.take i).2 = M1 at *
    clear h1 h2 h3 h hkp hok
    go_enter Try.func41, Try.ntmps41
    go_wp2_with fail
    refine hT.out.mono ?_
    rintro e w1 ⟨⟨df, dt, dv, dxs⟩, rfl, -, hrb, hs⟩
    dsimp only [] at hrb
    obtain ⟨Ad, cd, rfl, _⟩ := hrb
    have hs2 := hs.new (below_new (.cells #[.int .i64 df, .int .i64 dt, .slice Ad dxs.length cd] 28) (Below.refl _ _))
    obtain ⟨vL, vK, l, -, hh, -⟩ := hs2.net.mem
    have c2 := cell_of hh 2 rfl
    have f2 := frozen_of hh 2
    rw [show M1.lost = M.lost from H2.out] at c2
    have hlo := HO.out.low
    have HS := Lib.hid hs2
    clear hs hs2 hh
    go_wp2
    go_ret
    exact ⟨rfl, HS.out.then_n (M' := { M1 with lost := M.lost + 1 }) hself rfl rfl ⟨HS.out.net.ok.len, HS.out.net.ok.each, by dsimp only []; omega, by dsimp only []; omega⟩⟩
  · have hT := Lib.hid (rtake_any h hkp i)
    rw [h3]
    rw [h2] at hT
    clear h1 h2 h3 h hkp hok
    go_enter Try.func41, Try.ntmps41
    go_wp2_with fail
    refine hT.out.mono ?_
    rintro e w1 ⟨⟨df, dt, dv, dxs⟩, rfl, -, hrb, hs⟩
    dsimp only [] at hrb
    obtain ⟨Ad, cd, rfl, _⟩ := hrb
    have HS := Lib.hid (hs.new (below_new (.cells #[.int .i64 df, .int .i64 dt, .slice Ad dxs.length cd] 28) (Below.refl _ _)))
    clear hs
    go_wp2
    go_ret
    exact ⟨rfl, HS.out⟩
end Go.Proofs.Ytddndmhjkjanlaa
