/- The document's net: Send. Conditions: it holds what its word says; fewer than 10^6 losses. -/
import Derived.Test.YtddndmhjkjanlaaRg
namespace Go.Proofs.Ytddndmhjkjanlaa
open Go.RowKit Go.Shelf
variable {w : World} {r : Nat} {M : St} {Kp : List Nat}

set_option maxRecDepth 100000 in
set_option maxHeartbeats 4000000 in
theorem rsend_goes (h : RNet w r M Kp) (hkp : ∀ k ∈ Kp, k < w.heap.size) (f t : Int) (A0 : Option Addr) (c0 : Nat) (xs : List UInt8) (hv : RB w (.slice A0 xs.length c0) xs) (hf : endB f = true) (ht : endB t = true) (hn : ¬ 1500 < xs.length) (hk : mk f t ∉ M.K) (hl : M.l.length < 2000) :
    Calls Try.prog 47 #[.pointer (some ⟨r, 0, none⟩), .agg #[.int .i64 f, .int .i64 t, .slice A0 xs.length c0]] w fun e w' => e = .returned (.int .i64 0) ∧ RStep w w' r { M with l := M.l ++ [(f, t, xs)] } Kp := by
  have hb := below_new (.cells #[.int .i64 f, .int .i64 t, .slice A0 xs.length c0] 28) (Below.refl _ w)
  have hC := Lib.hid (rcut_any (h.below hb) f t)
  have HB := Lib.hid hb
  have hn2 : (xs.length : Int) ≤ 1500 := by omega
  have hd : decide (mk f t ∈ M.K) = false := decide_eq_false hk
  rw [hd] at hC
  obtain ⟨A, c, l, vK, ho⟩ := h.opened
  have hlen := ho.len
  have hl3 : l.length < 2000 := by omega
  have hl4 : (l.length : Int) < 2000 := by omega
  have hx3 : xs.length ≤ 1500 := by omega
  have hnew := Lib.hid (heap_alloc_new w (.cells #[.int .i64 f, .int .i64 t, .slice A0 xs.length c0] 28))
  have HO := Lib.hid ho
  have H := Lib.hid h
  have HKP := Lib.hid hkp
  have HV := Lib.hid hv
  clear h hb hk hd hn ho hkp hlen hl hv
  go_enter Try.func47, Try.ntmps47
  go_wp2_with fail
  refine (rend_any f _).mono ?_
  rintro e w' ⟨rfl, rfl⟩
  rw [hf]
  go_wp2_with fail
  refine (rend_any t _).mono ?_
  rintro e w' ⟨rfl, rfl⟩
  rw [ht]
  go_wp2_with fail
  refine hC.out.mono ?_
  rintro e w2 ⟨rfl, B2⟩
  have B3 := Lib.hid (below_step B2 HB.out)
  have hbx := (B2.block w.heap.size (by simp)).trans hnew.out
  have x0 := cell_of hbx 0 rfl
  have x1 := cell_of hbx 1 rfl
  have x2 := cell_of hbx 2 rfl
  have y0 := cell_of (HO.out.head_in B3.out) 0 rfl
  have hrb := Lib.hid ((HV.out.below B3.out).below ((Below.refl _ _).drew))
  clear B2 hC hbx
  go_wp2_with fail
  go_region_law (first
    | (refine step_append_rows rfl _ _ rfl 0 (.slice A l.length c) l.length (cellsE l) (by rfl) RR.out.own ⟨w3.heap.size, 0, none⟩ 1 1 [.int .i64 f, .int .i64 t, .slice A1 xs.length c1] (by rfl) rfl RR.out.news one3 (by omega) (Nat.zero_le _) (l.length + 1) rfl ?_; intro A2 c2 w4 ho2 hg2 hor2; replace ho2 := Lib.hid ho2; replace hg2 := Lib.hid hg2; replace hor2 := Lib.hid hor2; have hh2 := HO.out.head_grown RR.out.bw hg2.out; have u0 := cell_of hh2 0 rfl; have uf := frozen_of hh2 0; replace hh2 := Lib.hid hh2)
    | (go_simp; go_at_call 51; refine (own_any f t (.slice A0 xs.length c0) xs _ hrb.out (by omega)).mono ?_; rintro e w3 ⟨A1, c1, rfl, ob1, B1⟩; replace ob1 := Lib.hid (ob1.mono B3.out.size); have RR := Lib.hid (HO.out.ready (below_step B1 B3.out.drew) [.int .i64 f, .int .i64 t, .slice A1 xs.length c1]); have v0 := cell_of (HO.out.head_in RR.out.b1) 0 rfl; have v1 := cell_of (HO.out.head_in RR.out.bw) 0 rfl; replace B1 := Lib.hid B1))
  all_goals
    clear x0 x1 x2 y0 v0 v1 u0 uf
    go_wp2
    go_ret
    exact ⟨rfl, append_step H.out HO.out HKP.out RR.out.bw (ob1.out.alloc1 _) hg2.out ho2.out hor2.out hl3 hx3⟩

theorem rsend_any (h : RNet w r M Kp) (hkp : ∀ k ∈ Kp, k < w.heap.size) (hl : M.lost < 1000000) (d : Dg) (v : Value) (hv : RB w v d.2.2) :
    Calls Try.prog 47 #[.pointer (some ⟨r, 0, none⟩), .agg #[.int .i64 d.1, .int .i64 d.2.1, v]] w fun e w' => e = .returned (.int .i64 (M.send d).1) ∧ RStep w w' r (M.send d).2 Kp := by
  obtain ⟨f, t, xs⟩ := d
  dsimp only [] at hv ⊢
  unfold St.send
  dsimp only []
  by_cases h12 : (endB f && endB t) = false
  · rw [if_pos h12]
    rcases hf : endB f with _ | _
    · exact (rsend_arg1 f t v hf w r).mono fun e w' ⟨e1, hs⟩ => ⟨e1, RStep.same h hs⟩
    · have ht : endB t = false := by simpa [hf] using h12
      exact (rsend_arg2 f t v hf ht w r).mono fun e w' ⟨e1, hs⟩ => ⟨e1, RStep.same h hs⟩
  rw [if_neg h12]
  have hf : endB f = true := by rcases h0 : endB f <;> simp_all
  have ht : endB t = true := by rcases h0 : endB t <;> simp_all
  obtain ⟨A, c, rfl, _, _⟩ := id hv
  by_cases hn : 1500 < xs.length
  · rw [if_pos hn]
    exact (rsend_long f t A _ c hf ht hn w r).mono fun e w' ⟨e1, hs⟩ => ⟨e1, RStep.same h hs⟩
  rw [if_neg hn]
  by_cases hk : Ytddndmhjkjanlaa.mk f t ∈ M.K
  · rw [if_pos hk]
    exact rsend_cut h hkp hl f t A _ c hf ht hn hk
  rw [if_neg hk]
  by_cases hL2 : 2000 ≤ M.l.length
  · rw [if_pos hL2]
    exact (rsend_full h f t A _ c hf ht hn hk hL2).mono fun e w' ⟨e1, hs⟩ => ⟨e1, RStep.same h hs⟩
  rw [if_neg hL2]
  exact rsend_goes h hkp f t A c xs hv hf ht hn hk (by omega)
end Go.Proofs.Ytddndmhjkjanlaa
