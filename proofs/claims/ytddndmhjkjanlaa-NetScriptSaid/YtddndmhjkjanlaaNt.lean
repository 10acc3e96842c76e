/- The examples' net: one, is, begun, awake. -/
import Derived.Test.YtddndmhjkjanlaaNs
namespace Go.Proofs.Ytddndmhjkjanlaa
open Go.RowKit Go.Shelf

variable {w : World} {bn base : Nat} {M : St} {Kp : List Nat}
theorem NS.send' (h : NS w bn M base Kp) (d : Dg) (v : Value) (hv : RB w v d.2.2) (hl : M.lost < 1000000) {r : Int} {M' : St} (hM : M.send d = (r, M')) :
    Calls Try.prog 11 #[.pointer (some ⟨bn, 0, none⟩), .agg #[.int .i64 d.1, .int .i64 d.2.1, v]] w fun e w' => e = .returned (.int .i64 r) ∧ NS w' bn M' base Kp ∧ Upd (Far base Kp) w w' := by
  have := h.send d v hv hl
  rwa [hM] at this
theorem NS.copy' (h : NS w bn M base Kp) (i : Int) {r : Int} {M' : St} (hM : M.copy i = (r, M')) :
    Calls Try.prog 29 #[.pointer (some ⟨bn, 0, none⟩), .int .i64 i] w fun e w' => e = .returned (.int .i64 r) ∧ NS w' bn M' base Kp ∧ Upd (Far base Kp) w w' := by
  have := h.copy i
  rwa [hM] at this
theorem NS.drop' (h : NS w bn M base Kp) (i : Int) (hl : M.lost < 1000000) {r : Int} {M' : St} (hM : M.drop i = (r, M')) :
    Calls Try.prog 23 #[.pointer (some ⟨bn, 0, none⟩), .int .i64 i] w fun e w' => e = .returned (.int .i64 r) ∧ NS w' bn M' base Kp ∧ Upd (Far base Kp) w w' := by
  have := h.drop i hl
  rwa [hM] at this
theorem NS.turn' (h : NS w bn M base Kp) (i bit : Int) (hb : bit ≤ 9223372036854775807) {r : Int} {M' : St} (hM : M.turn i bit = (r, M')) :
    Calls Try.prog 17 #[.pointer (some ⟨bn, 0, none⟩), .int .i64 i, .int .i64 bit] w fun e w' => e = .returned (.int .i64 r) ∧ NS w' bn M' base Kp ∧ Upd (Far base Kp) w w' := by
  have := h.turn i bit hb
  rwa [hM] at this
theorem NS.swap' (h : NS w bn M base Kp) (i k : Int) {r : Int} {M' : St} (hM : M.swap i k = (r, M')) :
    Calls Try.prog 16 #[.pointer (some ⟨bn, 0, none⟩), .int .i64 i, .int .i64 k] w fun e w' => e = .returned (.int .i64 r) ∧ NS w' bn M' base Kp ∧ Upd (Far base Kp) w w' := by
  have := h.swap i k
  rwa [hM] at this
theorem NS.cut' (h : NS w bn M base Kp) (a b : Int) (is : Bool) {r : Int} {M' : St} (hM : M.cut a b is = (r, M')) :
    Calls Try.prog 18 #[.pointer (some ⟨bn, 0, none⟩), .int .i64 a, .int .i64 b, .bool is] w fun e w' => e = .returned (.int .i64 r) ∧ NS w' bn M' base Kp ∧ Upd (Far base Kp) w w' := by
  have := h.cut a b is
  rwa [hM] at this
theorem NS.first' (h : NS w bn M base Kp) (to : Int) {r : Int} (hM : firstD M.l to = r) :
    Calls Try.prog 14 #[.pointer (some ⟨bn, 0, none⟩), .int .i64 to] w fun e w' => e = .returned (.int .i64 r) ∧ Below w.heap.size w w' := by
  have := h.first to
  rwa [hM] at this
theorem NS.take' (h : NS w bn M base Kp) (i : Int) {d : Dg} {r : Int} {M' : St} (hM : M.take i = ((d, r), M')) :
    Calls Try.prog 24 #[.pointer (some ⟨bn, 0, none⟩), .int .i64 i] w fun e w' => ∃ A c, e = .returned (.tuple #[.agg #[.int .i64 d.1, .int .i64 d.2.1, .slice A d.2.2.length c], .int .i64 r]) ∧
      OB w' base (.slice A d.2.2.length c) d.2.2 ∧ NS w' bn M' base ((Value.slice A d.2.2.length c).ownBlock.toList ++ Kp) ∧ Upd (Far base Kp) w w' := by
  have := h.take i
  rw [hM] at this
  exact this
theorem new_ns (w : World) : Calls Try.prog 10 #[] w fun e w' => e = .returned (.pointer (some ⟨w.heap.size + 1, 0, none⟩)) ∧ NS w' (w.heap.size + 1) St.new w.heap.size [] ∧ Below w.heap.size w w' :=
  (new_any w).mono fun e w' ⟨e1, h, hu⟩ => ⟨e1, ⟨⟨by simp [St.new], by simp [St.new], by simp [St.new], by simp [St.new]⟩, by simp, hu.size, _, [], rfl, h, fun k hk => by simp [blocks] at hk; exact ⟨by omega, by simp⟩⟩, hu.below (Nat.le_refl _) (fun _ h => h.elim)⟩
theorem NS.old {w : World} {bn : Nat} {M : St} {base base' : Nat} {Kp : List Nat} (hb : base' ≤ base) (h : NS w bn M base Kp) : NS w bn M base' Kp := by
  obtain ⟨bm, L, h1, h2, h3⟩ := h.net
  exact ⟨h.ok, h.lt, Nat.le_trans hb h.bound, bm, L, h1, h2, fun k hk => ⟨Nat.le_trans hb (h3 k hk).1, (h3 k hk).2⟩⟩
theorem Upd.far {w w' : World} {base : Nat} {Kp : List Nat} (h : Upd (Far base Kp) w w') (hb : base ≤ w.heap.size) : Below base w w' := h.below hb (fun _ hk => hk.1)

theorem RB.of_block {w : World} {g : Nat} {cs : Array Value} {t : TypeId} {fr : Nat × Nat} {xs : List UInt8} {c : Nat} (h : w.heap[g]? = some (.cells cs t fr)) (hc : cs.toList = byv xs) : RB w (.slice (some ⟨g, 0, none⟩) xs.length c) xs :=
  ⟨_, c, rfl, fun e => (by cases e), fun ad e j hj => by
    injection e with e
    subst e
    rw [add_plain]
    refine cell_of h j ?_
    rw [← Array.getElem?_toList, hc]
    simp [byv, hj]⟩
set_option maxHeartbeats 400000 in
theorem one_any (f t : Int) (x : UInt8) (w : World) : Calls Try.prog 19 #[.int .i64 f, .int .i64 t, .int .u8 (x.toNat : Int)] w fun e w' =>
    e = .returned (.agg #[.int .i64 f, .int .i64 t, .slice (some ⟨w.heap.size + 1, 0, none⟩) 1 1]) ∧ RB w' (.slice (some ⟨w.heap.size + 1, 0, none⟩) 1 1) [x] ∧ Below w.heap.size w w' := by
  go_enter Try.func19, Try.ntmps19
  go_wp2
  refine bodyPost_ret (v := .agg #[.int .i64 f, .int .i64 t, .slice (some ⟨w.heap.size + 1, 0, none⟩) 1 1]) (by simp [results, Try.f19, go_sem]) rfl ⟨rfl, ?_, ?_⟩
  · refine RB.of_block (xs := [x]) (cs := #[.int .u8 (x.toNat : Int)]) (t := 5) (fr := (0, 0)) ?_ rfl
    have := heap_alloc_new (w.alloc (.cells #[.int .i64 f, .int .i64 t, .slice (some ⟨w.heap.size + 1, 0, none⟩) 1 1] 28)) (.cells #[.int .u8 (x.toNat : Int)] 5)
    simpa using this
  · exact below_new _ (below_new _ (Below.refl _ _))

/-- A slice of one datagram. -/
theorem RD.one {w : World} {g : Nat} {t0 : TypeId} {fr : Nat × Nat} (d : Ed) (h : w.heap[g]? = some (.cells #[.int .i64 d.f, .int .i64 d.t, d.v] t0 fr)) (hb : RB w d.v d.xs) : RD w (.slice (some ⟨g, 0, none⟩) 1 1) [d] :=
  ⟨some ⟨g, 0, none⟩, 1, rfl, fun _ => ⟨g, 0, rfl, fun j hj => by
    obtain rfl : j = 0 := by simpa using hj
    exact ⟨cell_of h 0 rfl, cell_of h 1 rfl, cell_of h 2 rfl, hb⟩⟩⟩

theorem RB.upd' {w w' : World} {v : Value} {xs : List UInt8} {S : Nat → Prop} (h : RB w v xs) (hu : Upd S w w') (hs : ∀ k, inB v k → k < w.heap.size → ¬ S k) : RB w' v xs := by
  rcases xs with _ | ⟨x, r⟩
  · obtain ⟨A, c, hv, h0, hc⟩ := h
    exact ⟨A, c, hv, h0, fun ad e j hj => by simp at hj⟩
  · exact h.kept (fun k hk => hu.block k (h.lt (by simp) k hk) (hs k hk (h.lt (by simp) k hk)))
theorem NS.unmore {w : World} {bn : Nat} {M : St} {base : Nat} {ks Kp : List Nat} (h : NS w bn M base (ks ++ Kp)) : NS w bn M base Kp := h.less (fun k hk => List.mem_append_right _ hk)
theorem Upd.far_less {w w' : World} {base : Nat} {ks Kp : List Nat} (h : Upd (Far base (ks ++ Kp)) w w') : Upd (Far base Kp) w w' :=
  h.mono (fun k _ hk => ⟨hk.1, fun e => hk.2 (List.mem_append_right _ e)⟩)
theorem Upd.new {S : Nat → Prop} {w w' w'' : World} (h : Upd S w w') (hb : Below w'.heap.size w' w'') : Upd S w w'' := h.grow (Upd.of_below hb)
theorem Upd.old {S : Nat → Prop} {w w' w'' : World} (hb : Below w.heap.size w w') (h : Upd S w' w'') : Upd S w w'' := (Upd.of_below hb).grow h

set_option maxRecDepth 100000 in
set_option maxHeartbeats 1000000 in
theorem is_any (h : NS w bn M base Kp) (i : Int) {d : Dg} {r : Int} {M' : St} (hM : M.take i = ((d, r), M')) (f t : Int) (A : Option Addr) (c : Nat) (xs : List UInt8) (hv : RB w (.slice A xs.length c) xs) (hk : ∀ k, inB (.slice A xs.length c) k → k < w.heap.size → ¬ Far base Kp k) :
    Calls Try.prog 22 #[.pointer (some ⟨bn, 0, none⟩), .int .i64 i, .agg #[.int .i64 f, .int .i64 t, .slice A xs.length c]] w fun e w' => e = .returned (.bool (decide (r = 0) && decide (d = (f, t, xs)))) ∧ NS w' bn M' base Kp ∧ Upd (Far base Kp) w w' := by
  have hb := h.bound
  have H := Lib.hid h
  have HM := Lib.hid hM
  clear h hM
  go_enter Try.func22, Try.ntmps22
  go_wp2_with fail
  have hh := H.out.more (below_new (.cells #[.int .i64 f, .int .i64 t, .slice A xs.length c] 28) (Below.refl _ w)) [w.heap.size] (by simp)
  have hv0 := hv.alloc (.cells #[.int .i64 f, .int .i64 t, .slice A xs.length c] 28)
  refine (hh.take' i HM.out).mono ?_
  rintro e w1 ⟨A1, c1, rfl, hob, hns, hu⟩
  have k0 := (hu.block w.heap.size (by simp) (fun hf => hf.2 (by simp))).trans (heap_alloc_new w (.cells #[.int .i64 f, .int .i64 t, .slice A xs.length c] 28))
  have q0 : w1.cell? ⟨w.heap.size, 0, none⟩ = some (.int .i64 f) := cell_of k0 0 rfl
  have q1 : w1.cell? ⟨w.heap.size, 1, none⟩ = some (.int .i64 t) := cell_of k0 1 rfl
  have q2 : w1.cell? ⟨w.heap.size, 2, none⟩ = some (.slice A xs.length c) := cell_of k0 2 rfl
  have hs1 : w.heap.size < w1.heap.size := by have := hu.size; simp at this; omega
  have hv1 : RB w1 (.slice A xs.length c) xs := hv0.upd' hu (fun k hk1 hk2 hf => by
    simp only [List.singleton_append, Far, List.mem_cons, not_or] at hf
    simp only [World.size_alloc] at hk2
    exact hk k hk1 (by omega) ⟨hf.1, hf.2.2⟩)
  have HNS := Lib.hid hns
  have HU := Lib.hid hu
  have HOB := Lib.hid hob
  have HV1 := Lib.hid hv1
  clear k0 hh hns hu hob hv1 hv0 hv hk
  by_cases hr : r = 0
  · subst hr
    go_wp2_with fail
    have hbW : Below w1.heap.size w1 (((w1.alloc (.cells #[.int .i64 d.1, .int .i64 d.2.1, .slice A1 d.2.2.length c1] 28)).alloc (.cells #[.int .i64 d.1, .int .i64 d.2.1, .slice A1 d.2.2.length c1] 28)).alloc (.cells #[.int .i64 f, .int .i64 t, .slice A xs.length c] 28)) :=
      below_new _ (below_new _ (below_new _ (Below.refl _ _)))
    have g1 : (((w1.alloc (.cells #[.int .i64 d.1, .int .i64 d.2.1, .slice A1 d.2.2.length c1] 28)).alloc (.cells #[.int .i64 d.1, .int .i64 d.2.1, .slice A1 d.2.2.length c1] 28)).alloc (.cells #[.int .i64 f, .int .i64 t, .slice A xs.length c] 28)).heap[w1.heap.size + 1]? = some (.cells #[.int .i64 d.1, .int .i64 d.2.1, .slice A1 d.2.2.length c1] 28 (0, 0)) := by
      refine (Below.heap_alloc _ _ _ (by simp)).trans ?_
      have := heap_alloc_new (w1.alloc (.cells #[.int .i64 d.1, .int .i64 d.2.1, .slice A1 d.2.2.length c1] 28)) (.cells #[.int .i64 d.1, .int .i64 d.2.1, .slice A1 d.2.2.length c1] 28)
      simpa using this
    have g2 : (((w1.alloc (.cells #[.int .i64 d.1, .int .i64 d.2.1, .slice A1 d.2.2.length c1] 28)).alloc (.cells #[.int .i64 d.1, .int .i64 d.2.1, .slice A1 d.2.2.length c1] 28)).alloc (.cells #[.int .i64 f, .int .i64 t, .slice A xs.length c] 28)).heap[w1.heap.size + 1 + 1]? = some (.cells #[.int .i64 f, .int .i64 t, .slice A xs.length c] 28 (0, 0)) := by
      have := heap_alloc_new ((w1.alloc (.cells #[.int .i64 d.1, .int .i64 d.2.1, .slice A1 d.2.2.length c1] 28)).alloc (.cells #[.int .i64 d.1, .int .i64 d.2.1, .slice A1 d.2.2.length c1] 28)) (.cells #[.int .i64 f, .int .i64 t, .slice A xs.length c] 28)
      simpa using this
    refine (same_any _ _ [⟨d.1, d.2.1, .slice A1 d.2.2.length c1, d.2.2⟩] [⟨f, t, .slice A xs.length c, xs⟩] _ (RD.one _ g1 (HOB.out.rb.below hbW)) (RD.one _ g2 (HV1.out.below hbW)) (by simp) (by simp)).mono ?_
    rintro e w2 ⟨rfl, hb2⟩
    have hb3 := Lib.hid (below_step hb2 hbW)
    clear hbW g1 g2 hb2
    go_wp2
    go_ret
    refine ⟨?_, HNS.out.unmore.unmore.below hb3.out, ((Upd.old (below_new _ (Below.refl _ _)) HU.out).far_less).new hb3.out⟩
    obtain ⟨d1, d2, d3⟩ := d
    simp [Ed.dg]
  · clear HV1
    have hr0 : (r == 0) = false := by simp [hr]
    clear hr
    go_wp2
    refine bodyPost_ret (v := .bool false) (by simp [results, Try.f22, go_sem]) rfl ⟨?_, HNS.out.unmore.unmore.below (below_new _ (Below.refl _ _)), ((Upd.old (below_new _ (Below.refl _ _)) HU.out).far_less).new (below_new _ (Below.refl _ _))⟩
    have : ¬ r = 0 := by simpa using hr0
    simp [this]
end Go.Proofs.Ytddndmhjkjanlaa
