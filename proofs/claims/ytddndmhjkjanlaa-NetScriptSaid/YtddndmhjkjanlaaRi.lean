/- The document's net: Turn. Conditions: it holds what its word says. -/
import Derived.Test.YtddndmhjkjanlaaRh
namespace Go.Proofs.Ytddndmhjkjanlaa
open Go.RowKit Go.Shelf
variable {w : World} {r : Nat} {M : St} {Kp : List Nat}

theorem rturn_no (h : RNet w r M Kp) (i bit : Int) (hi : M.at? i = none) :
    Calls Try.prog 43 #[.pointer (some ⟨r, 0, none⟩), .int .i64 i, .int .i64 bit] w fun e w' => e = .returned (.int .i64 6) ∧ w = w' := by
  have hT := Lib.hid (there_any h i)
  rw [hi] at hT
  clear h
  go_enter Try.func43, Try.ntmps43
  go_wp2_with fail
  refine hT.out.mono ?_
  rintro e w' ⟨rfl, rfl⟩
  go_wp2
  go_ret
  exact ⟨rfl, rfl⟩
/-- The element at i, laid open. -/
theorem ROpen.elem {A : Option Addr} {c : Nat} {l : List Ed} {vK : Value} (ho : ROpen w r M Kp A c l vK) {i : Nat} (hi : i < M.l.length) : ∃ g df dt Ad cd dxs, A = some ⟨g, 0, none⟩ ∧ l[i]? = some ⟨df, dt, .slice Ad dxs.length cd, dxs⟩ ∧ M.l.getD i zD = (df, dt, dxs) ∧
    OB w 0 (.slice Ad dxs.length cd) dxs ∧ (∀ W : World, Below w.heap.size w W → W.cell? ⟨g, i * 3, none⟩ = some (.int .i64 df) ∧ W.cell? ⟨g, i * 3 + 1, none⟩ = some (.int .i64 dt) ∧ W.cell? ⟨g, i * 3 + 2, none⟩ = some (.slice Ad dxs.length cd)) ∧ ∃ cur, w.heap[g]? = some (.cells cur 28 (0, 0)) := by
  have hlen := ho.len
  have hil : i < l.length := by omega
  obtain ⟨d, hd⟩ : ∃ d, l[i]? = some d := ⟨_, List.getElem?_eq_getElem hil⟩
  obtain ⟨df, dt, dv, dxs⟩ := d
  have hdl : l[i] = ⟨df, dt, dv, dxs⟩ := (List.getElem?_eq_some_iff.1 hd).2
  have hdb : OB w 0 dv dxs := ho.ob _ (List.mem_of_getElem? hd)
  obtain ⟨Ad, cd, rfl⟩ := hdb.form
  obtain ⟨g, rfl⟩ : ∃ g, A = some ⟨g, 0, none⟩ := by
    rcases ho.own.2 with ⟨_, h0⟩ | ⟨g, cap, cur, e, _⟩
    · omega
    · injection e with e; exact ⟨g, e⟩
  obtain ⟨cur, hcur⟩ := ownsRow_typed ho.own (g := g) rfl
  have hlt := (Array.getElem?_eq_some_iff.1 hcur).1
  have hcell := ho.own.cells (g := g) rfl
  obtain ⟨k0, k1, k2⟩ := cellsE_get l i hil
  rw [hdl] at k0 k1 k2
  have a0 := hcell _ _ k0
  have a1 := hcell _ _ k1
  have a2 := hcell _ _ k2
  rw [add_plain] at a0 a1 a2
  refine ⟨g, df, dt, Ad, cd, dxs, rfl, hd, ?_, hdb, fun W hb => ⟨(hb.cell (p := ⟨g, i * 3, none⟩) hlt).trans a0, (hb.cell (p := ⟨g, i * 3 + 1, none⟩) hlt).trans a1, (hb.cell (p := ⟨g, i * 3 + 2, none⟩) hlt).trans a2⟩, cur, hcur⟩
  rw [List.getD_eq_getElem?_getD, ← ho.map, List.getElem?_map, hd]; rfl

set_option maxHeartbeats 2000000 in
theorem rturn_range (h : RNet w r M Kp) (i : Nat) (bit : Int) (hi : i < M.l.length) (hb : bit < 0 ∨ (((M.l.getD i zD).2.2.length : Nat) : Int) * 8 ≤ bit) :
    Calls Try.prog 43 #[.pointer (some ⟨r, 0, none⟩), .int .i64 (i : Int), .int .i64 bit] w fun e w' => e = .returned (.int .i64 5) ∧ w = w' := by
  have hat : (M.at? (i : Int)) = some i := by unfold St.at?; rw [if_neg (by omega)]; rfl
  have hT := Lib.hid (there_any h (i : Int))
  rw [hat] at hT
  obtain ⟨A, c, l, vK, ho⟩ := h.opened
  obtain ⟨g, df, dt, Ad, cd, dxs, rfl, hd, hgd, hob, hcell, -⟩ := ho.elem hi
  have hdx : dxs.length ≤ 1500 := h.ok.each (df, dt, dxs) (by rw [← ho.map]; exact List.mem_map_of_mem (List.mem_of_getElem? hd))
  rw [hgd] at hb
  dsimp only [] at hb
  have c0 := cell_of ho.head 0 rfl
  obtain ⟨a0, a1, a2⟩ := hcell w (Below.refl _ _)
  have hli : (i : Int) < (l.length : Int) := by have := ho.len; omega
  clear h ho hcell hob hgd hd hat a0 a1
  by_cases h0 : bit < 0
  · have d0 : decide (bit < 0) = true := decide_eq_true h0
    clear hb
    go_enter Try.func43, Try.ntmps43
    go_wp2_with fail
    refine hT.out.mono ?_
    rintro e w' ⟨rfl, rfl⟩
    go_wp2
    go_ret
    exact ⟨rfl, rfl⟩
  · have d0 : decide (bit < 0) = false := decide_eq_false h0
    have hb2 : 8 * (dxs.length : Int) ≤ bit := by omega
    clear hb
    go_enter Try.func43, Try.ntmps43
    go_wp2_with fail
    refine hT.out.mono ?_
    rintro e w' ⟨rfl, rfl⟩
    go_wp2
    go_ret
    exact ⟨rfl, rfl⟩

theorem OB.turned {W : World} {base g n c : Nat} {xs : List UInt8} (h : OB W base (.slice (some ⟨g, 0, none⟩) n c) xs) (k : Nat) :
    OB (W.setCell ⟨g, k / 8, none⟩ (.int .u8 ((xs.getD (k / 8) 0 ^^^ tbit k).toNat : Int))) base (.slice (some ⟨g, 0, none⟩) n c) (turnB xs k) := by
  have htb : (turnB xs k).length = xs.length := by simp [turnB]
  rcases h.own with ⟨hl, h3 | ⟨g', cap, cur, hv, h0, hh, h1, h2, h4, h5⟩⟩
  · cases h3.1
  · injection hv with hv1 hv2 hv3
    injection hv1 with hv1
    injection hv1 with hv1
    subst hv1 hv3
    refine ⟨⟨by simp [turnB], .inr ⟨g, c, cur.setIfInBounds (k / 8) (.int .u8 ((xs.getD (k / 8) 0 ^^^ tbit k).toNat : Int)), by rw [hv2, htb], h0, heap_set hh _ _, by rw [htb]; exact h1, h2, by simpa using h4, ?_⟩⟩, ?_⟩
    · simp only [Array.toList_setIfInBounds]
      rw [List.take_set, htb, h5]
      simp [byv, turnB, List.map_set]
    · intro g2 hg2
      simp only [Value.ownBlock, Option.some.injEq] at hg2
      subst hg2
      obtain ⟨cur', hc1, hc2⟩ := h.typ g rfl
      rw [hh] at hc1
      injection hc1 with hc1
      injection hc1 with hc1
      subst hc1
      refine ⟨_, heap_set hh _ _, ?_⟩
      intro u hu
      simp only [Array.toList_setIfInBounds] at hu
      rcases List.mem_or_eq_of_mem_set hu with hu | rfl
      · exact hc2 u hu
      · exact ⟨_, rfl⟩
theorem cellsE_set : ∀ (l : List Ed) (i : Nat) (d : Ed), (((cellsE l).set (i * 3) (.int .i64 d.f)).set (i * 3 + 1) (.int .i64 d.t)).set (i * 3 + 2) d.v = cellsE (l.set i d) ∨ l.length ≤ i
  | [], i, d => .inr (Nat.zero_le _)
  | a :: r, 0, d => .inl rfl
  | a :: r, i + 1, d => by
    rcases cellsE_set r i d with h | h
    · left
      have e : cellsE (a :: r) = .int .i64 a.f :: .int .i64 a.t :: a.v :: cellsE r := rfl
      have e1 : (i + 1) * 3 = i * 3 + 1 + 1 + 1 := by omega
      rw [e, e1]
      simp only [List.set_cons_succ]
      rw [h]
      rfl
    · right; simpa using h
theorem row_set {W : World} {base g n c i : Nat} {l : List Ed} (h : W.ownsRow base 28 3 (.slice (some ⟨g, 0, none⟩) n c) n (cellsE l)) (hi : i < l.length) (d : Ed) :
    (((W.setCell ⟨g, i * 3, none⟩ (.int .i64 d.f)).setCell ⟨g, i * 3 + 1, none⟩ (.int .i64 d.t)).setCell ⟨g, i * 3 + 2, none⟩ d.v).ownsRow base 28 3 (.slice (some ⟨g, 0, none⟩) n c) n (cellsE (l.set i d)) := by
  have h1 := (((h.stored (i * 3) (.int .i64 d.f)).1.stored (i * 3 + 1) (.int .i64 d.t)).1.stored (i * 3 + 2) d.v).1
  rcases cellsE_set l i d with e | e
  · rw [e] at h1; exact h1
  · omega
/-- An element of the list is written. -/
theorem RNet.putE {W : World} {g c i : Nat} {l : List Ed} {vK : Value} (h : RNet W r M Kp) (ho : ROpen W r M Kp (some ⟨g, 0, none⟩) c l vK) (hi : i < l.length) (d : Ed) (hd : OB W 0 d.v d.xs) (Kp' : List Nat) (hsub : ∀ k ∈ Kp, k ∈ Kp') (hdk : ∀ k, d.v.ownBlock = some k → k ∈ Kp') (hdl : d.xs.length ≤ 1500) :
    RNet (((W.setCell ⟨g, i * 3, none⟩ (.int .i64 d.f)).setCell ⟨g, i * 3 + 1, none⟩ (.int .i64 d.t)).setCell ⟨g, i * 3 + 2, none⟩ d.v) r { M with l := M.l.set i d.dg } Kp' ∧
    ROpen (((W.setCell ⟨g, i * 3, none⟩ (.int .i64 d.f)).setCell ⟨g, i * 3 + 1, none⟩ (.int .i64 d.t)).setCell ⟨g, i * 3 + 2, none⟩ d.v) r { M with l := M.l.set i d.dg } Kp' (some ⟨g, 0, none⟩) c (l.set i d) vK := by
  obtain ⟨cur, hcur⟩ := ownsRow_typed ho.own (g := g) rfl
  have hlen := ho.len
  have far : ∀ (q : Nat) cs t0 fr, t0 ≠ 28 → W.heap[q]? = some (.cells cs t0 fr) → (((W.setCell ⟨g, i * 3, none⟩ (.int .i64 d.f)).setCell ⟨g, i * 3 + 1, none⟩ (.int .i64 d.t)).setCell ⟨g, i * 3 + 2, none⟩ d.v).heap[q]? = W.heap[q]? := fun q cs t0 fr ht hh => by
    have := blk_ne hh hcur ht
    rw [heap_far _ _ _ this, heap_far _ _ _ this, heap_far _ _ _ this]
  have hll : (l.set i d).length = l.length := List.length_set ..
  have hok := h.ok
  have o : ROpen (((W.setCell ⟨g, i * 3, none⟩ (.int .i64 d.f)).setCell ⟨g, i * 3 + 1, none⟩ (.int .i64 d.t)).setCell ⟨g, i * 3 + 2, none⟩ d.v) r { M with l := M.l.set i d.dg } Kp' (some ⟨g, 0, none⟩) c (l.set i d) vK := by
    refine ⟨by rw [List.map_set, ho.map], by rw [hll]; exact (far r _ 50 _ (by decide) ho.head).trans ho.head, ?_, ownsRow_kept ho.row (fun q cs t fr hq hh => ?_), fun e he => ?_, fun k hk => hsub _ (ho.bl k hk), fun k hk => hsub _ (ho.bk k hk), fun e he k hk => ?_⟩
    · rw [hll]
      exact row_set ho.own hi d
    · obtain ⟨cs2, h2⟩ := ownsRow_typed ho.row hq
      exact far q cs2 74 _ (by decide) h2
    · have hO : OB W 0 e.v e.xs := by
        rcases List.mem_or_eq_of_mem_set he with he | rfl
        · exact ho.ob e he
        · exact hd
      exact hO.kept' (fun q cs fr hq hh => far q cs 5 _ (by decide) hh)
    · rcases List.mem_or_eq_of_mem_set he with he | rfl
      · exact hsub _ (ho.bd e he k hk)
      · exact hdk k hk
  refine ⟨⟨⟨by simpa using hok.len, fun e he => ?_, hok.low, hok.high⟩, h.kl, hsub _ h.self, _, vK, l.set i d, o.map, o.head, o.own, o.row, o.ob, o.bl, o.bk, o.bd⟩, o⟩
  rcases List.mem_or_eq_of_mem_set he with he | rfl
  · exact hok.each e he
  · exact hdl
theorem ROpen.below {A : Option Addr} {c : Nat} {l : List Ed} {vK : Value} (ho : ROpen w r M Kp A c l vK) {W : World} (hb : Below w.heap.size w W) : ROpen W r M Kp A c l vK :=
  ⟨ho.map, ho.head_in hb, ownsRow_upd (S := fun _ => False) ho.own (Upd.of_below hb) (fun _ _ h => h), ownsRow_upd (S := fun _ => False) ho.row (Upd.of_below hb) (fun _ _ h => h), fun d hd => (ho.ob d hd).kept' (fun g cs fr _ hh => hb.block g (Array.getElem?_eq_some_iff.1 hh).1), ho.bl, ho.bk, ho.bd⟩

set_option maxRecDepth 100000 in
set_option maxHeartbeats 4000000 in
theorem rturn_yes (h : RNet w r M Kp) (hkp : ∀ k ∈ Kp, k < w.heap.size) (i k : Nat) (hi : i < M.l.length) (hk : k / 8 < (M.l.getD i zD).2.2.length) :
    Calls Try.prog 43 #[.pointer (some ⟨r, 0, none⟩), .int .i64 (i : Int), .int .i64 (k : Int)] w fun e w' => e = .returned (.int .i64 0) ∧ RStep w w' r { M with l := M.l.set i ((M.l.getD i zD).1, (M.l.getD i zD).2.1, turnB (M.l.getD i zD).2.2 k) } Kp := by
  have hat : (M.at? (i : Int)) = some i := by unfold St.at?; rw [if_neg (by omega)]; rfl
  have hT := Lib.hid (there_any h (i : Int))
  rw [hat] at hT
  obtain ⟨A, c, l, vK, ho⟩ := h.opened
  obtain ⟨g, df, dt, Ad, cd, dxs, rfl, hd, hgd, hob, hcell, cur, hcur⟩ := ho.elem hi
  have hdx : dxs.length ≤ 1500 := h.ok.each (df, dt, dxs) (by rw [← ho.map]; exact List.mem_map_of_mem (List.mem_of_getElem? hd))
  rw [hgd] at hk ⊢
  dsimp only [] at hk ⊢
  have c0 := cell_of ho.head 0 rfl
  obtain ⟨a0, a1, a2⟩ := hcell w (Below.refl _ _)
  have hli : (i : Int) < (l.length : Int) := by have := ho.len; omega
  have d0 : decide ((k : Int) < 0) = false := by simp
  have d1 : (k : Int) < 8 * (dxs.length : Int) := by omega
  have d2 : decide (8 * (dxs.length : Int) ≤ (k : Int)) = false := by simp; omega
  have HCE := Lib.hid hcell; have HO := Lib.hid ho; have H := Lib.hid h; have HKP := Lib.hid hkp; have HOB := Lib.hid hob; have HGD := Lib.hid hgd; have HD := Lib.hid hd; have HCU := Lib.hid hcur
  clear h ho hcell hob hgd hd hat hkp hcur
  go_enter Try.func43, Try.ntmps43
  go_wp2_with fail
  refine hT.out.mono ?_
  rintro e w' ⟨rfl, rfl⟩
  go_wp2_with fail
  refine (own_any df dt (.slice Ad dxs.length cd) dxs _ HOB.out.rb (by omega)).mono ?_
  rintro e w1 ⟨A1, c1, rfl, ob1, B1⟩
  obtain ⟨g1, rfl⟩ : ∃ g, A1 = some ⟨g, 0, none⟩ := by
    rcases ob1.own.2 with ⟨h1, h2⟩ | ⟨g, cap, cur, h1, _⟩
    · omega
    · injection h1 with h1; exact ⟨g, h1⟩
  have ob2 := ob1.alloc1 (.cells #[.int .i64 df, .int .i64 dt, .slice (some ⟨g1, 0, none⟩) dxs.length c1] 28)
  have cb : (w1.alloc (.cells #[.int .i64 df, .int .i64 dt, .slice (some ⟨g1, 0, none⟩) dxs.length c1] 28)).cell? ⟨g1, k / 8, none⟩ = some (.int .u8 (dxs[k / 8].toNat : Int)) := by
    obtain ⟨A', c', e, _, hc⟩ := ob2.rb
    injection e with e1 _ _
    have := hc _ e1.symm (k / 8) hk
    rwa [add_plain] at this
  have fb : (w1.alloc (.cells #[.int .i64 df, .int .i64 dt, .slice (some ⟨g1, 0, none⟩) dxs.length c1] 28)).frozen? ⟨g1, k / 8, none⟩ = false := by
    obtain ⟨cs, h3⟩ := ownsRow_typed ob2.own (g := g1) rfl
    exact frozen_of h3 _
  have hbx := heap_alloc_new w1 (.cells #[.int .i64 df, .int .i64 dt, .slice (some ⟨g1, 0, none⟩) dxs.length c1] 28)
  obtain ⟨W, hW⟩ : ∃ W, w1.alloc (.cells #[.int .i64 df, .int .i64 dt, .slice (some ⟨g1, 0, none⟩) dxs.length c1] 28) = W := ⟨_, rfl⟩
  rw [hW] at ob2 cb fb hbx
  have x0 := cell_of hbx 0 rfl
  have x1 := cell_of hbx 1 rfl
  have x2 := cell_of hbx 2 rfl
  have ik : (k : Int) ≤ 8000008 := by omega
  have i0 : (0 : Int) ≤ (k : Int) / 8 := by omega
  have i1 : (k : Int) / 8 < (dxs.length : Int) := by omega
  have OB1 := Lib.hid ob2; have HB1 := Lib.hid B1; have HBX := Lib.hid hbx; have HW := Lib.hid hW
  clear ob1 ob2 B1 hbx
  have hval := turn_val dxs k hk
  obtain ⟨W8, hW8⟩ : ∃ W8, W.setCell ⟨g1, k / 8, none⟩ (.int .u8 (bits .xor .u8 (dxs[k / 8].toNat : Int) (2 ^ (k % 8) % 256))) = W8 := ⟨_, rfl⟩
  have hob8 : OB W8 w.heap.size (.slice (some ⟨g1, 0, none⟩) dxs.length c1) (turnB dxs k) := by
    rw [← hW8, hval]; exact OB1.out.turned k
  have hbW : Below w.heap.size w W8 := by
    rw [← hW8, ← HW.out]
    exact (below_new _ HB1.out).setCell (p := ⟨g1, k / 8, none⟩) (OB1.out.block g1 (by simp [Value.ownBlock])).1 _
  have hbx8 : W8.heap[w1.heap.size]? = some (.cells #[.int .i64 df, .int .i64 dt, .slice (some ⟨g1, 0, none⟩) dxs.length c1] 28 (0, 0)) := by
    obtain ⟨cs, h3⟩ := ownsRow_typed OB1.out.own (g := g1) rfl
    rw [← hW8, heap_far _ _ _ (blk_ne HBX.out h3 (by decide))]
    exact HBX.out
  have ho8 := HO.out.below hbW
  have e0 := cell_of ho8.head 0 rfl
  have z0 := cell_of hbx8 0 rfl
  have z1 := cell_of hbx8 1 rfl
  have z2 := cell_of hbx8 2 rfl
  obtain ⟨l0, l1, l2⟩ := HCE.out _ hbW
  obtain ⟨cur8, hcur8⟩ := ownsRow_typed ho8.own (g := g) rfl
  have f0 := frozen_of hcur8 (i * 3)
  have f1 := frozen_of hcur8 (i * 3 + 1)
  have f2 := frozen_of hcur8 (i * 3 + 2)
  have HO8 := Lib.hid ho8; have HBW := Lib.hid hbW; have HOB8 := Lib.hid hob8
  clear ho8 hbW hob8 hbx8 hcur8 hval
  go_wp2
  go_region
  all_goals
    clear x0 x1 x2 cb fb c0 a0 a1 a2
    go_wp2
    go_region
    all_goals
      go_wp2
      go_ret
      have hp := (H.out.below HBW.out).putE HO8.out (i := i) (by omega) ⟨df, dt, .slice (some ⟨g1, 0, none⟩) dxs.length c1, turnB dxs k⟩ (HOB8.out.mono (Nat.zero_le _)) (Kp ++ [g1]) (fun q hq => List.mem_append_left _ hq) (fun q hq => by simp [Value.ownBlock] at hq; simp [hq]) (by simpa [turnB] using hdx)
      have hg : g ∈ Kp := HO8.out.bl g rfl
      have hgb := HOB8.out.block g1 (by simp [Value.ownBlock])
      refine ⟨rfl, (hp.1.below ((Below.refl _ _).drew.drew)).more (fun q hq => ?_), ((((Upd.of_below HBW.out).setCell (p := ⟨g, i * 3, none⟩) (.inl hg) _).setCell (p := ⟨g, i * 3 + 1, none⟩) (.inl hg) _).setCell (p := ⟨g, i * 3 + 2, none⟩) (.inl hg) _).drew.drew⟩
      rw [mem_kmore]
      rcases List.mem_append.1 hq with hq | hq
      · exact .inl hq
      · simp only [List.mem_singleton] at hq
        subst hq
        right
        refine ⟨hgb.1, ?_⟩
        have := hgb.2
        simpa [World.drew, World.setCell] using this

theorem rturn_any (h : RNet w r M Kp) (hkp : ∀ k ∈ Kp, k < w.heap.size) (i bit : Int) :
    Calls Try.prog 43 #[.pointer (some ⟨r, 0, none⟩), .int .i64 i, .int .i64 bit] w fun e w' => e = .returned (.int .i64 (M.turn i bit).1) ∧ RStep w w' r (M.turn i bit).2 Kp := by
  unfold St.turn
  rcases hi : M.at? i with _ | k
  · dsimp only []
    refine (rturn_no h i bit hi).mono ?_
    rintro e w' ⟨rfl, rfl⟩
    exact ⟨rfl, RStep.same h (Below.refl _ _)⟩
  · obtain ⟨rfl, hk⟩ := St.at?_some hi
    dsimp only []
    by_cases hb : bit < 0 ∨ ((M.l.getD k zD).2.2.length : Int) ≤ bit / 8
    · rw [if_pos hb]
      refine (rturn_range h k bit hk (by omega)).mono ?_
      rintro e w' ⟨rfl, rfl⟩
      exact ⟨rfl, RStep.same h (Below.refl _ _)⟩
    · rw [if_neg hb]
      obtain ⟨m, rfl⟩ : ∃ m : Nat, bit = (m : Int) := ⟨bit.toNat, by omega⟩
      exact rturn_yes h hkp k m hk (by omega)
end Go.Proofs.Ytddndmhjkjanlaa
