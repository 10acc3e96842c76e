/- The net's Turn. Conditions: the net holds what its word says; at most 10^6 datagrams, bytes. -/
import Derived.Test.YtddndmhjkjanlaaNl
namespace Go.Proofs.Ytddndmhjkjanlaa
open Go.RowKit Go.Shelf

/-- Bytes of which a bit is turned. -/
def tbit (k : Nat) : UInt8 := UInt8.ofNat (2 ^ (k % 8))
def turnB (xs : List UInt8) (k : Nat) : List UInt8 := xs.set (k / 8) (xs.getD (k / 8) 0 ^^^ tbit k)
theorem tbit_nat (k : Nat) : (tbit k).toNat = 2 ^ (k % 8) := by
  have h : k % 8 < 8 := Nat.mod_lt _ (by omega)
  have : ∀ m, m < 8 → (UInt8.ofNat (2 ^ m)).toNat = 2 ^ m := by decide
  exact this _ h
theorem xor_u8 (a b : UInt8) : bits .xor .u8 (a.toNat : Int) (b.toNat : Int) = ((a ^^^ b).toNat : Int) := by
  have : ∀ a b : UInt8, bits .xor .u8 (a.toNat : Int) (b.toNat : Int) = ((a ^^^ b).toNat : Int) := by
    intro a b
    show IntKind.u8.wrap ((BitVec.ofInt 8 (a.toNat : Int) ^^^ BitVec.ofInt 8 (b.toNat : Int)).toNat : Int) = _
    have ha : BitVec.ofInt 8 (a.toNat : Int) = a.toBitVec := by
      apply BitVec.eq_of_toNat_eq
      rw [BitVec.ofInt_natCast]
      simp
    have hb : BitVec.ofInt 8 (b.toNat : Int) = b.toBitVec := by
      apply BitVec.eq_of_toNat_eq
      rw [BitVec.ofInt_natCast]
      simp
    rw [ha, hb, ← UInt8.toBitVec_xor]
    have := (a ^^^ b).toNat_lt
    show IntKind.u8.wrap ((a ^^^ b).toNat : Int) = _
    exact IntWalk.u8_in _ (by omega)
  exact this a b
theorem turn_val (xs : List UInt8) (k : Nat) (hk : k / 8 < xs.length) : bits .xor .u8 (xs[k / 8].toNat : Int) (2 ^ (k % 8) % 256) = ((xs.getD (k / 8) 0 ^^^ tbit k).toNat : Int) := by
  have h1 : ((2 : Int) ^ (k % 8) % 256) = ((tbit k).toNat : Int) := by
    rw [tbit_nat]
    have h : k % 8 < 8 := Nat.mod_lt _ (by omega)
    have : ∀ m, m < 8 → ((2 : Int) ^ m % 256) = ((2 ^ m : Nat) : Int) := by decide
    exact this _ h
  rw [h1, xor_u8, List.getD_eq_getElem?_getD, List.getElem?_eq_getElem hk]
  rfl
theorem take_set_lt {α : Type} (l : List α) (n j : Nat) (x : α) : (l.set j x).take n = (l.take n).set j x := List.take_set
theorem net_turn {w : World} {bn bm : Nat} {L1 L2 : List Nd} {nd : Nd} {K : List (Int × Int)} {lost : Int} (h : NetAt w bn bm (L1 ++ nd :: L2) K lost) (g k : Nat) (hg : nd.v.ownBlock = some g) (hk : k / 8 < nd.xs.length) :
    NetAt ((w.setCell ⟨g, k / 8, none⟩ (.int .u8 ((nd.xs.getD (k / 8) 0 ^^^ tbit k).toNat : Int))).drew) bn bm (L1 ++ { nd with xs := turnB nd.xs k } :: L2) K lost := by
  have hap := h.apart
  rw [blocks_eq, nodeBlocks_append, nodeBlocks_cons] at hap
  have hgm : g ∈ nd.v.ownBlock.toList := by rw [hg]; simp
  have n1 := List.nodup_cons.1 hap
  have n2 := List.nodup_cons.1 n1.2
  have hgbn : bn ≠ g := by rintro rfl; exact n1.1 (by simp only [List.mem_cons, List.mem_append]; exact .inr (.inr (.inr (.inl hgm))))
  have hgbm : bm ≠ g := by rintro rfl; exact n2.1 (by simp only [List.mem_cons, List.mem_append]; exact .inr (.inr (.inl hgm)))
  have n3 := List.nodup_append.1 n2.2
  have n4 := List.nodup_cons.1 n3.2.1
  have n5 := List.nodup_append.1 n4.2
  have hgb : nd.b ≠ g := by rintro e; exact n4.1 (by rw [e]; simp only [List.mem_append]; exact .inl hgm)
  have hg1 : ∀ k ∈ nodeBlocks L1, k ≠ g := fun x hx e => n3.2.2 x hx g (by simp only [List.mem_cons, List.mem_append]; exact .inr (.inl hgm)) e
  have hg2 : ∀ k ∈ nodeBlocks L2, k ≠ g := fun x hx e => n5.2.2 g hgm x hx e.symm
  have hN := Chain.mid (L1 := L1) h.chain
  have hc2 : Chain w L2 := (Chain.append_left (L := L1) h.chain).2
  refine ⟨?_, ?_, h.cuts.kept (heap_far _ _ _ hgbm), ?_⟩
  · show (w.setCell ⟨g, k / 8, none⟩ _).heap[bn]? = _
    rw [heap_far _ _ _ hgbn, h.head]
    have e1 : nx (L1 ++ { nd with xs := turnB nd.xs k } :: L2) = nx (L1 ++ nd :: L2) := by cases L1 <;> rfl
    rw [e1]
    simp
  · have hrel : Chain (w.setCell ⟨g, k / 8, none⟩ (.int .u8 ((nd.xs.getD (k / 8) 0 ^^^ tbit k).toNat : Int))) (L1 ++ { nd with xs := turnB nd.xs k } :: L2) := by
      refine chain_change h.chain rfl (fun x hx => heap_far _ _ _ (hg1 x hx)) ⟨?_, ?_⟩ (hc2.kept (fun x hx => heap_far _ _ _ (hg2 x hx)))
      · rw [heap_far _ _ _ hgb]; exact hN.1
      · have htb : (turnB nd.xs k).length = nd.xs.length := by simp [turnB]
        rcases hN.2.own with ⟨hl, h3 | ⟨g', cap, cur, hv, h0, hh, h1, h2, h4, h5⟩⟩
        · rw [h3.1] at hg; simp [Value.ownBlock] at hg
        · have e : g' = g := by rw [hv] at hg; simpa [Value.ownBlock] using hg
          subst e
          refine ⟨⟨by simp [turnB], .inr ⟨g', cap, cur.setIfInBounds (k / 8) (.int .u8 ((nd.xs.getD (k / 8) 0 ^^^ tbit k).toNat : Int)), by simpa [turnB] using hv, h0, heap_set hh _ _, by simpa [turnB] using h1, h2, by simpa using h4, ?_⟩⟩, ?_⟩
          · simp only [Array.toList_setIfInBounds]
            rw [List.take_set, htb, h5]
            simp [byv, turnB, List.map_set]
          · intro g2 hg2
            have hg2' : nd.v.ownBlock = some g2 := hg2
            rw [hg] at hg2'
            injection hg2' with hg2'
            subst hg2'
            obtain ⟨cur', hc1, hc2⟩ := hN.2.typ _ hg
            rw [hh] at hc1
            injection hc1 with hc1
            injection hc1 with hc1
            subst hc1
            refine ⟨_, heap_set hh _ _, ?_⟩
            intro u hu
            simp only [Array.toList_setIfInBounds] at hu
            rcases List.mem_or_eq_of_mem_set hu with hu | rfl
            · exact hc2 u hu
            · exact ⟨_, rfl⟩
    exact hrel.kept (fun _ _ => rfl)
  · rw [blocks_eq, nodeBlocks_append, nodeBlocks_cons]
    exact hap

variable {w : World} {bn bm : Nat} {L : List Nd} {K : List (Int × Int)} {lost : Int}

set_option maxRecDepth 100000 in
set_option maxHeartbeats 1000000 in
theorem turn_no (h : NetAt w bn bm L K lost) (i bit : Int) (hi : i < 0 ∨ (L.length : Int) ≤ i) :
    Calls Try.prog 17 #[.pointer (some ⟨bn, 0, none⟩), .int .i64 i, .int .i64 bit] w fun e w' => e = .returned (.int .i64 6) ∧ Step w w' bn bm L L K lost := by
  have c0 := h.cell0
  go_enter Try.func17, Try.ntmps17
  go_wp2_with (first | (go_at_call 31; refine (none_made _ true _ c0).mono ?_; rintro e w' ⟨rfl, rfl⟩) | (go_at_call 38; refine (at_no h i hi).mono ?_; rintro e w' ⟨rfl, hb1⟩))
  go_ret
  exact ⟨rfl, Step.same h (by assumption)⟩
set_option maxRecDepth 100000 in
set_option maxHeartbeats 1000000 in
theorem turn_neg {L1 L2 : List Nd} {nd : Nd} (h : NetAt w bn bm (L1 ++ nd :: L2) K lost) (hL : (L1 ++ nd :: L2).length ≤ 1000000) (bit : Int) (hbit : bit < 0) :
    Calls Try.prog 17 #[.pointer (some ⟨bn, 0, none⟩), .int .i64 (L1.length : Int), .int .i64 bit] w fun e w' => e = .returned (.int .i64 5) ∧ Step w w' bn bm (L1 ++ nd :: L2) (L1 ++ nd :: L2) K lost := by
  have c0 := h.cell0
  have hd : decide (bit < 0) = true := by simp [hbit]
  obtain ⟨A, cp, hvv⟩ := (Chain.mid (L1 := L1) h.chain).2.form
  have HV := Lib.hid hvv
  clear hvv
  go_enter Try.func17, Try.ntmps17
  go_wp2_with (first | (go_at_call 31; refine (none_made _ true _ c0).mono ?_; rintro e w' ⟨rfl, rfl⟩))
  refine (at_yes h L1.length (by simp) hL).mono ?_
  rw [List.take_left' rfl]
  rintro e w1 ⟨rfl, hb1⟩
  have h2 : NetAt w1 bn bm (L1 ++ nd :: L2) K lost := h.upd (S := fun _ => False) (Upd.of_below hb1) (fun _ _ h => h)
  have hq := place_cell h2
  have hN := Chain.mid (L1 := L1) h2.chain
  have e2 : w1.cell? ⟨nd.b, 2, none⟩ = some nd.v := cell_of hN.1 2 rfl
  rw [HV.out] at e2
  have hnx : nx (nd :: L2) = some ⟨nd.b, 0, none⟩ := rfl
  rw [hnx] at hq
  have HB := Lib.hid hb1
  clear hb1
  go_wp2
  go_ret
  exact ⟨rfl, Step.same h HB.out⟩
set_option maxRecDepth 100000 in
set_option maxHeartbeats 1000000 in
theorem turn_over {L1 L2 : List Nd} {nd : Nd} (h : NetAt w bn bm (L1 ++ nd :: L2) K lost) (hL : (L1 ++ nd :: L2).length ≤ 1000000) (bit : Int) (hbit : 0 ≤ bit) (hbit2 : bit ≤ 9223372036854775807) (hb2 : (nd.xs.length : Int) ≤ bit / 8) :
    Calls Try.prog 17 #[.pointer (some ⟨bn, 0, none⟩), .int .i64 (L1.length : Int), .int .i64 bit] w fun e w' => e = .returned (.int .i64 5) ∧ Step w w' bn bm (L1 ++ nd :: L2) (L1 ++ nd :: L2) K lost := by
  have c0 := h.cell0
  have hd : decide (bit < 0) = false := by simp [hbit]
  obtain ⟨A, cp, hvv⟩ := (Chain.mid (L1 := L1) h.chain).2.form
  have HV := Lib.hid hvv
  clear hvv
  go_enter Try.func17, Try.ntmps17
  go_wp2_with (first | (go_at_call 31; refine (none_made _ true _ c0).mono ?_; rintro e w' ⟨rfl, rfl⟩))
  refine (at_yes h L1.length (by simp) hL).mono ?_
  rw [List.take_left' rfl]
  rintro e w1 ⟨rfl, hb1⟩
  have h2 : NetAt w1 bn bm (L1 ++ nd :: L2) K lost := h.upd (S := fun _ => False) (Upd.of_below hb1) (fun _ _ h => h)
  have hq := place_cell h2
  have hN := Chain.mid (L1 := L1) h2.chain
  have e2 : w1.cell? ⟨nd.b, 2, none⟩ = some nd.v := cell_of hN.1 2 rfl
  rw [HV.out] at e2
  have hnx : nx (nd :: L2) = some ⟨nd.b, 0, none⟩ := rfl
  rw [hnx] at hq
  have HB := Lib.hid hb1
  clear hb1
  go_wp2
  go_ret
  exact ⟨rfl, Step.same h HB.out⟩
set_option maxRecDepth 100000 in
set_option maxHeartbeats 1000000 in
theorem turn_yes {L1 L2 : List Nd} {nd : Nd} (h : NetAt w bn bm (L1 ++ nd :: L2) K lost) (hL : (L1 ++ nd :: L2).length ≤ 1000000) (k : Nat) (hk : k / 8 < nd.xs.length) (hx : nd.xs.length ≤ 1000000) :
    Calls Try.prog 17 #[.pointer (some ⟨bn, 0, none⟩), .int .i64 (L1.length : Int), .int .i64 (k : Int)] w fun e w' => e = .returned (.int .i64 0) ∧ Step w w' bn bm (L1 ++ nd :: L2) (L1 ++ { nd with xs := turnB nd.xs k } :: L2) K lost := by
  have c0 := h.cell0
  have hd : decide ((k : Int) < 0) = false := by simp
  obtain ⟨A, cp, hvv⟩ := (Chain.mid (L1 := L1) h.chain).2.form
  have ho : ∃ g, A = some ⟨g, 0, none⟩ := by
    rcases (Chain.mid (L1 := L1) h.chain).2.own.2 with ⟨h1, h2⟩ | ⟨g, cap, cur, h1, _⟩
    · omega
    · rw [hvv] at h1; injection h1 with h1; exact ⟨g, h1⟩
  obtain ⟨g, rfl⟩ := ho
  have HV := Lib.hid hvv
  clear hvv
  go_enter Try.func17, Try.ntmps17
  go_wp2_with (first | (go_at_call 31; refine (none_made _ true _ c0).mono ?_; rintro e w' ⟨rfl, rfl⟩))
  refine (at_yes h L1.length (by simp) hL).mono ?_
  rw [List.take_left' rfl]
  rintro e w1 ⟨rfl, hb1⟩
  have h2 : NetAt w1 bn bm (L1 ++ nd :: L2) K lost := h.upd (S := fun _ => False) (Upd.of_below hb1) (fun _ _ h => h)
  have hq := place_cell h2
  have hN := Chain.mid (L1 := L1) h2.chain
  have e2 : w1.cell? ⟨nd.b, 2, none⟩ = some nd.v := cell_of hN.1 2 rfl
  have hrb := hN.2.rb
  rw [HV.out] at e2 hrb
  have cb : w1.cell? ⟨g, k / 8, none⟩ = some (.int .u8 (nd.xs[k / 8].toNat : Int)) := by
    obtain ⟨A', c', e, _, hc⟩ := hrb
    injection e with e1 _ _
    have := hc _ e1.symm (k / 8) hk
    rwa [add_plain] at this
  have fb : w1.frozen? ⟨g, k / 8, none⟩ = false := by
    rcases hN.2.own.2 with ⟨h1, _⟩ | ⟨g', cap, cur, h1, _, h3, _⟩
    · rw [HV.out] at h1; cases h1
    · rw [HV.out] at h1
      injection h1 with h1 _ _
      injection h1 with h1
      injection h1 with h1
      subst h1
      exact frozen_of h3 _
  have hnx : nx (nd :: L2) = some ⟨nd.b, 0, none⟩ := rfl
  rw [hnx] at hq
  have HB := Lib.hid hb1
  clear hb1
  have ik : (k : Int) ≤ 8000008 := by omega
  have i0 : (0 : Int) ≤ (k : Int) / 8 := by omega
  have i1 : (k : Int) / 8 < (nd.xs.length : Int) := by omega
  have i2 : decide ((nd.xs.length : Int) ≤ (k : Int) / 8) = false := by simp; omega
  go_wp2
  go_region
  all_goals
    go_wp2
    go_ret
    have hb := HB.out
    have hgm : g ∈ blocks bn bm (L1 ++ nd :: L2) := by
      rw [blocks_eq, nodeBlocks_append, nodeBlocks_cons, HV.out]; simp [Value.ownBlock]
    have hnet := net_turn h2 g k (by rw [HV.out]; rfl) hk
    rw [← turn_val nd.xs k hk] at hnet
    refine ⟨rfl, ⟨hnet, (((Upd.of_below hb).setCell (p := ⟨g, k / 8, none⟩) (.inl hgm) _).drew), fun x hx => .inl ?_⟩⟩
    rw [blocks_eq, nodeBlocks_append, nodeBlocks_cons] at hx ⊢
    exact hx
end Go.Proofs.Ytddndmhjkjanlaa
