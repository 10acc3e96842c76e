/- The net's last: a datagram is laid behind all others. Conditions: the net holds what its word says; at most 10^6 bytes. -/
import Derived.Test.YtddndmhjkjanlaaNe
namespace Go.Proofs.Ytddndmhjkjanlaa
open Go.RowKit Go.Shelf

/-- The place behind a list that begins behind q. -/
def endp (q : Nat × Nat) (R : List Nd) : Nat × Nat := match R.getLast? with
  | none => q
  | some nd => (nd.b, 0)
theorem endp_cons (q : Nat × Nat) (nd : Nd) (R : List Nd) : endp q (nd :: R) = endp (nd.b, 0) R := by
  cases R with
  | nil => rfl
  | cons a r => simp [endp, List.getLast?_cons]
theorem endp_place (bn : Nat) (L : List Nd) : endp (bn, 1) L = place bn L := rfl
theorem place_in (bn : Nat) (L : List Nd) : (place bn L).1 ∈ bn :: nodeBlocks L := by
  rcases List.eq_nil_or_concat L with rfl | ⟨L0, nd, rfl⟩
  · simp [place]
  · rw [List.concat_eq_append, place_snoc]; simp [nodeBlocks]

set_option maxRecDepth 100000 in
set_option maxHeartbeats 1000000 in
theorem last_any (bn bm : Nat) (L : List Nd) (K : List (Int × Int)) (lost f t : Int) (v : Value) (xs : List UInt8) (w : World) (hN : NetAt w bn bm L K lost) (hv : RB w v xs) (hl : xs.length ≤ 1000000) (hL : L.length ≤ 1000000) :
    Calls Try.prog 34 #[.pointer (some ⟨bn, 0, none⟩), .agg #[.int .i64 f, .int .i64 t, v]] w fun e w' => e = .returned (.tuple #[]) ∧
      ∃ nd : Nd, nd.f = f ∧ nd.t = t ∧ nd.xs = xs ∧ NetAt w' bn bm (L ++ [nd]) K lost ∧ Upd (· ∈ blocks bn bm L) w w' ∧ (∀ k ∈ nodeBlocks [nd], w.heap.size ≤ k) := by
  have hP := hN.pchain
  have hlt := hN.lt
  have hpl := endp_place bn L
  have hP' := hP.below ((Below.refl _ w).alloc (Nat.le_refl _) (.cells #[.int .i64 f, .int .i64 t, v] 28))
  have HP := Lib.hid hP'
  have HPL := Lib.hid hpl
  clear hP hP' hpl
  go_enter Try.func34, Try.ntmps34
  go_wp2
  go_loop [4] (fun p => ∃ (q : Nat × Nat) (R : List Nd), p = .pointer (some ⟨q.1, q.2, none⟩) ∧ endp q R = place bn L ∧ PChain (w.alloc (.cells #[.int .i64 f, .int .i64 t, v] 28)) w.heap.size q (R.map (·.b)))
    (fun p => pleft w.heap.size (w.alloc (.cells #[.int .i64 f, .int .i64 t, v] 28)) p)
  case atStart => exact ⟨(bn, 1), L, rfl, HPL.out, HP.out⟩
  case round =>
    obtain ⟨⟨q1, q2⟩, R, rfl, he, hc⟩ := hrel
    cases R with
    | cons nd R =>
      have hc' := hc
      obtain ⟨hq, hcell, hr⟩ := hc
      rw [endp_cons] at he
      have HE := Lib.hid he; clear he
      dsimp only at hcell
      go_wp2
      go_round
      case rel => exact ⟨(nd.b, 0), R, rfl, HE.out, hr⟩
      case measure => rw [pleft_eq (p := (nd.b, 0)) hr, pleft_eq (p := (q1, q2)) hc']; simp
    | nil =>
      obtain ⟨hq, hcell⟩ := hc
      have he' : (q1, q2) = place bn L := he
      have hin := place_in bn L
      rw [← he'] at hin
      have hq' : q1 < w.heap.size := hq
      have hbn : bn < w.heap.size := hlt bn (by simp [blocks])
      have hd : ¬ (q1 = bn ∧ q2 + 3 = 5) := by
        rintro ⟨h1, h2⟩
        have h3 := hN.apart
        rcases List.eq_nil_or_concat L with rfl | ⟨L0, nd, rfl⟩
        · rw [place_nil] at he'; injection he' with _ e; omega
        · rw [List.concat_eq_append, place_snoc] at he'; injection he' with _ e; omega
      have HE := Lib.hid he'; clear he he'
      dsimp only at hcell
      have hv2 := hv.alloc (.cells #[.int .i64 f, .int .i64 t, v] 28)
      have hblk := heap_alloc_new w (.cells #[.int .i64 f, .int .i64 t, v] 28)
      have hhead : (w.alloc (.cells #[.int .i64 f, .int .i64 t, v] 28)).heap[bn]? = some (.cells (headCells (nx L) (L.length : Int) bm lost) 61 (0, 0)) := (Below.heap_alloc _ _ _ hbn).trans hN.head
      have hfq : (w.alloc (.cells #[.int .i64 f, .int .i64 t, v] 28)).frozen? ⟨q1, q2 + 3, none⟩ = false := by
        have hh := Below.heap_alloc w (.cells #[.int .i64 f, .int .i64 t, v] 28) q1 hq'
        refine (World.frozen?_of_block (w := w) hh).trans ?_
        have h2 := place_frozen (L2 := []) (by rw [List.append_nil]; exact hN) (q2 + 3)
        rw [← HE.out] at h2
        exact h2
      have HB := Lib.hid hblk
      have HH := Lib.hid hhead
      clear hblk hhead
      go_wp2_with fail
      refine (clone_all v xs _ hv2 hl).mono ?_
      rintro e w1 ⟨A1, cap1, rfl, hown1, hb1⟩
      have k0 := (hb1.block w.heap.size (by simp)).trans HB.out
      have kn := (hb1.block bn (by simp; omega)).trans HH.out
      have c0 : w1.cell? ⟨w.heap.size, 0, none⟩ = some (.int .i64 f) := cell_of k0 0 rfl
      have c1 : w1.cell? ⟨w.heap.size, 1, none⟩ = some (.int .i64 t) := cell_of k0 1 rfl
      have c2 : w1.cell? ⟨w.heap.size, 2, none⟩ = some v := cell_of k0 2 rfl
      have f2 := frozen_of k0 2
      have c5 : w1.cell? ⟨bn, 5, none⟩ = some (.int .i64 (L.length : Int)) := cell_of kn 5 rfl
      have f5 := frozen_of kn 5
      have cq : w1.cell? ⟨q1, q2 + 3, none⟩ = some (.pointer none) := (hb1.cell (p := ⟨q1, q2 + 3, none⟩) (by simp; omega)).trans hcell
      have fq : w1.frozen? ⟨q1, q2 + 3, none⟩ = false := (hb1.frozen (p := ⟨q1, q2 + 3, none⟩) (by simp; omega)).trans hfq
      have n1 : ¬ q1 = w.heap.size := by omega
      have n2 : ¬ bn = w.heap.size := by omega
      have n3 : ¬ w.heap.size = q1 := by omega
      have n4 : ¬ w.heap.size = bn := by omega
      have hsz : w.heap.size < w1.heap.size := by have := hb1.size; simp at this; omega
      have b1 : bn < w1.heap.size := by omega
      have b2 : q1 < w1.heap.size := by omega
      have cn2 : ∀ (W : World) (u : Value), (W.setCell ⟨q1, q2 + 3, none⟩ u).cell? ⟨bn, 5, none⟩ = W.cell? ⟨bn, 5, none⟩ := fun W u => World.cell?_setCell_other _ _ _ _ (by intro e; injection e with e1 e2; exact hd ⟨e1, e2⟩)
      clear k0 kn hv hv2 hcell hfq hd
      have HO := Lib.hid hown1; have HB1 := Lib.hid hb1; clear hown1 hb1
      go_wp2
      go_end0
      have hb := HB1.out
      have hu0 : Upd (fun _ => False) w (w.alloc (.cells #[.int .i64 f, .int .i64 t, v] 28)) := (Upd.refl _ _).alloc _
      have hu1 : Upd (fun _ => False) w (w1.setCell ⟨w.heap.size, 2, none⟩ (.slice A1 xs.length cap1)) :=
        (hu0.trans ((Upd.of_below hb).mono (fun _ _ h => h))).setCell (.inr (Nat.le_refl _)) _
      have hpush := net_push (f := f) (t := t) (q := (q1, q2)) hN hu1 ((HO.out.mono (by simp)).kept (fun k hk => heap_far _ _ _ (by have := (HO.out.block k hk).1; simp at this; omega))) HE.out
      rw [size_setCell] at hpush
      exact ⟨rfl, ⟨_, f, t, _, xs⟩, rfl, rfl, rfl, hpush⟩
end Go.Proofs.Ytddndmhjkjanlaa
