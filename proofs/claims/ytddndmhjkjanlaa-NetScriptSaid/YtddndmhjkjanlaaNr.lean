/- The net as a value: what each call makes of it, one contract a call. Conditions: the net holds what its word says; at most 2000 datagrams of at most 1500 bytes each, at most 10^6 losses. -/
import Derived.Test.YtddndmhjkjanlaaNq
namespace Go.Proofs.Ytddndmhjkjanlaa
open Go.RowKit Go.Shelf

structure St where
  l : List Dg
  K : List (Int × Int)
  lost : Int
deriving DecidableEq
structure St.Ok (M : St) : Prop where
  len : M.l.length ≤ 2000
  each : ∀ d ∈ M.l, d.2.2.length ≤ 1500
  low : 0 ≤ M.lost
  high : M.lost ≤ 1000000

def St.new : St := ⟨[], [], 0⟩
/-- Is there one at i? -/
def St.at? (M : St) (i : Int) : Option Nat := if i < 0 ∨ (M.l.length : Int) ≤ i then none else some i.toNat
def St.send (M : St) (d : Dg) : Int × St :=
  if (endB d.1 && endB d.2.1) = false then (2, M) else if 1500 < d.2.2.length then (3, M) else if Ytddndmhjkjanlaa.mk d.1 d.2.1 ∈ M.K then (0, { M with lost := M.lost + 1 })
  else if 2000 ≤ M.l.length then (8, M) else (0, { M with l := M.l ++ [d] })
def zD : Dg := (0, 0, [])
def St.take (M : St) (i : Int) : (Dg × Int) × St := match M.at? i with
  | none => ((zD, 6), M)
  | some k => ((M.l.getD k zD, 0), { M with l := M.l.eraseIdx k })
def St.drop (M : St) (i : Int) : Int × St := match M.at? i with
  | none => (6, M)
  | some k => (0, { M with l := M.l.eraseIdx k, lost := M.lost + 1 })
def St.copy (M : St) (i : Int) : Int × St := match M.at? i with
  | none => (6, M)
  | some k => if 2000 ≤ M.l.length then (8, M) else (0, { M with l := M.l ++ [M.l.getD k zD] })
def St.turn (M : St) (i bit : Int) : Int × St := match M.at? i with
  | none => (6, M)
  | some k => if bit < 0 ∨ ((M.l.getD k zD).2.2.length : Int) ≤ bit / 8 then (5, M) else (0, { M with l := M.l.set k ((M.l.getD k zD).1, (M.l.getD k zD).2.1, turnB (M.l.getD k zD).2.2 bit.toNat) })
def St.swap (M : St) (i k : Int) : Int × St := match M.at? i, M.at? k with
  | some a, some b => (0, { M with l := (M.l.set a (M.l.getD b zD)).set b (M.l.getD a zD) })
  | _, _ => (6, M)
def St.cut (M : St) (a b : Int) (is : Bool) : Int × St :=
  if (endB a && endB b) = false then (2, M) else (0, { M with K := M.K.filter (· != Ytddndmhjkjanlaa.mk a b) ++ (if is then [Ytddndmhjkjanlaa.mk a b] else []) })

theorem St.at?_none {M : St} {i : Int} (h : M.at? i = none) : i < 0 ∨ (M.l.length : Int) ≤ i := by
  unfold St.at? at h; split at h <;> simp_all
theorem St.at?_some {M : St} {i : Int} {k : Nat} (h : M.at? i = some k) : i = (k : Int) ∧ k < M.l.length := by
  unfold St.at? at h; split at h
  · cases h
  · injection h with h; omega

/-- The blocks from base up that are none of Kp. -/
def Far (base : Nat) (Kp : List Nat) (k : Nat) : Prop := base ≤ k ∧ k ∉ Kp
/-- A net at bn holds M; its blocks are from base up, and none of Kp. -/
structure NS (w : World) (bn : Nat) (M : St) (base : Nat) (Kp : List Nat) : Prop where
  ok : M.Ok
  lt : ∀ k ∈ Kp, k < w.heap.size
  bound : base ≤ w.heap.size
  net : ∃ bm L, L.map vw = M.l ∧ NetAt w bn bm L M.K M.lost ∧ ∀ k ∈ blocks bn bm L, Far base Kp k

theorem Upd.grow {S : Nat → Prop} {a b c : World} (h : Upd S a b) (k : Upd S b c) : Upd S a c := h.trans (k.mono (fun _ _ h => .inl h))
theorem NS.upd {w w' : World} {bn : Nat} {M : St} {base : Nat} {Kp : List Nat} (h : NS w bn M base Kp) {S : Nat → Prop} (hu : Upd S w w') (hs : ∀ k, Far base Kp k → k < w.heap.size → ¬ S k) : NS w' bn M base Kp := by
  obtain ⟨bm, L, h1, h2, h3⟩ := h.net
  exact ⟨h.ok, fun k hk => Nat.lt_of_lt_of_le (h.lt k hk) hu.size, Nat.le_trans h.bound hu.size, bm, L, h1, h2.upd hu (fun k hk => hs k (h3 k hk) (h2.lt k hk)), h3⟩
theorem NS.below {w w' : World} {bn : Nat} {M : St} {base : Nat} {Kp : List Nat} (h : NS w bn M base Kp) (hb : Below w.heap.size w w') : NS w' bn M base Kp :=
  h.upd (S := fun _ => False) (Upd.of_below hb) (fun _ _ _ h => h)
theorem NS.less {w : World} {bn : Nat} {M : St} {base : Nat} {Kp Kp' : List Nat} (h : NS w bn M base Kp) (hk : ∀ k ∈ Kp', k ∈ Kp) : NS w bn M base Kp' := by
  obtain ⟨bm, L, h1, h2, h3⟩ := h.net
  exact ⟨h.ok, fun k hk' => h.lt k (hk k hk'), h.bound, bm, L, h1, h2, fun k hk' => ⟨(h3 k hk').1, fun e => (h3 k hk').2 (hk k e)⟩⟩
/-- What came later than the net is none of its blocks. -/
theorem NS.more {w w' : World} {bn : Nat} {M : St} {base : Nat} {Kp : List Nat} (h : NS w bn M base Kp) (hb : Below w.heap.size w w') (ks : List Nat) (hk : ∀ k ∈ ks, w.heap.size ≤ k ∧ k < w'.heap.size) : NS w' bn M base (ks ++ Kp) := by
  obtain ⟨bm, L, h1, h2, h3⟩ := h.net
  refine ⟨h.ok, fun k hk' => ?_, Nat.le_trans h.bound hb.size, bm, L, h1, h2.upd (S := fun _ => False) (Upd.of_below hb) (fun _ _ h => h), fun k hk' => ⟨(h3 k hk').1, fun e => ?_⟩⟩
  · rcases List.mem_append.1 hk' with e | e
    · exact (hk k e).2
    · exact Nat.lt_of_lt_of_le (h.lt k e) hb.size
  · rcases List.mem_append.1 e with e | e
    · have := h2.lt k hk'; have := (hk k e).1; omega
    · exact (h3 k hk').2 e

theorem OB.base {w : World} {base base' : Nat} {v : Value} {xs : List UInt8} (h : OB w base v xs) (hb : ∀ k, v.ownBlock = some k → base' ≤ k) : OB w base' v xs := by
  refine ⟨⟨h.own.1, ?_⟩, h.typ⟩
  rcases h.own.2 with e | ⟨g, cap, cur, hv, h0, r⟩
  · exact .inl e
  · exact .inr ⟨g, cap, cur, hv, hb g (by rw [hv]; rfl), r⟩
variable {w : World} {bn base : Nat} {M : St} {Kp : List Nat}

theorem NS.step (h : NS w bn M base Kp) {w' : World} {bm : Nat} {L L' : List Nd} {K' : List (Int × Int)} {lost' : Int} (hs : Step w w' bn bm L L' K' lost') (h3 : ∀ k ∈ blocks bn bm L, Far base Kp k) {M' : St} (hM : M'.Ok) (h1 : L'.map vw = M'.l) (h2 : K' = M'.K) (h4 : lost' = M'.lost) :
    NS w' bn M' base Kp ∧ Upd (Far base Kp) w w' := by
  subst h2 h4
  refine ⟨⟨hM, fun k hk => Nat.lt_of_lt_of_le (h.lt k hk) hs.upd.size, Nat.le_trans h.bound hs.upd.size, bm, L', h1, hs.net, fun k hk => ?_⟩, hs.upd.mono (fun k _ hk => h3 k hk)⟩
  rcases hs.sub k hk with e | e
  · exact h3 k e
  · exact ⟨Nat.le_trans h.bound e, fun e' => by have := h.lt k e'; omega⟩

theorem split_at {α : Type} (L : List α) (i : Nat) (h : i < L.length) : ∃ L1 x L2, L = L1 ++ x :: L2 ∧ L1.length = i :=
  ⟨L.take i, L[i], L.drop (i + 1), by rw [List.getElem_cons_drop]; simp, by simp; omega⟩

theorem NS.send (h : NS w bn M base Kp) (d : Dg) (v : Value) (hv : RB w v d.2.2) (hl : M.lost < 1000000) :
    Calls Try.prog 11 #[.pointer (some ⟨bn, 0, none⟩), .agg #[.int .i64 d.1, .int .i64 d.2.1, v]] w fun e w' => e = .returned (.int .i64 (M.send d).1) ∧ NS w' bn (M.send d).2 base Kp ∧ Upd (Far base Kp) w w' := by
  obtain ⟨f, t, xs⟩ := d
  obtain ⟨bm, L, h1, h2, h3⟩ := h.net
  have hok := h.ok
  have hL : L.length = M.l.length := by rw [← h1]; simp
  dsimp only [] at hv ⊢
  unfold St.send
  dsimp only []
  by_cases h12 : (endB f && endB t) = false
  · rw [if_pos h12]
    rcases hf : endB f with _ | _
    · exact (send_arg1 h2 f t v hf).mono fun e w' ⟨e1, hs⟩ => ⟨e1, h.step hs h3 hok h1 rfl rfl⟩
    · have ht : endB t = false := by simpa [hf] using h12
      exact (send_arg2 h2 f t v hf ht).mono fun e w' ⟨e1, hs⟩ => ⟨e1, h.step hs h3 hok h1 rfl rfl⟩
  rw [if_neg h12]
  have hf : endB f = true := by rcases h0 : endB f <;> simp_all
  have ht : endB t = true := by rcases h0 : endB t <;> simp_all
  obtain ⟨A, c, rfl, _, _⟩ := id hv
  by_cases hn : 1500 < xs.length
  · rw [if_pos hn]
    exact (send_long h2 f t A _ c hf ht hn).mono fun e w' ⟨e1, hs⟩ => ⟨e1, h.step hs h3 hok h1 rfl rfl⟩
  rw [if_neg hn]
  by_cases hk : Ytddndmhjkjanlaa.mk f t ∈ M.K
  · rw [if_pos hk]
    exact (send_cut h2 f t A _ c hf ht (by omega) hk hok.low (by omega)).mono fun e w' ⟨e1, hs⟩ => ⟨e1, h.step hs h3 ⟨hok.len, hok.each, by have := hok.low; dsimp only []; omega, by dsimp only []; omega⟩ h1 rfl rfl⟩
  rw [if_neg hk]
  by_cases hL2 : 2000 ≤ M.l.length
  · rw [if_pos hL2]
    exact (send_full h2 f t A _ c hf ht (by omega) hk (by omega)).mono fun e w' ⟨e1, hs⟩ => ⟨e1, h.step hs h3 hok h1 rfl rfl⟩
  rw [if_neg hL2]
  refine (send_goes h2 f t _ xs hv hf ht (by omega) hk (by omega)).mono ?_
  rintro e w' ⟨e1, nd, hnd, hs⟩
  refine ⟨e1, h.step hs h3 ⟨by simp; omega, fun d hd => ?_, hok.low, hok.high⟩ (by simp [h1, hnd]) rfl rfl⟩
  rcases List.mem_append.1 hd with hd | hd
  · exact hok.each d hd
  · simp only [List.mem_singleton] at hd
    subst hd
    dsimp only []
    omega

theorem NS.splits {L : List Nd} (h1 : L.map vw = M.l) {i : Int} {k : Nat} (hk : M.at? i = some k) : ∃ L1 nd L2, L = L1 ++ nd :: L2 ∧ L1.length = k ∧ i = (k : Int) ∧ M.l = L1.map vw ++ vw nd :: L2.map vw ∧ M.l.getD k zD = vw nd ∧ M.l.eraseIdx k = (L1 ++ L2).map vw := by
  obtain ⟨rfl, hlt⟩ := St.at?_some hk
  have hL : L.length = M.l.length := by rw [← h1]; simp
  obtain ⟨L1, nd, L2, rfl, hl⟩ := split_at L k (by omega)
  have e : M.l = L1.map vw ++ vw nd :: L2.map vw := by rw [← h1]; simp
  refine ⟨L1, nd, L2, rfl, hl, rfl, e, ?_, ?_⟩
  · rw [e, List.getD_eq_getElem?_getD, List.getElem?_append_right (by simp [hl])]
    simp [hl]
  · rw [e, List.eraseIdx_append_of_length_le (by simp [hl])]
    simp [hl]

theorem NS.take (h : NS w bn M base Kp) (i : Int) :
    Calls Try.prog 24 #[.pointer (some ⟨bn, 0, none⟩), .int .i64 i] w fun e w' => ∃ A c, e = .returned (.tuple #[.agg #[.int .i64 (M.take i).1.1.1, .int .i64 (M.take i).1.1.2.1, .slice A (M.take i).1.1.2.2.length c], .int .i64 (M.take i).1.2]) ∧
      OB w' base (.slice A (M.take i).1.1.2.2.length c) (M.take i).1.1.2.2 ∧ NS w' bn (M.take i).2 base ((Value.slice A (M.take i).1.1.2.2.length c).ownBlock.toList ++ Kp) ∧ Upd (Far base Kp) w w' := by
  obtain ⟨bm, L, h1, h2, h3⟩ := h.net
  have hok := h.ok
  have hL : L.length = M.l.length := by rw [← h1]; simp
  unfold St.take
  rcases hk : M.at? i with _ | k
  · dsimp only []
    refine (take_no h2 i (by rw [hL]; exact St.at?_none hk)).mono ?_
    rintro e w' ⟨e1, hs⟩
    exact ⟨none, 0, e1, OB.nil _ _, h.step hs h3 hok h1 rfl rfl⟩
  · obtain ⟨L1, nd, L2, rfl, hl, rfl, he, hg, hx⟩ := NS.splits h1 hk
    dsimp only []
    rw [hg, ← hl]
    refine (take_yes h2 (by have := hok.len; omega)).mono ?_
    rintro e w' ⟨e1, hs, ho⟩
    obtain ⟨A, c, hv⟩ := ho.form
    have hin : ∀ k ∈ nd.v.ownBlock.toList, k ∈ blocks bn bm (L1 ++ nd :: L2) := fun k hk => by
      simp only [blocks, List.mem_cons, List.flatMap_append, List.flatMap_cons, List.mem_append]
      exact .inr (.inr (.inr (.inl (.inr hk))))
    have hns := h.step (M' := { M with l := M.l.eraseIdx L1.length }) hs h3 ⟨by have := hok.len; simp [List.length_eraseIdx]; split <;> omega, fun d hd => hok.each d (List.mem_of_mem_eraseIdx hd), hok.low, hok.high⟩ (by rw [hl, hx]) rfl rfl
    obtain ⟨bm', L', g1, g2, g3⟩ := hns.1.net
    have hap : ∀ k ∈ nd.v.ownBlock.toList, k ∉ blocks bn bm (L1 ++ L2) := fun k hk hk2 => by
      have hnd := h2.apart
      simp only [blocks, List.flatMap_append, List.flatMap_cons, List.mem_cons, List.mem_append] at hnd hk2
      simp only [List.nodup_cons, List.nodup_append, List.mem_cons, List.mem_append] at hnd
      obtain ⟨n1, n2, n3, ⟨n4, n5, n6⟩, n7⟩ := hnd
      rcases hk2 with rfl | rfl | e | e
      · exact n1 (.inr (.inr (.inl (.inr hk))))
      · exact n2 (.inr (.inl (.inr hk)))
      · exact n7 k e k (.inl (.inr hk)) rfl
      · exact n6 k (.inr hk) k e rfl
    refine ⟨A, c, by rw [e1, hv]; rfl, ?_, ?_, hns.2⟩
    · have hv' : Value.slice A (vw nd).2.2.length c = nd.v := hv.symm
      rw [hv']
      exact ho.base (fun k hk => (h3 k (hin k (by simp [hk]))).1)
    · have hv' : Value.slice A (vw nd).2.2.length c = nd.v := hv.symm
      rw [hv']
      refine ⟨hns.1.ok, fun k hk => ?_, hns.1.bound, bm, L1 ++ L2, by rw [hl, hx], hs.net, fun k hk => ?_⟩
      · rcases List.mem_append.1 hk with hk | hk
        · exact Nat.lt_of_lt_of_le (h2.lt k (hin k hk)) hs.upd.size
        · exact hns.1.lt k hk
      · have hfar : Far base Kp k := by
          rcases hs.sub k hk with e | e
          · exact h3 k e
          · exact ⟨Nat.le_trans h.bound e, fun e' => by have := h.lt k e'; omega⟩
        refine ⟨hfar.1, fun e => ?_⟩
        rcases List.mem_append.1 e with e | e
        · exact hap k e hk
        · exact hfar.2 e

theorem erase_ok (hok : M.Ok) (k : Nat) : (M.l.eraseIdx k).length ≤ 2000 ∧ ∀ d ∈ M.l.eraseIdx k, d.2.2.length ≤ 1500 :=
  ⟨by have := hok.len; simp [List.length_eraseIdx]; split <;> omega, fun d hd => hok.each d (List.mem_of_mem_eraseIdx hd)⟩

theorem NS.drop (h : NS w bn M base Kp) (i : Int) (hl : M.lost < 1000000) :
    Calls Try.prog 23 #[.pointer (some ⟨bn, 0, none⟩), .int .i64 i] w fun e w' => e = .returned (.int .i64 (M.drop i).1) ∧ NS w' bn (M.drop i).2 base Kp ∧ Upd (Far base Kp) w w' := by
  obtain ⟨bm, L, h1, h2, h3⟩ := h.net
  have hok := h.ok
  have hL : L.length = M.l.length := by rw [← h1]; simp
  unfold St.drop
  rcases hk : M.at? i with _ | k
  · dsimp only []
    exact (drop_no h2 i (by rw [hL]; exact St.at?_none hk)).mono fun e w' ⟨e1, hs⟩ => ⟨e1, h.step hs h3 hok h1 rfl rfl⟩
  · obtain ⟨L1, nd, L2, rfl, hl, rfl, he, hg, hx⟩ := NS.splits h1 hk
    dsimp only []
    rw [← hl]
    have ho := erase_ok hok L1.length
    refine (drop_yes h2 (by have := hok.len; omega) hok.low (by omega)).mono ?_
    rintro e w' ⟨e1, hs⟩
    exact ⟨e1, h.step (M' := { M with l := M.l.eraseIdx L1.length, lost := M.lost + 1 }) hs h3 ⟨ho.1, ho.2, by have := hok.low; dsimp only []; omega, by dsimp only []; omega⟩ (by rw [hl, hx]) rfl rfl⟩

theorem NS.copy (h : NS w bn M base Kp) (i : Int) :
    Calls Try.prog 29 #[.pointer (some ⟨bn, 0, none⟩), .int .i64 i] w fun e w' => e = .returned (.int .i64 (M.copy i).1) ∧ NS w' bn (M.copy i).2 base Kp ∧ Upd (Far base Kp) w w' := by
  obtain ⟨bm, L, h1, h2, h3⟩ := h.net
  have hok := h.ok
  have hL : L.length = M.l.length := by rw [← h1]; simp
  unfold St.copy
  rcases hk : M.at? i with _ | k
  · dsimp only []
    exact (copy_no h2 i (by rw [hL]; exact St.at?_none hk)).mono fun e w' ⟨e1, hs⟩ => ⟨e1, h.step hs h3 hok h1 rfl rfl⟩
  · obtain ⟨L1, nd, L2, rfl, hl, rfl, he, hg, hx⟩ := NS.splits h1 hk
    dsimp only []
    by_cases hf : 2000 ≤ M.l.length
    · rw [if_pos hf]
      exact (copy_full h2 k (by rw [← hl]; simp) (by have := hok.len; omega) (by omega)).mono fun e w' ⟨e1, hs⟩ => ⟨e1, h.step hs h3 hok h1 rfl rfl⟩
    · rw [if_neg hf, hg, ← hl]
      have hnd : (vw nd).2.2.length ≤ 1500 := hok.each (vw nd) (by rw [he]; simp)
      refine (copy_yes h2 (by omega) (by simp only [vw] at hnd; omega)).mono ?_
      rintro e w' ⟨e1, nd', hv, hs⟩
      refine ⟨e1, h.step (M' := { M with l := M.l ++ [vw nd] }) hs h3 ⟨by simp; omega, fun d hd => ?_, hok.low, hok.high⟩ (by simp [he, hv]) rfl rfl⟩
      rcases List.mem_append.1 hd with hd | hd
      · exact hok.each d hd
      · simp only [List.mem_singleton] at hd
        subst hd
        exact hnd

theorem NS.turn (h : NS w bn M base Kp) (i bit : Int) (hb : bit ≤ 9223372036854775807) :
    Calls Try.prog 17 #[.pointer (some ⟨bn, 0, none⟩), .int .i64 i, .int .i64 bit] w fun e w' => e = .returned (.int .i64 (M.turn i bit).1) ∧ NS w' bn (M.turn i bit).2 base Kp ∧ Upd (Far base Kp) w w' := by
  obtain ⟨bm, L, h1, h2, h3⟩ := h.net
  have hok := h.ok
  have hL : L.length = M.l.length := by rw [← h1]; simp
  unfold St.turn
  rcases hk : M.at? i with _ | k
  · dsimp only []
    exact (turn_no h2 i bit (by rw [hL]; exact St.at?_none hk)).mono fun e w' ⟨e1, hs⟩ => ⟨e1, h.step hs h3 hok h1 rfl rfl⟩
  · obtain ⟨L1, nd, L2, rfl, hl, rfl, he, hg, hx⟩ := NS.splits h1 hk
    dsimp only []
    rw [hg, ← hl]
    have hnd : (vw nd).2.2.length ≤ 1500 := hok.each (vw nd) (by rw [he]; simp)
    have hln := hok.len
    have hxs : (vw nd).2.2.length = nd.xs.length := rfl
    by_cases hneg : bit < 0
    · rw [if_pos (show bit < 0 ∨ ((vw nd).2.2.length : Int) ≤ bit / 8 from .inl hneg)]
      exact (turn_neg h2 (by omega) bit hneg).mono fun e w' ⟨e1, hs⟩ => ⟨e1, h.step hs h3 hok h1 rfl rfl⟩
    by_cases hov : ((vw nd).2.2.length : Int) ≤ bit / 8
    · rw [if_pos (show bit < 0 ∨ ((vw nd).2.2.length : Int) ≤ bit / 8 from .inr hov)]
      exact (turn_over h2 (by omega) bit (by omega) hb (by rwa [hxs] at hov)).mono fun e w' ⟨e1, hs⟩ => ⟨e1, h.step hs h3 hok h1 rfl rfl⟩
    · rw [if_neg (show ¬ (bit < 0 ∨ ((vw nd).2.2.length : Int) ≤ bit / 8) by omega)]
      obtain ⟨m, rfl⟩ : ∃ m : Nat, bit = (m : Int) := ⟨bit.toNat, by omega⟩
      refine (turn_yes h2 (by omega) m (by omega) (by omega)).mono ?_
      rintro e w' ⟨e1, hs⟩
      refine ⟨e1, h.step (M' := { M with l := M.l.set L1.length ((vw nd).1, (vw nd).2.1, turnB (vw nd).2.2 (m : Int).toNat) }) hs h3 ⟨by simp; omega, fun d hd => ?_, hok.low, hok.high⟩ (by simp [he, vw]) rfl rfl⟩
      rcases List.mem_or_eq_of_mem_set hd with hd | rfl
      · exact hok.each d hd
      · simpa [turnB] using hnd

theorem NS.cut (h : NS w bn M base Kp) (a b : Int) (is : Bool) :
    Calls Try.prog 18 #[.pointer (some ⟨bn, 0, none⟩), .int .i64 a, .int .i64 b, .bool is] w fun e w' => e = .returned (.int .i64 (M.cut a b is).1) ∧ NS w' bn (M.cut a b is).2 base Kp ∧ Upd (Far base Kp) w w' := by
  obtain ⟨bm, L, h1, h2, h3⟩ := h.net
  have hok := h.ok
  unfold St.cut
  by_cases he : (endB a && endB b) = false
  · rw [if_pos he]
    exact (cut_arg h2 a b is he).mono fun e w' ⟨e1, hs⟩ => ⟨e1, hs ▸ h, hs ▸ Upd.refl _ _⟩
  rw [if_neg he]
  have ha : endB a = true := by rcases h0 : endB a <;> simp_all
  have hb : endB b = true := by rcases h0 : endB b <;> simp_all
  cases is
  · exact (cut_join h2 a b ha hb).mono fun e w' ⟨e1, hs⟩ => ⟨e1, h.step (M' := { M with K := M.K.filter (· != Ytddndmhjkjanlaa.mk a b) ++ [] }) hs h3 ⟨hok.len, hok.each, hok.low, hok.high⟩ h1 (by simp) rfl⟩
  · exact (cut_cut h2 a b ha hb).mono fun e w' ⟨e1, hs⟩ => ⟨e1, h.step (M' := { M with K := M.K.filter (· != Ytddndmhjkjanlaa.mk a b) ++ [Ytddndmhjkjanlaa.mk a b] }) hs h3 ⟨hok.len, hok.each, hok.low, hok.high⟩ h1 rfl rfl⟩

theorem NS.lost (h : NS w bn M base Kp) : Calls Try.prog 20 #[.pointer (some ⟨bn, 0, none⟩)] w fun e w' => e = .returned (.int .i64 M.lost) ∧ w = w' := by
  obtain ⟨bm, L, h1, h2, h3⟩ := h.net
  exact lost_any h2
theorem NS.first (h : NS w bn M base Kp) (to : Int) : Calls Try.prog 14 #[.pointer (some ⟨bn, 0, none⟩), .int .i64 to] w fun e w' => e = .returned (.int .i64 (firstD M.l to)) ∧ Below w.heap.size w w' := by
  obtain ⟨bm, L, h1, h2, h3⟩ := h.net
  have hL : L.length = M.l.length := by rw [← h1]; simp
  have := callsIn_wide.1 (first_in h2 to (by have := h.ok.len; omega))
  rwa [h1] at this
theorem NS.waiting (h : NS w bn M base Kp) : Calls Try.prog 13 #[.pointer (some ⟨bn, 0, none⟩)] w fun e W' => ∃ A c l, e = .returned (.slice A l.length c) ∧ l.map Ed.dg = M.l ∧ DRow W' w.heap.size (.slice A l.length c) l ∧ Below w.heap.size w W' := by
  obtain ⟨bm, L, h1, h2, h3⟩ := h.net
  have hL : L.length = M.l.length := by rw [← h1]; simp
  have := callsIn_wide.1 (waiting_in h2 (by have := h.ok.len; omega) (fun nd hnd => by
    have := h.ok.each (vw nd) (by rw [← h1]; exact List.mem_map_of_mem hnd)
    simp only [vw] at this
    omega))
  rwa [h1] at this

theorem split2 {α : Type} (L : List α) (a b : Nat) (h : a < b) (hb : b < L.length) : ∃ L1 x L2 y L3, L = L1 ++ x :: (L2 ++ y :: L3) ∧ L1.length = a ∧ (L1 ++ x :: L2).length = b := by
  obtain ⟨L1, x, R, rfl, h1⟩ := split_at L a (by omega)
  simp at hb
  obtain ⟨L2, y, L3, rfl, h2⟩ := split_at R (b - a - 1) (by omega)
  exact ⟨L1, x, L2, y, L3, rfl, h1, by simp; omega⟩
theorem swap_view (L1 L2 L3 : List Nd) (x y : Nd) (h1 : (L1 ++ x :: (L2 ++ y :: L3)).map vw = M.l) :
    M.l.getD L1.length zD = vw x ∧ M.l.getD (L1 ++ x :: L2).length zD = vw y ∧ (M.l.set L1.length (vw y)).set (L1 ++ x :: L2).length (vw x) = (L1 ++ re x y :: (L2 ++ re y x :: L3)).map vw ∧ (M.l.set (L1 ++ x :: L2).length (vw x)).set L1.length (vw y) = (L1 ++ re x y :: (L2 ++ re y x :: L3)).map vw := by
  have e : M.l = L1.map vw ++ (vw x :: (L2.map vw ++ vw y :: L3.map vw)) := by rw [← h1]; simp
  have e' : M.l = (L1 ++ x :: L2).map vw ++ vw y :: L3.map vw := by rw [← h1]; simp
  have hx : vw (re x y) = vw y := rfl
  have hy : vw (re y x) = vw x := rfl
  refine ⟨?_, ?_, ?_, ?_⟩
  · rw [e, List.getD_eq_getElem?_getD, List.getElem?_append_right (by simp)]; simp
  · rw [e', List.getD_eq_getElem?_getD, List.getElem?_append_right (by simp)]; simp
  · rw [e]
    have : (L1.map vw ++ (vw x :: (L2.map vw ++ vw y :: L3.map vw))).set L1.length (vw y) = (L1.map vw ++ vw y :: L2.map vw) ++ vw y :: L3.map vw := by
      rw [List.set_append_right _ _ (by simp)]; simp
    rw [this, List.set_append_right _ _ (by simp)]
    simp [hx, hy]
  · rw [e']
    have : ((L1 ++ x :: L2).map vw ++ vw y :: L3.map vw).set (L1 ++ x :: L2).length (vw x) = L1.map vw ++ (vw x :: (L2.map vw ++ vw x :: L3.map vw)) := by
      rw [List.set_append_right _ _ (by simp)]; simp
    rw [this, List.set_append_right _ _ (by simp)]
    simp [hx, hy]
theorem swap_ok (hok : M.Ok) (a b : Nat) (ha : a < M.l.length) (hb : b < M.l.length) : ({ M with l := (M.l.set a (M.l.getD b zD)).set b (M.l.getD a zD) } : St).Ok := by
  have g : ∀ k, k < M.l.length → (M.l.getD k zD).2.2.length ≤ 1500 := fun k hk => hok.each _ (by rw [List.getD_eq_getElem?_getD, List.getElem?_eq_getElem hk]; simp)
  refine ⟨by simpa using hok.len, fun d hd => ?_, hok.low, hok.high⟩
  rcases List.mem_or_eq_of_mem_set hd with hd | rfl
  · rcases List.mem_or_eq_of_mem_set hd with hd | rfl
    · exact hok.each d hd
    · exact g b hb
  · exact g a ha

theorem NS.swap (h : NS w bn M base Kp) (i k : Int) :
    Calls Try.prog 16 #[.pointer (some ⟨bn, 0, none⟩), .int .i64 i, .int .i64 k] w fun e w' => e = .returned (.int .i64 (M.swap i k).1) ∧ NS w' bn (M.swap i k).2 base Kp ∧ Upd (Far base Kp) w w' := by
  obtain ⟨bm, L, h1, h2, h3⟩ := h.net
  have hok := h.ok
  have hln := hok.len
  have hL : L.length = M.l.length := by rw [← h1]; simp
  unfold St.swap
  rcases hi : M.at? i with _ | a
  · dsimp only []
    have hi' := St.at?_none hi
    rcases hk : M.at? k with _ | b
    · exact (swap_no2 h2 i k (by omega) (by have := St.at?_none hk; omega) (by omega)).mono fun e w' ⟨e1, hs⟩ => ⟨e1, h.step hs h3 hok h1 rfl rfl⟩
    · obtain ⟨rfl, hb⟩ := St.at?_some hk
      exact (swap_no1 h2 i (by omega) b (by omega) (by omega)).mono fun e w' ⟨e1, hs⟩ => ⟨e1, h.step hs h3 hok h1 rfl rfl⟩
  obtain ⟨rfl, ha⟩ := St.at?_some hi
  rcases hk : M.at? k with _ | b
  · dsimp only []
    exact (swap_no3 h2 a k (by omega) (by have := St.at?_none hk; omega) (by omega)).mono fun e w' ⟨e1, hs⟩ => ⟨e1, h.step hs h3 hok h1 rfl rfl⟩
  obtain ⟨rfl, hb⟩ := St.at?_some hk
  dsimp only []
  have hso := swap_ok hok a b ha hb
  rcases Nat.lt_trichotomy a b with hab | hab | hab
  · obtain ⟨L1, x, L2, y, L3, rfl, hl1, hl2⟩ := split2 L a b hab (by omega)
    obtain ⟨g1, g2, g3, _⟩ := swap_view L1 L2 L3 x y h1
    rw [← hl1, ← hl2] at hso ⊢
    rw [g1, g2] at hso ⊢
    refine (swap_lt h2 (by omega)).mono ?_
    rintro e w' ⟨e1, hs⟩
    exact ⟨e1, h.step hs h3 hso g3.symm rfl rfl⟩
  · subst hab
    obtain ⟨L1, nd, L2, rfl, hl, _, he, hg, hx⟩ := NS.splits h1 hi
    rw [← hl] at hg ⊢
    rw [hg]
    refine (swap_eq h2 (by omega)).mono ?_
    rintro e w' ⟨e1, hs⟩
    have hM : ({ M with l := (M.l.set L1.length (vw nd)).set L1.length (vw nd) } : St) = M := by
      have : (M.l.set L1.length (vw nd)).set L1.length (vw nd) = M.l := by rw [he]; simp
      rw [this]
    rw [hM]
    exact ⟨e1, h.step hs h3 hok h1 rfl rfl⟩
  · obtain ⟨L1, x, L2, y, L3, rfl, hl1, hl2⟩ := split2 L b a hab (by omega)
    obtain ⟨g1, g2, _, g3⟩ := swap_view L1 L2 L3 x y h1
    rw [← hl1, ← hl2] at hso ⊢
    rw [g1, g2] at hso ⊢
    refine (swap_gt h2 (by omega)).mono ?_
    rintro e w' ⟨e1, hs⟩
    exact ⟨e1, h.step hs h3 hso g3.symm rfl rfl⟩
end Go.Proofs.Ytddndmhjkjanlaa
