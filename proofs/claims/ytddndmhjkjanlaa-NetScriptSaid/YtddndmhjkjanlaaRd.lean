/- The document's net: what a step makes of it; Take. Conditions: it holds what its word says. -/
import Derived.Test.YtddndmhjkjanlaaRc
namespace Go.Proofs.Ytddndmhjkjanlaa
open Go.RowKit Go.Shelf
variable {w : World} {r : Nat} {M : St} {Kp : List Nat}

/-- Kp, and all blocks that came between w and w'. -/
def Kmore (Kp : List Nat) (w w' : World) : List Nat := Kp ++ List.range' w.heap.size (w'.heap.size - w.heap.size)
theorem mem_kmore {w' : World} {k : Nat} : k ∈ Kmore Kp w w' ↔ k ∈ Kp ∨ (w.heap.size ≤ k ∧ k < w'.heap.size) := by
  unfold Kmore
  rw [List.mem_append, List.mem_range']
  constructor
  · rintro (h | ⟨i, h1, h2⟩)
    · exact .inl h
    · exact .inr ⟨by omega, by omega⟩
  · rintro (h | h)
    · exact .inl h
    · exact .inr ⟨k - w.heap.size, by omega, by omega⟩
/-- A step of the document's net: it holds M' now; nothing but its own blocks has changed. -/
structure RStep (w w' : World) (r : Nat) (M' : St) (Kp : List Nat) : Prop where
  net : RNet w' r M' (Kmore Kp w w')
  upd : Upd (· ∈ Kp) w w'
theorem RStep.same {w' : World} (h : RNet w r M Kp) (hb : Below w.heap.size w w') : RStep w w' r M Kp :=
  ⟨(h.below hb).more (fun _ hk => mem_kmore.2 (.inl hk)), Upd.of_below hb⟩

theorem blk_ne {w : World} {g r : Nat} {cs cs' : Array Value} {t t' : TypeId} {fr fr' : Nat × Nat} (h : w.heap[g]? = some (.cells cs t fr)) (h' : w.heap[r]? = some (.cells cs' t' fr')) (ht : t ≠ t') : g ≠ r := by
  rintro rfl
  rw [h] at h'
  injection h' with h'
  injection h' with _ h'
  exact ht h'
theorem ownsRow_typed {w : World} {base e sz n : Nat} {v : Value} {xs : List Value} (h : w.ownsRow base e sz v n xs) {g : Nat} (hg : v.ownBlock = some g) : ∃ cs, w.heap[g]? = some (.cells cs e (0, 0)) := by
  rcases h.2 with ⟨rfl, _⟩ | ⟨g', cap, cur, rfl, _, hh, _⟩
  · simp [Value.ownBlock] at hg
  · simp only [Value.ownBlock, Option.some.injEq] at hg
    subst hg
    exact ⟨cur, hh⟩
theorem ownsRow_put {w : World} {base e sz n : Nat} {v : Value} {xs : List Value} (h : w.ownsRow base e sz v n xs) {r : Nat} {cs : Array Value} {t : TypeId} {fr : Nat × Nat} (hr : w.heap[r]? = some (.cells cs t fr)) (ht : e ≠ t) (o : Nat) (u : Value) : (w.setCell ⟨r, o, none⟩ u).ownsRow base e sz v n xs :=
  ownsRow_kept h (fun g cs' t' fr' hg hh => by
    obtain ⟨cs2, h2⟩ := ownsRow_typed h hg
    exact heap_far _ _ _ (blk_ne h2 hr ht))
theorem OB.put {w : World} {base : Nat} {v : Value} {xs : List UInt8} (h : OB w base v xs) {r : Nat} {cs : Array Value} {t : TypeId} {fr : Nat × Nat} (hr : w.heap[r]? = some (.cells cs t fr)) (ht : 5 ≠ t) (o : Nat) (u : Value) : OB (w.setCell ⟨r, o, none⟩ u) base v xs :=
  h.kept' (fun g cs' fr' hg hh => heap_far _ _ _ (blk_ne hh hr ht))
theorem ownsRow_lower {w : World} {base base' e sz n : Nat} {v : Value} {xs : List Value} (h : w.ownsRow base e sz v n xs) (hb : base' ≤ base) : w.ownsRow base' e sz v n xs := by
  refine ⟨h.1, ?_⟩
  rcases h.2 with h2 | ⟨g, cap, cur, hv, hg, rest⟩
  · exact .inl h2
  · exact .inr ⟨g, cap, cur, hv, Nat.le_trans hb hg, rest⟩
/-- The head gets another list. -/
theorem RNet.putL {W : World} (h : RNet W r M Kp) {base : Nat} {vL : Value} {l' : List Ed} (hown : W.ownsRow base 28 3 vL l'.length (cellsE l')) (hb : ∀ d ∈ l', OB W 0 d.v d.xs) (Kp' : List Nat) (hsub : ∀ k ∈ Kp, k ∈ Kp')
    (hL : ∀ k, vL.ownBlock = some k → k ∈ Kp') (hbk : ∀ d ∈ l', ∀ k, d.v.ownBlock = some k → k ∈ Kp') {M' : St} (h1 : l'.map Ed.dg = M'.l) (h2 : M'.K = M.K) (h3 : M'.lost = M.lost) (hok : M'.Ok) : RNet (W.setCell ⟨r, 0, none⟩ vL) r M' Kp' := by
  obtain ⟨vL0, vK, l, g1, g2, g3, g4, g5, g6, g7, g8⟩ := h.mem
  have hd := heap_set g2 0 vL
  refine ⟨hok, by rw [h2]; exact h.kl, hsub _ h.self, vL, vK, l', h1, by rw [h3]; exact hd, ownsRow_lower (ownsRow_put hown g2 (by decide) 0 vL) (Nat.zero_le _), ?_, fun d hd => (hb d hd).put g2 (by decide) 0 vL, hL, fun k e => hsub _ (g7 k e), hbk⟩
  rw [h2]
  exact ownsRow_put g4 g2 (by decide) 0 vL
theorem cellsE_take (l : List Ed) (i : Nat) {j : Nat} {u : Value} (h : (cellsE (l.take i))[j]? = some u) : (cellsE l)[j]? = some u := by
  have e : cellsE l = cellsE (l.take i) ++ cellsE (l.drop i) := by rw [← cellsE_append, List.take_append_drop]
  rw [e, List.getElem?_append_left (List.getElem?_eq_some_iff.1 h).1, h]
theorem cellsE_drop (l : List Ed) (i : Nat) (hi : i ≤ l.length) {j : Nat} {u : Value} (h : (cellsE (l.drop i))[j]? = some u) : (cellsE l)[i * 3 + j]? = some u := by
  have e : cellsE l = cellsE (l.take i) ++ cellsE (l.drop i) := by rw [← cellsE_append, List.take_append_drop]
  have hl : (cellsE (l.take i)).length = i * 3 := by rw [cellsE_length, List.length_take]; omega
  rw [e, List.getElem?_append_right (by omega), hl, Nat.add_sub_cancel_left, h]
theorem cellsE_one : ∀ (l : List Ed), (∀ d ∈ l, d.v.oneCell' = true) → ∀ u ∈ cellsE l, u.oneCell' = true
  | [], _, u, hu => by simp [cellsE] at hu
  | d :: r, h, u, hu => by
    simp only [cellsE, List.flatMap_cons, List.mem_append] at hu
    rcases hu with hu | hu
    · simp only [Ed.cells, List.mem_cons, List.not_mem_nil, or_false] at hu
      rcases hu with rfl | rfl | rfl
      · rfl
      · rfl
      · exact h d (by simp)
    · exact cellsE_one r (fun d hd => h d (by simp [hd])) u hu
theorem RB.one {v : Value} {xs : List UInt8} (h : RB w v xs) : v.oneCell' = true := by
  obtain ⟨A, c, rfl, _⟩ := h
  rfl

/-- append of datagrams, at a step of a region that draws its order. -/
theorem step_append_rows {w : World} {ops : Array Oper} {o : Oper} {a : Act} {K : Act → World → Prop} {Q : Exit → Act → World → Prop} {E : Prop} (hgd : o.guard = none) (s x : Operand)
    (ho : o.op = .call { callee := .builtin .append, args := #[s, x], argTypes := #[22, 22] })
    (base : Nat) (v : Value) (n : Nat) (xs : List Value) (hs : a.eval s = v) (hown : w.ownsRow base 28 3 v n xs)
    (ad : Addr) (m c : Nat) (news : List Value) (hx : a.eval x = .slice (some ad) m c) (hl : news.length = m * 3) (hnews : ∀ j u, news[j]? = some u → w.cell? (ad.add j) = some u) (h1 : ∀ u ∈ news, u.oneCell' = true)
    (h63 : n + m ≤ 1000000) (hbase : base ≤ w.heap.size) (N : Nat) (hN : n + m = N)
    (h : ∀ A cap w', w'.ownsRow base 28 3 (.slice A N cap) N (xs ++ news) → w.grownBy w' v.ownBlock → ((Value.slice A N cap).ownBlock = v.ownBlock ∨ (Value.slice A N cap).ownBlock = some w.heap.size) → K (a.put o.dst (.slice A N cap)) w') :
    if Region.wanted o (yielded ops a.tmps) = true then Oper.wp Try.prog o a w K Q else E := by
  subst hN
  have hw : Region.wanted o (yielded ops a.tmps) = true := by simp [Region.wanted, hgd]
  rw [if_pos hw]
  obtain ⟨i, hi, hz0, hz1, hz2⟩ := info_parts info28
  obtain ⟨v', w', hr, h2, h3, _, h5⟩ := run_append_own_at (P := Try.prog) w base 22 o.type 28 i (.agg #[.int .i64 0, .int .i64 0, .slice none 0 0]) 3 40 Try.underlying22 hi hz0 hz1 hz2 rfl (by decide) v n xs hown ad m c news hl hnews h1 (by simp only [maxLen]; omega) (by omega) hbase
  obtain ⟨A, cap, rfl⟩ : ∃ A cap, v' = .slice A (n + m) cap := by
    rcases h2.2 with ⟨rfl, h0⟩ | ⟨g, cap, cur, rfl, _⟩
    · exact ⟨none, 0, by rw [h0]⟩
    · exact ⟨_, _, rfl⟩
  unfold Oper.wp execOp
  simp only [ho, resolve, invoke, builtin, Sem.run_bind, Sem.run_pure, Result.andThen_ok, List.map_toArray, List.map_cons, List.map_nil, hs, hx, hr]
  exact h A cap w' h2 h3 h5

/-- What Take reads: the place of the list, all its cells in whatever world that came after. -/
theorem RNet.list (h : RNet w r M Kp) {i : Nat} (hi : i < M.l.length) : ∃ g c l, l.map Ed.dg = M.l ∧ w.ownsRow 0 28 3 (.slice (some ⟨g, 0, none⟩) l.length c) l.length (cellsE l) ∧ l.length ≤ c ∧ g ∈ Kp ∧ (∀ d ∈ l, OB w 0 d.v d.xs) ∧ (∀ d ∈ l, ∀ k, d.v.ownBlock = some k → k ∈ Kp) ∧
    ∃ vK, w.ownsRow 0 74 2 vK M.K.length (cellsK M.K) ∧ (∀ k, vK.ownBlock = some k → k ∈ Kp) ∧ w.heap[r]? = some (.cells #[.slice (some ⟨g, 0, none⟩) l.length c, vK, .int .i64 M.lost] 50 (0, 0)) := by
  obtain ⟨vL, vK, l, h1, h2, h3, h4, h5, h6, h7, h8⟩ := h.mem
  have hl : l.length = M.l.length := by rw [← h1]; simp
  rcases h3.2 with ⟨rfl, h0⟩ | ⟨g, cap, cur, rfl, _, _, hc, _⟩
  · omega
  · exact ⟨g, cap, l, h1, h3, hc, h6 g rfl, h5, h8, vK, h4, h7, h2⟩

set_option maxHeartbeats 1000000 in
theorem rtake_no (h : RNet w r M Kp) (i : Int) (hi : M.at? i = none) :
    Calls Try.prog 40 #[.pointer (some ⟨r, 0, none⟩), .int .i64 i] w fun e w' => e = .returned (.tuple #[.agg #[.int .i64 0, .int .i64 0, .slice none 0 0], .int .i64 6]) ∧ Below w.heap.size w w' := by
  have hb := below_new (.cells #[.int .i64 0, .int .i64 0, .slice none 0 0] 28) (Below.refl _ w)
  have hr := Lib.hid (h.below hb)
  have hb := Lib.hid hb
  clear h
  go_enter Try.func40, Try.ntmps40
  go_wp2_with (go_at_call 50; refine (there_any hr.out i).mono ?_; rintro e w' ⟨rfl, rfl⟩; rw [hi])
  exact bodyPost_ret (v := .tuple #[.agg #[.int .i64 0, .int .i64 0, .slice none 0 0], .int .i64 6]) (by simp [results, Try.f40, go_sem]) rfl ⟨rfl, hb.out⟩

theorem take_far {w w2 : World} {r b : Nat} (B : Below w.heap.size w w2) {v x y z : Value} (hb : w.heap.size ≤ b) {g : Nat} (hg : g < w.heap.size) (hr : g ≠ r) : ((((w2.setCell ⟨r, 0, none⟩ v).setCell ⟨b, 0, none⟩ x).setCell ⟨b, 1, none⟩ y).setCell ⟨b, 2, none⟩ z).heap[g]? = w.heap[g]? := by
  rw [heap_far _ _ _ (show g ≠ b by omega), heap_far _ _ _ (show g ≠ b by omega), heap_far _ _ _ (show g ≠ b by omega), heap_far _ _ _ hr]
  exact B.block g hg
theorem take_step (h : RNet w r M Kp) (hkp : ∀ k ∈ Kp, k < w.heap.size) {w2 : World} (B : Below w.heap.size w w2) {base b : Nat} (hbase : w.heap.size < base) (hb : b = w.heap.size) {l l' : List Ed} (hsub : ∀ d ∈ l', d ∈ l) (hl : l.map Ed.dg = M.l) (hO : ∀ d ∈ l, OB w 0 d.v d.xs) (hin : ∀ d ∈ l, ∀ k, d.v.ownBlock = some k → k ∈ Kp)
    {vL : Value} (hown : w2.ownsRow base 28 3 vL l'.length (cellsE l')) {M' : St} (h1 : l'.map Ed.dg = M'.l) (h2 : M'.K = M.K) (h3 : M'.lost = M.lost) (hok : M'.Ok) (x y z : Value) :
    RStep w ((((w2.setCell ⟨r, 0, none⟩ vL).setCell ⟨b, 0, none⟩ x).setCell ⟨b, 1, none⟩ y).setCell ⟨b, 2, none⟩ z) r M' Kp := by
  subst hb
  have P := (h.below B).putL hown (fun d hd => (hO d (hsub d hd)).kept' (fun g cs fr hg hh => B.block g (hkp g (hin d (hsub d hd) g hg)))) (Kp ++ vL.ownBlock.toList) (fun k hk => List.mem_append_left _ hk)
    (fun k hk => List.mem_append_right _ (by simp [hk])) (fun d hd k hk => List.mem_append_left _ (hin d (hsub d hd) k hk)) h1 h2 h3 hok
  have U : Upd (fun k => k = w.heap.size) (w2.setCell ⟨r, 0, none⟩ vL) ((((w2.setCell ⟨r, 0, none⟩ vL).setCell ⟨w.heap.size, 0, none⟩ x).setCell ⟨w.heap.size, 1, none⟩ y).setCell ⟨w.heap.size, 2, none⟩ z) :=
    (((Upd.refl (fun k => k = w.heap.size) _).setCell (p := ⟨w.heap.size, 0, none⟩) (.inl rfl) _).setCell (p := ⟨w.heap.size, 1, none⟩) (.inl rfl) _).setCell (p := ⟨w.heap.size, 2, none⟩) (.inl rfl) _
  have hlt : ∀ k, vL.ownBlock = some k → base ≤ k ∧ k < w2.heap.size := hown.lt
  have Q := P.upd U (fun k hk e => by
    subst e
    rcases List.mem_append.1 hk with hk | hk
    · have := hkp _ hk; omega
    · have := (hlt _ (by simpa using hk)).1; omega)
  refine ⟨Q.more (fun k hk => mem_kmore.2 ?_), ((((Upd.of_below B).setCell (p := ⟨r, 0, none⟩) (.inl h.self) _).setCell (p := ⟨w.heap.size, 0, none⟩) (.inr (Nat.le_refl _)) _).setCell (p := ⟨w.heap.size, 1, none⟩) (.inr (Nat.le_refl _)) _).setCell (p := ⟨w.heap.size, 2, none⟩) (.inr (Nat.le_refl _)) _⟩
  rcases List.mem_append.1 hk with hk | hk
  · exact .inl hk
  · have := hlt _ (by simpa using hk)
    exact .inr ⟨by omega, by simp only [size_setCell]; omega⟩

set_option maxRecDepth 100000 in
set_option maxHeartbeats 4000000 in
theorem rtake_yes (h : RNet w r M Kp) (hkp : ∀ k ∈ Kp, k < w.heap.size) (i : Nat) (hi : i < M.l.length) :
    Calls Try.prog 40 #[.pointer (some ⟨r, 0, none⟩), .int .i64 (i : Int)] w fun e w' => ∃ d : Ed, e = .returned (.tuple #[.agg #[.int .i64 d.f, .int .i64 d.t, d.v], .int .i64 0]) ∧ M.l[i]? = some d.dg ∧ RB w' d.v d.xs ∧
      RStep w w' r { M with l := M.l.eraseIdx i } Kp := by
  have hok := h.ok
  have hkl := h.kl
  have hself := h.self
  obtain ⟨g, c, l, hmap, hown, hlc, hg, hrb, hin, vK, hK, hKb, hhead⟩ := h.list hi
  have hll : l.length = M.l.length := by rw [← hmap]; simp
  have hil : i < l.length := by omega
  obtain ⟨d, hd⟩ : ∃ d, l[i]? = some d := ⟨_, List.getElem?_eq_getElem hil⟩
  obtain ⟨df, dt, dv, dxs⟩ := d
  have hdl : l[i] = ⟨df, dt, dv, dxs⟩ := (List.getElem?_eq_some_iff.1 hd).2
  have hdb : RB w dv dxs := (hrb _ (List.mem_of_getElem? hd)).rb
  obtain ⟨Ad, cd, rfl, _⟩ := id hdb
  have hcell := hown.cells (g := g) rfl
  have hgs : g < w.heap.size := hkp g hg
  have hrs : r < w.heap.size := hkp r hself
  have HC : ∀ W : World, Below w.heap.size w W → (∀ j u, (cellsE l)[j]? = some u → W.cell? ⟨g, j, none⟩ = some u) := fun W hb j u hu => by
    have := hcell j u hu
    rw [add_plain] at this
    exact (hb.cell (p := ⟨g, j, none⟩) hgs).trans this
  have HH : ∀ W : World, Below w.heap.size w W → W.cell? ⟨r, 0, none⟩ = some (.slice (some ⟨g, 0, none⟩) l.length c) := fun W hb => (hb.cell (p := ⟨r, 0, none⟩) hrs).trans (cell_of hhead 0 rfl)
  have HF : ∀ W : World, Below w.heap.size w W → W.frozen? ⟨r, 0, none⟩ = false := fun W hb => (hb.frozen (p := ⟨r, 0, none⟩) hrs).trans (frozen_of hhead 0)
  have hb := below_new (.cells #[.int .i64 0, .int .i64 0, .slice none 0 0] 28) (Below.refl _ w)
  obtain ⟨k0, k1, k2⟩ := cellsE_get l i hil
  rw [hdl] at k0 k1 k2
  have a0 := HC _ hb _ _ k0
  have a1 := HC _ hb _ _ k1
  have a2 := HC _ hb _ _ k2
  have ch := HH _ hb
  have hr := Lib.hid (h.below hb)
  have hat : (M.at? (i : Int)) = some i := by unfold St.at?; rw [if_neg (by omega)]; rfl
  have hll2 : l.length ≤ 2000 := by have := hok.len; omega
  obtain ⟨W2, hW2⟩ : ∃ W2, (w.alloc (.cells #[.int .i64 0, .int .i64 0, .slice none 0 0] 28)).alloc (.cells #[.int .i64 df, .int .i64 dt, (.slice Ad dxs.length cd)] 28) = W2 := ⟨_, rfl⟩
  have hb2 : Below w.heap.size w W2 := hW2 ▸ below_new _ hb
  have hs2 : W2.heap.size = w.heap.size + 2 := by rw [← hW2]; simp
  have z0 : W2.heap[w.heap.size]? = some (.cells #[.int .i64 0, .int .i64 0, .slice none 0 0] 28 (0, 0)) := by
    rw [← hW2, Below.heap_alloc _ _ _ (by simp)]; exact heap_alloc_new w _
  have z1 : W2.heap[w.heap.size + 1]? = some (.cells #[.int .i64 df, .int .i64 dt, (.slice Ad dxs.length cd)] 28 (0, 0)) := by
    rw [← hW2]
    have := heap_alloc_new (w.alloc (.cells #[.int .i64 0, .int .i64 0, .slice none 0 0] 28)) (.cells #[.int .i64 df, .int .i64 dt, (.slice Ad dxs.length cd)] 28)
    rwa [World.size_alloc] at this
  have hli : (i : Int) < (l.length : Int) := by omega
  have hic : (i : Int) ≤ (c : Int) := by omega
  have hwr : IntKind.i64.wrap ((i : Int) + 1) = (i : Int) + 1 := by simp [IntKind.wrap, IntKind.bits, IntKind.signed]; omega
  have H1 := Lib.hid hok; have H2 := Lib.hid hkl; have H3 := Lib.hid hmap; have H4 := Lib.hid hown; have H5 := Lib.hid hrb; have H6 := Lib.hid hin; have H7 := Lib.hid hK; have H8 := Lib.hid hKb; have H9 := Lib.hid hhead; have H10 := Lib.hid hd; have HZ0 := Lib.hid z0; have HZ1 := Lib.hid z1; have HB2 := Lib.hid hb2; have HS2 := Lib.hid hs2; have HKP := Lib.hid hkp
  have HC' := Lib.hid HC; have HH' := Lib.hid HH; have HF' := Lib.hid HF
  have HH0 := Lib.hid h; have HL := Lib.hid hll; have HDB := Lib.hid hdb
  clear hll hdb hok hkl hmap hown hrb hin hK hKb hhead hd hdl hcell z0 z1 HC HH HF h hkp hb2 hs2 k0 k1 k2
  go_enter Try.func40, Try.ntmps40
  go_wp2_with (go_at_call 50; refine (there_any hr.out (i : Int)).mono ?_; rintro e w' ⟨rfl, rfl⟩; rw [hat])
  have OWN0 : ((W2.alloc (.cells #[] 28)).drew).ownsRow W2.heap.size 28 3 (.slice (some ⟨W2.heap.size, 0, none⟩) 0 0) 0 [] :=
    World.ownsRow_made (w := W2) (base := W2.heap.size) #[] 0 (Nat.le_refl _) (by simp [maxLen]) (by simp)
  have BA : Below W2.heap.size W2 ((W2.alloc (.cells #[] 28)).drew) := (below_new _ (Below.refl _ _)).drew
  have TO : ∀ W : World, Below W2.heap.size W2 W → Below w.heap.size w W := fun W hW => below_step hW HB2.out
  have N1 : ∀ j u, (cellsE (l.take i))[j]? = some u → ((W2.alloc (.cells #[] 28)).drew).cell? ((⟨g, 0, none⟩ : Addr).add j) = some u := fun j u hu => by
    rw [add_plain]; exact HC'.out _ (TO _ BA) j u (cellsE_take l i hu)
  obtain ⟨ad2, had⟩ : ∃ ad2 : Addr, (if c = i + 1 then some (⟨g, 0, none⟩ : Addr) else some ⟨g, (i + 1) * 3, none⟩) = some ad2 := by
    by_cases h0 : c = i + 1
    · exact ⟨_, if_pos h0⟩
    · exact ⟨_, if_neg h0⟩
  have N2 : ∀ W : World, Below w.heap.size w W → ∀ j u, (cellsE (l.drop (i + 1)))[j]? = some u → W.cell? (ad2.add j) = some u := fun W hW j u hu => by
    by_cases h0 : c = i + 1
    · have : l.drop (i + 1) = [] := by rw [List.drop_eq_nil_iff]; omega
      rw [this] at hu
      simp [cellsE] at hu
    · rw [if_neg h0] at had
      injection had with had
      subst had
      have : (⟨g, (i + 1) * 3, none⟩ : Addr).add j = ⟨g, (i + 1) * 3 + j, none⟩ := by unfold Addr.add; split <;> simp_all
      rw [this]; exact HC'.out _ hW _ u (cellsE_drop l (i + 1) (by omega) hu)
  have hb1 : (0 : Int) ≤ (i : Int) + 1 := by omega
  have hb2 : (i : Int) + 1 ≤ (l.length : Int) := by omega
  have O1 : ∀ d ∈ l, d.v.oneCell' = true := fun d hd => (H5.out d hd).rb.one
  have L1 : (cellsE (l.take i)).length = i * 3 := by rw [cellsE_length, List.length_take]; omega
  have L2 : (cellsE (l.drop (i + 1))).length = (l.length - (i + 1)) * 3 := by rw [cellsE_length, List.length_drop]
  have P1 := cellsE_one (l.take i) (fun d hd => O1 d (List.mem_of_mem_take hd))
  have P2 := cellsE_one (l.drop (i + 1)) (fun d hd => O1 d (List.mem_of_mem_drop hd))
  have hNN : i + (l.length - (i + 1)) = l.length - 1 := by omega
  replace TO := Lib.hid TO; replace OWN0 := Lib.hid OWN0; replace BA := Lib.hid BA; replace N1 := Lib.hid N1; replace N2 := Lib.hid N2; replace L1 := Lib.hid L1; replace L2 := Lib.hid L2; replace P1 := Lib.hid P1; replace P2 := Lib.hid P2; replace O1 := Lib.hid O1; replace hNN := Lib.hid hNN
  have ch2 := HH'.out _ HB2.out
  have ch2a := HH'.out _ (below_new (.cells #[] 28) HB2.out)
  go_region_law (first
    | (refine step_append_rows rfl _ _ rfl W2.heap.size (.slice (some ⟨W2.heap.size, 0, none⟩) 0 0) 0 [] (by rfl) OWN0.out ⟨g, 0, none⟩ i c (cellsE (l.take i)) (by rfl) L1.out N1.out P1.out (by omega) BA.out.size i (Nat.zero_add _) ?_; intro A1 c1 w1 ho1 hg1 hor1; replace ho1 := Lib.hid ho1; replace hg1 := Lib.hid hg1; replace hor1 := Lib.hid hor1; have B1 := Lib.hid (BA.out.grown hg1.out BA.out.size (fun k e => by simp [Value.ownBlock] at e; omega)); have ch3 := HH'.out _ (TO.out _ B1.out))
    | (refine step_append_rows rfl _ _ rfl W2.heap.size (.slice A1 i c1) i ([] ++ cellsE (l.take i)) (by rfl) ho1.out ad2 (l.length - (i + 1)) (c - (i + 1)) (cellsE (l.drop (i + 1))) (by rfl) L2.out (N2.out _ (TO.out _ B1.out)) P2.out (by omega) B1.out.size (l.length - 1) hNN.out ?_; intro A2 c2 w2 ho2 hg2 hor2; replace ho2 := Lib.hid ho2; replace hg2 := Lib.hid hg2; replace hor2 := Lib.hid hor2; have B2 := Lib.hid (B1.out.grown hg2.out B1.out.size (fun k e => (ho1.out.lt k e).1)); have ch4 := HH'.out _ (TO.out _ B2.out); have cf4 := HF'.out _ (TO.out _ B2.out)))
  all_goals
    have y0 := (B2.out.block w.heap.size (by have := HS2.out; omega)).trans HZ0.out
    have y1 := (B2.out.block (w.heap.size + 1) (by have := HS2.out; omega)).trans HZ1.out
    have q0 := cell_of y0 0 rfl
    have q1 := cell_of y0 1 rfl
    have q2 := cell_of y0 2 rfl
    have f0 := frozen_of y0 0
    have f1 := frozen_of y0 1
    have f2 := frozen_of y0 2
    have p0 := cell_of y1 0 rfl
    have p1 := cell_of y1 1 rfl
    have p2 := cell_of y1 2 rfl
    have n1 : ¬ w.heap.size = r := by omega
    have n2 : ¬ w.heap.size + 1 = r := by omega
    have n3 : ¬ r = w.heap.size := by omega
    have n4 : ¬ r = w.heap.size + 1 := by omega
    replace y0 := Lib.hid y0
    replace y1 := Lib.hid y1
    clear ch ch2 ch2a ch4 cf4 a0 a1 a2
    go_wp2
    refine bodyPost_ret (v := .tuple #[.agg #[.int .i64 df, .int .i64 dt, .slice Ad dxs.length cd], .int .i64 0]) (by simp [results, Try.f40, go_sem, q0, q1, q2, p0, p1, p2, n1, n2]) rfl ⟨⟨df, dt, .slice Ad dxs.length cd, dxs⟩, rfl, ?_, ?_, ?_⟩
  all_goals first
    | (rw [← H3.out, List.getElem?_map, H10.out]; rfl)
    | exact ((H5.out _ (List.mem_of_getElem? H10.out)).kept' (fun g cs fr hg hh => take_far (TO.out _ B2.out) (Nat.le_refl _) (Array.getElem?_eq_some_iff.1 hh).1 (blk_ne hh H9.out (by decide)))).rb
    | exact take_step HH0.out HKP.out (TO.out _ B2.out) (base := W2.heap.size) (by have := HS2.out; omega) rfl (M' := { M with l := M.l.eraseIdx i }) (l := l) (l' := l.take i ++ l.drop (i + 1)) (fun d hd => (List.mem_append.1 hd).elim List.mem_of_mem_take List.mem_of_mem_drop) H3.out H5.out H6.out
        (by
          have e : (l.take i ++ l.drop (i + 1)).length = l.length - 1 := by simp only [List.length_append, List.length_take, List.length_drop]; omega
          rw [e, cellsE_append]
          simpa using ho2.out)
        (by rw [← H3.out]; simp [List.eraseIdx_eq_take_drop_succ]) rfl rfl ⟨(erase_ok H1.out i).1, (erase_ok H1.out i).2, H1.out.low, H1.out.high⟩ _ _ _
end Go.Proofs.Ytddndmhjkjanlaa
