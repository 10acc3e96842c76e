/- The document's net: Copy. Conditions: it holds what its word says. -/
import Derived.Test.YtddndmhjkjanlaaRe
namespace Go.Proofs.Ytddndmhjkjanlaa
open Go.RowKit Go.Shelf
variable {w : World} {r : Nat} {M : St} {Kp : List Nat}

/-- All that a net at r holds, laid open. -/
structure ROpen (w : World) (r : Nat) (M : St) (Kp : List Nat) (A : Option Addr) (c : Nat) (l : List Ed) (vK : Value) : Prop where
  map : l.map Ed.dg = M.l
  head : w.heap[r]? = some (.cells #[.slice A l.length c, vK, .int .i64 M.lost] 50 (0, 0))
  own : w.ownsRow 0 28 3 (.slice A l.length c) l.length (cellsE l)
  row : w.ownsRow 0 74 2 vK M.K.length (cellsK M.K)
  ob : ∀ d ∈ l, OB w 0 d.v d.xs
  bl : ∀ k, (Value.slice A l.length c).ownBlock = some k → k ∈ Kp
  bk : ∀ k, vK.ownBlock = some k → k ∈ Kp
  bd : ∀ d ∈ l, ∀ k, d.v.ownBlock = some k → k ∈ Kp
theorem RNet.opened (h : RNet w r M Kp) : ∃ A c l vK, ROpen w r M Kp A c l vK := by
  obtain ⟨vL, vK, l, h1, h2, h3, h4, h5, h6, h7, h8⟩ := h.mem
  obtain ⟨A, c, rfl⟩ : ∃ A c, vL = .slice A l.length c := by
    rcases h3.2 with ⟨rfl, h0⟩ | ⟨g, cap, cur, rfl, _⟩
    · exact ⟨none, 0, by rw [h0]⟩
    · exact ⟨_, _, rfl⟩
  exact ⟨A, c, l, vK, h1, h2, h3, h4, h5, h6, h7, h8⟩
theorem ROpen.len {A : Option Addr} {c : Nat} {l : List Ed} {vK : Value} (h : ROpen w r M Kp A c l vK) : l.length = M.l.length := by rw [← h.map]; simp
theorem ROpen.head_in {A : Option Addr} {c : Nat} {l : List Ed} {vK : Value} (h : ROpen w r M Kp A c l vK) {W : World} (hb : Below w.heap.size w W) : W.heap[r]? = some (.cells #[.slice A l.length c, vK, .int .i64 M.lost] 50 (0, 0)) :=
  (hb.block r (Array.getElem?_eq_some_iff.1 h.head).1).trans h.head

theorem ROpen.far {A : Option Addr} {c : Nat} {l : List Ed} {vK : Value} (ho : ROpen w r M Kp A c l vK) {W w2 : World} (BW : Below w.heap.size w W) (hg : W.grownBy w2 (Value.slice A l.length c).ownBlock) {g : Nat} {cs : Array Value} {t0 : TypeId} {fr : Nat × Nat} (ht : t0 ≠ 28)
    (hh : W.heap[g]? = some (.cells cs t0 fr)) : w2.heap[g]? = W.heap[g]? := hg.block g (Array.getElem?_eq_some_iff.1 hh).1 (fun e => by
  obtain ⟨cs2, h2⟩ := ownsRow_typed ho.own e.symm
  have h3 := (BW.block g (Array.getElem?_eq_some_iff.1 h2).1).trans h2
  exact blk_ne hh h3 ht rfl)
theorem ROpen.head_grown {A : Option Addr} {c : Nat} {l : List Ed} {vK : Value} (ho : ROpen w r M Kp A c l vK) {W w2 : World} (BW : Below w.heap.size w W) (hg : W.grownBy w2 (Value.slice A l.length c).ownBlock) :
    w2.heap[r]? = some (.cells #[.slice A l.length c, vK, .int .i64 M.lost] 50 (0, 0)) := (ho.far BW hg (by decide) (ho.head_in BW)).trans (ho.head_in BW)
/-- What stands ready once the new datagram's bytes are copied. -/
structure RReady (w w1 : World) (r : Nat) (A : Option Addr) (c : Nat) (l : List Ed) (cs : List Value) : Prop where
  b1 : Below w.heap.size w w1
  bw : Below w.heap.size w (w1.alloc (.cells cs.toArray 28))
  own : (w1.alloc (.cells cs.toArray 28)).ownsRow 0 28 3 (.slice A l.length c) l.length (cellsE l)
  news : ∀ j u, cs[j]? = some u → (w1.alloc (.cells cs.toArray 28)).cell? ((⟨w1.heap.size, 0, none⟩ : Addr).add j) = some u
theorem ROpen.ready {A : Option Addr} {c : Nat} {l : List Ed} {vK : Value} (ho : ROpen w r M Kp A c l vK) {w1 : World} (hb : Below w.heap.size w w1) (cs : List Value) : RReady w w1 r A c l cs := by
  have bw := below_new (.cells cs.toArray 28) hb
  refine ⟨hb, bw, ownsRow_upd (S := fun _ => False) ho.own (Upd.of_below bw) (fun _ _ h => h), fun j u hu => ?_⟩
  have := World.news_of_block (cs := cs.toArray) (heap_alloc_new w1 (.cells cs.toArray 28)) (j := j) (u := u)
  simpa using this (by simpa using hu)

theorem append_step {A : Option Addr} {c : Nat} {l : List Ed} {vK : Value} (h : RNet w r M Kp) (ho : ROpen w r M Kp A c l vK) (hkp : ∀ k ∈ Kp, k < w.heap.size) {W w2 : World} (BW : Below w.heap.size w W) {f t : Int} {v : Value} {xs : List UInt8} (hv : OB W w.heap.size v xs)
    (hg : W.grownBy w2 (Value.slice A l.length c).ownBlock) {A2 : Option Addr} {c2 : Nat} (ho2 : w2.ownsRow 0 28 3 (.slice A2 (l.length + 1) c2) (l.length + 1) (cellsE l ++ [.int .i64 f, .int .i64 t, v]))
    (hor : (Value.slice A2 (l.length + 1) c2).ownBlock = (Value.slice A l.length c).ownBlock ∨ (Value.slice A2 (l.length + 1) c2).ownBlock = some W.heap.size) (hlen : l.length < 2000) (hxs : xs.length ≤ 1500) :
    RStep w (w2.setCell ⟨r, 0, none⟩ (.slice A2 (l.length + 1) c2)) r { M with l := M.l ++ [(f, t, xs)] } Kp := by
  have hWs := BW.size
  have hgs := hg.size
  have far : ∀ g cs t0 fr, t0 ≠ 28 → g < W.heap.size → W.heap[g]? = some (.cells cs t0 fr) → w2.heap[g]? = W.heap[g]? := fun g cs t0 fr ht hlt hh => ho.far BW hg ht hh
  have hh := ho.head_in BW
  have hh2 := (far r _ 50 _ (by decide) (Array.getElem?_eq_some_iff.1 hh).1 hh).trans hh
  have hK2 : w2.ownsRow 0 74 2 vK M.K.length (cellsK M.K) := ownsRow_kept ho.row (fun g cs t0 fr hg' hg2 => by
    obtain ⟨cs2, h2⟩ := ownsRow_typed ho.row hg'
    have hlt := (Array.getElem?_eq_some_iff.1 h2).1
    have e := BW.block g hlt
    exact (far g cs2 74 _ (by decide) (by omega) (e.trans h2)).trans e)
  have hO2 : ∀ d ∈ l, OB w2 0 d.v d.xs := fun d hd => (ho.ob d hd).kept' (fun g cs fr hg' hg2 => by
    have hlt := (Array.getElem?_eq_some_iff.1 hg2).1
    have e := BW.block g hlt
    exact (far g cs 5 _ (by decide) (by omega) (e.trans hg2)).trans e)
  have hv2 : OB w2 0 v xs := (hv.mono (Nat.zero_le _)).kept' (fun g cs fr hg' hg2 => far g cs 5 _ (by decide) (Array.getElem?_eq_some_iff.1 hg2).1 hg2)
  have hK := h.kl
  have hok := h.ok
  have hself := h.self
  have hd := heap_set hh2 0 (.slice A2 (l.length + 1) c2)
  have hl : (l ++ [(⟨f, t, v, xs⟩ : Ed)]).length = l.length + 1 := by simp
  have ho3 : w2.ownsRow 0 28 3 (.slice A2 (l.length + 1) c2) (l ++ [(⟨f, t, v, xs⟩ : Ed)]).length (cellsE (l ++ [(⟨f, t, v, xs⟩ : Ed)])) := by
    rw [hl, cellsE_append]; exact ho2
  have U : Upd (· ∈ Kp) w w2 := ⟨hg.os.trans BW.os, hg.tape.trans BW.tape, hg.output.trans BW.output, by omega, fun k hk hn => by
    rw [hg.block k (by omega) (fun e => hn (ho.bl k e.symm))]
    exact BW.block k hk⟩
  refine ⟨⟨⟨by simp; rw [← ho.map]; simp; omega, fun d hd => ?_, hok.low, hok.high⟩, hK, mem_kmore.2 (.inl hself), .slice A2 (l.length + 1) c2, vK, l ++ [⟨f, t, v, xs⟩], by simp [ho.map, Ed.dg], hd, ownsRow_put ho3 hh2 (by decide) 0 _, ownsRow_put hK2 hh2 (by decide) 0 _, fun d hd => ?_, fun k hk => ?_, fun k hk => mem_kmore.2 (.inl (ho.bk k hk)), fun d hd k hk => ?_⟩, U.setCell (p := ⟨r, 0, none⟩) (.inl hself) _⟩
  · rcases List.mem_append.1 hd with hd | hd
    · exact hok.each d hd
    · simp only [List.mem_singleton] at hd
      subst hd
      exact hxs
  · refine OB.put ?_ hh2 (by decide) 0 _
    rcases List.mem_append.1 hd with hd | hd
    · exact hO2 d hd
    · simp only [List.mem_singleton] at hd
      subst hd
      exact hv2
  · rw [mem_kmore, size_setCell]
    rcases hor with e | e
    · exact .inl (ho.bl k (by rw [← e]; exact hk))
    · rw [e] at hk
      injection hk with hk
      subst hk
      exact .inr ⟨hWs, (ho2.lt _ e).2⟩
  · rw [mem_kmore, size_setCell]
    rcases List.mem_append.1 hd with hd | hd
    · exact .inl (ho.bd d hd k hk)
    · simp only [List.mem_singleton] at hd
      subst hd
      have := hv.block k (by simpa using hk)
      exact .inr ⟨this.1, by omega⟩

theorem OB.alloc1 {w : World} {base : Nat} {v : Value} {xs : List UInt8} (h : OB w base v xs) (o : Obj) : OB (w.alloc o) base v xs := h.kept (fun k hk => Below.heap_alloc w _ k (h.block k hk).2)
theorem one3 {a b : Int} {A : Option Addr} {n c : Nat} : ∀ u ∈ ([.int .i64 a, .int .i64 b, .slice A n c] : List Value), u.oneCell' = true := by
  intro u hu
  simp only [List.mem_cons, List.not_mem_nil, or_false] at hu
  rcases hu with rfl | rfl | rfl <;> rfl
theorem rcopy_no (h : RNet w r M Kp) (i : Int) (hi : M.at? i = none) :
    Calls Try.prog 42 #[.pointer (some ⟨r, 0, none⟩), .int .i64 i] w fun e w' => e = .returned (.int .i64 6) ∧ w = w' := by
  have hT := Lib.hid (there_any h i)
  rw [hi] at hT
  clear h
  go_enter Try.func42, Try.ntmps42
  go_wp2_with fail
  refine hT.out.mono ?_
  rintro e w' ⟨rfl, rfl⟩
  go_wp2
  go_ret
  exact ⟨rfl, rfl⟩
theorem rcopy_full (h : RNet w r M Kp) (i : Int) {k : Nat} (hi : M.at? i = some k) (hf : 2000 ≤ M.l.length) :
    Calls Try.prog 42 #[.pointer (some ⟨r, 0, none⟩), .int .i64 i] w fun e w' => e = .returned (.int .i64 8) ∧ w = w' := by
  have hT := Lib.hid (there_any h i)
  rw [hi] at hT
  obtain ⟨A, c, l, vK, ho⟩ := h.opened
  have c0 := cell_of ho.head 0 rfl
  have hl := ho.len
  have hl2 : (2000 : Int) ≤ (l.length : Int) := by omega
  clear h ho hl
  go_enter Try.func42, Try.ntmps42
  go_wp2_with fail
  refine hT.out.mono ?_
  rintro e w' ⟨rfl, rfl⟩
  go_wp2
  go_ret
  exact ⟨rfl, rfl⟩
set_option maxRecDepth 100000 in
set_option maxHeartbeats 4000000 in
theorem rcopy_yes (h : RNet w r M Kp) (hkp : ∀ k ∈ Kp, k < w.heap.size) (i : Nat) (hi : i < M.l.length) (hf : M.l.length < 2000) :
    Calls Try.prog 42 #[.pointer (some ⟨r, 0, none⟩), .int .i64 (i : Int)] w fun e w' => e = .returned (.int .i64 0) ∧ RStep w w' r { M with l := M.l ++ [M.l.getD i zD] } Kp := by
  have hat : (M.at? (i : Int)) = some i := by unfold St.at?; rw [if_neg (by omega)]; rfl
  have hT := Lib.hid (there_any h (i : Int))
  rw [hat] at hT
  obtain ⟨A, c, l, vK, ho⟩ := h.opened
  have hlen := ho.len
  have hil : i < l.length := by omega
  obtain ⟨d, hd⟩ : ∃ d, l[i]? = some d := ⟨_, List.getElem?_eq_getElem hil⟩
  obtain ⟨df, dt, dv, dxs⟩ := d
  have hdl : l[i] = ⟨df, dt, dv, dxs⟩ := (List.getElem?_eq_some_iff.1 hd).2
  have hdb : RB w dv dxs := (ho.ob _ (List.mem_of_getElem? hd)).rb
  obtain ⟨Ad, cd, rfl, _⟩ := id hdb
  have hdx : dxs.length ≤ 1500 := h.ok.each (df, dt, dxs) (by rw [← ho.map]; exact List.mem_map_of_mem (List.mem_of_getElem? hd))
  have hgd : M.l.getD i zD = (df, dt, dxs) := by rw [List.getD_eq_getElem?_getD, ← ho.map, List.getElem?_map, hd]; rfl
  rw [hgd]
  obtain ⟨g, rfl⟩ : ∃ g, A = some ⟨g, 0, none⟩ := by
    rcases ho.own.2 with ⟨_, h0⟩ | ⟨g, cap, cur, e, _⟩
    · omega
    · injection e with e; exact ⟨g, e⟩
  have hcell := ho.own.cells (g := g) rfl
  obtain ⟨k0, k1, k2⟩ := cellsE_get l i hil
  rw [hdl] at k0 k1 k2
  have a0 := hcell _ _ k0
  have a1 := hcell _ _ k1
  have a2 := hcell _ _ k2
  rw [add_plain] at a0 a1 a2
  have c0 := cell_of ho.head 0 rfl
  have hli : (i : Int) < (l.length : Int) := by omega
  have hl3 : l.length < 2000 := by omega
  have hrb := Lib.hid hdb
  have HL := Lib.hid hlen
  have HD := Lib.hid hd
  have HO := Lib.hid ho
  have H := Lib.hid h
  have HKP := Lib.hid hkp
  clear hdb hlen hd hdl k0 k1 k2 hcell h ho hkp hgd hi hf hil hat
  go_enter Try.func42, Try.ntmps42
  go_wp2_with fail
  refine hT.out.mono ?_
  rintro e w' ⟨rfl, rfl⟩
  go_wp2_with fail
  go_region_law (first
    | (refine step_append_rows rfl _ _ rfl 0 (.slice (some ⟨g, 0, none⟩) l.length c) l.length (cellsE l) (by rfl) RR.out.own ⟨w1.heap.size, 0, none⟩ 1 1 [.int .i64 df, .int .i64 dt, .slice A1 dxs.length c1] (by rfl) rfl RR.out.news one3 (by omega) (Nat.zero_le _) (l.length + 1) rfl ?_; intro A2 c2 w2 ho2 hg2 hor2; replace ho2 := Lib.hid ho2; replace hg2 := Lib.hid hg2; replace hor2 := Lib.hid hor2; have hh2 := HO.out.head_grown RR.out.bw hg2.out; have u0 := cell_of hh2 0 rfl; have uf := frozen_of hh2 0; replace hh2 := Lib.hid hh2)
    | (go_simp; go_at_call 51; refine (own_any df dt (.slice Ad dxs.length cd) dxs _ (hrb.out.below (Below.refl _ _).drew) (by omega)).mono ?_; rintro e w1 ⟨A1, c1, rfl, ob1, B1⟩; replace ob1 := Lib.hid ob1; have RR := Lib.hid (HO.out.ready (below_step B1 (Below.refl _ _).drew) [.int .i64 df, .int .i64 dt, .slice A1 dxs.length c1]); have v0 := cell_of (HO.out.head_in RR.out.b1) 0 rfl; have v1 := cell_of (HO.out.head_in RR.out.bw) 0 rfl; replace B1 := Lib.hid B1))
  all_goals
    clear c0 a0 a1 a2 v0 v1 u0 uf
    go_wp2
    go_ret
    exact ⟨rfl, append_step H.out HO.out HKP.out RR.out.bw (ob1.out.alloc1 _) hg2.out ho2.out hor2.out hl3 hdx⟩
end Go.Proofs.Ytddndmhjkjanlaa
