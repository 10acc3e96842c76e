/- A call of a net and of the document's, kind 3 (Take). Conditions: both hold the same. -/
import Derived.Test.YtddndmhjkjanlaaRo
namespace Go.Proofs.Ytddndmhjkjanlaa
open Go.RowKit Go.Shelf
variable {w : World} {bn r base : Nat} {M : St} {Kp : List Nat}

theorem NS.take2 (h : NS w bn M base Kp) (i : Int) :
    Calls Try.prog 24 #[.pointer (some ⟨bn, 0, none⟩), .int .i64 i] w fun e w' => ∃ A c, e = .returned (.tuple #[.agg #[.int .i64 (M.take i).1.1.1, .int .i64 (M.take i).1.1.2.1, .slice A (M.take i).1.1.2.2.length c], .int .i64 (M.take i).1.2]) ∧
      OB w' base (.slice A (M.take i).1.1.2.2.length c) (M.take i).1.1.2.2 ∧ NS w' bn (M.take i).2 base ((Value.slice A (M.take i).1.1.2.2.length c).ownBlock.toList ++ Kp) ∧ Upd (Far base Kp) w w' ∧ ∀ k ∈ (Value.slice A (M.take i).1.1.2.2.length c).ownBlock.toList, k ∉ Kp := by
  obtain ⟨bm, L, h1, h2, h3⟩ := h.net
  have hok := h.ok
  have hL : L.length = M.l.length := by rw [← h1]; simp
  unfold St.take
  rcases hk : M.at? i with _ | k
  · dsimp only []
    refine (take_no h2 i (by rw [hL]; exact St.at?_none hk)).mono ?_
    rintro e w' ⟨e1, hs⟩
    have hst := h.step hs h3 hok h1 rfl rfl
    exact ⟨none, 0, e1, OB.nil _ _, hst.1, hst.2, fun k hk => by simp [Value.ownBlock] at hk⟩
  · obtain ⟨L1, nd, L2, rfl, hl, rfl, he, hg, hx⟩ := NS.splits h1 hk
    dsimp only []
    rw [hg, ← hl]
    refine (take_yes h2 (by have := hok.len; omega)).mono ?_
    rintro e w' ⟨e1, hs, ho⟩
    obtain ⟨A, c, hv⟩ := ho.form
    have hin : ∀ k ∈ nd.v.ownBlock.toList, k ∈ blocks bn bm (L1 ++ nd :: L2) := fun k hk => by
      simp only [blocks, List.mem_cons, List.flatMap_append, List.flatMap_cons, List.mem_append]
      exact .inr (.inr (.inr (.inl (.inr hk))))
    have hns := h.step (M' := { M with l := M.l.eraseIdx L1.length }) hs h3 ⟨by have := hok.len; simp [List.length_eraseIdx]; split <;> omega, fun d hd => hok.each d (List.mem_of_mem_eraseIdx hd), hok.low, hok.high⟩ (by rw [hl, hx]) rfl rfl
    have hap : ∀ k ∈ nd.v.ownBlock.toList, k ∉ blocks bn bm (L1 ++ L2) := fun k hk hk2 => by
      have hnd := h2.apart
      simp only [blocks, List.flatMap_append, List.flatMap_cons, List.mem_cons, List.mem_append] at hnd hk2
      simp only [List.nodup_cons, List.nodup_append, List.mem_cons, List.mem_append] at hnd
      obtain ⟨n1, n2, n3, ⟨n4, n5, n6⟩, n7⟩ := hnd
      rcases hk2 with rfl | rfl | e | e
      · exact n1 (.inr (.inr (.inl (.inr hk))))
      · exact n2 (.inr (.inl (.inr hk)))
      · exact n7 k e k (.inl (.inr hk)) rfl
      · exact n6 k (.inr hk) k e rfl
    have hv' : Value.slice A (vw nd).2.2.length c = nd.v := hv.symm
    refine ⟨A, c, by rw [e1, hv]; rfl, ?_, ?_, hns.2, ?_⟩
    · rw [hv']
      exact ho.base (fun k hk => (h3 k (hin k (by simp [hk]))).1)
    · rw [hv']
      refine ⟨hns.1.ok, fun k hk => ?_, hns.1.bound, bm, L1 ++ L2, by rw [hl, hx], hs.net, fun k hk => ?_⟩
      · rcases List.mem_append.1 hk with hk | hk
        · exact Nat.lt_of_lt_of_le (h2.lt k (hin k hk)) hs.upd.size
        · exact hns.1.lt k hk
      · have hfar : Far base Kp k := by
          rcases hs.sub k hk with e | e
          · exact h3 k e
          · exact ⟨Nat.le_trans h.bound e, fun e' => by have := h.lt k e'; omega⟩
        refine ⟨hfar.1, fun e => ?_⟩
        rcases List.mem_append.1 e with e | e
        · exact hap k e hk
        · exact hfar.2 e
    · rw [hv']
      exact fun k hk => (h3 k (hin k hk)).2
theorem NS.kmore2 {w' : World} (h : NS w bn M base Kp) {Kx Kp' : List Nat} (hx : ∀ k ∈ Kx, k ∈ Kp) (hs : ∀ k ∈ Kp', k ∈ Kp) (u : Upd (· ∈ Kp') w w') : NS w' bn M base (Kx ++ Kmore Kp' w w') := by
  have h' := h.upd u (fun k hk _ e => hk.2 (hs k e))
  obtain ⟨bm, L, h1, hL, h3⟩ := h.net
  refine ⟨h.ok, fun k hk => ?_, h'.bound, bm, L, h1, hL.upd u (fun k hk e => (h3 k hk).2 (hs k e)), fun k hk => ⟨(h3 k hk).1, fun e => ?_⟩⟩
  · rcases List.mem_append.1 hk with hk | hk
    · exact h'.lt k (hx k hk)
    · rcases mem_kmore.1 hk with hk | hk
      · exact h'.lt k (hs k hk)
      · exact hk.2
  · rcases List.mem_append.1 e with e | e
    · exact (h3 k hk).2 (hx k e)
    · rcases mem_kmore.1 e with e | e
      · exact (h3 k hk).2 (hs k e)
      · have := hL.lt k hk; omega

/-- Behind both calls and OverBytes. -/
theorem take_fin {w w0 w1 w2 w3 w7 w8 : World} {M1 : St} {v : Value} {xs : List UInt8} {b : Nat} (hlo : ∀ k ∈ Kp, base ≤ k) (hb0 : Below base w w0) (hsz : base ≤ w0.heap.size) (hob : OB w1 base v xs) (hns : NS w1 bn M1 base (v.ownBlock.toList ++ b :: Kp)) (u1 : Upd (Far base (b :: Kp)) w0 w1)
    (hno : ∀ k ∈ v.ownBlock.toList, k ∉ b :: Kp) (B12 : Below w1.heap.size w1 w2) (RS : RStep w2 w3 r M1 Kp) (B37 : Below w3.heap.size w3 w7) (u8 : Upd (fun k => v.ownBlock = some k) w7 w8) : PEnd w w8 bn r M1 base := by
  have n2 := hns.below B12
  have n3 := n2.kmore2 (Kx := v.ownBlock.toList) (Kp' := Kp) (fun k hk => List.mem_append_left _ hk) (fun k hk => List.mem_append_right _ (List.mem_cons_of_mem _ hk)) RS.upd
  have n7 := n3.below B37
  have n8 := n7.upd u8 (fun k hk _ e => hk.2 (List.mem_append_left _ (by simp [e])))
  have hbl := hob.block
  have hown : ∀ k, v.ownBlock = some k → base ≤ k := fun k e => (hbl k (by simp [e])).1
  refine ⟨Kmore Kp w2 w3, ⟨n8.less (fun k hk => List.mem_append_right _ hk), (RS.net.below B37).upd u8 (fun k hk e => ?_), fun k hk => ?_⟩, ?_⟩
  · rcases mem_kmore.1 hk with hk | hk
    · exact hno k (by simp [e]) (List.mem_cons_of_mem _ hk)
    · have := (hbl k (by simp [e])).2
      have := B12.size
      omega
  · rcases mem_kmore.1 hk with hk | hk
    · exact hlo k hk
    · have := n2.bound; omega
  · refine hb0.trans ((u1.below hsz (fun _ h => h.1)).trans ((B12.mono hns.bound).trans ((RS.upd.below n2.bound hlo).trans ((B37.mono n3.bound).trans (u8.below n7.bound hown)))))

theorem slice_one {w : World} {a b : Int} {v : Value} {xs : List UInt8} (hv : RB w v xs) : RD (w.alloc (.cells #[.int .i64 a, .int .i64 b, v] 28)) (.slice (some ⟨w.heap.size, 0, none⟩) 1 1) [⟨a, b, v, xs⟩] :=
  RD.one ⟨a, b, v, xs⟩ (heap_alloc_new w _) (hv.alloc _)

set_option maxRecDepth 100000 in
set_option maxHeartbeats 4000000 in
theorem both_take (h : Pair w bn r M base Kp) (i k : Int) (is : Bool) (f t : Int) (A : Option Addr) (n c : Nat) :
    Calls Try.prog 26 #[.pointer (some ⟨bn, 0, none⟩), .pointer (some ⟨r, 0, none⟩), .agg #[.int .i64 3, .int .i64 i, .int .i64 k, .bool is, .int .i64 f, .int .i64 t, .slice A n c]] w fun e w' => e = .returned (.bool true) ∧ PEnd w w' bn r (M.take i).2 base := by
  have HRd := h.ready 3 i k is f t (.slice A n c)
  have hP := HRd.ns.take2 i
  have hR : ∀ w1, RNet w1 r M Kp → (∀ q ∈ Kp, q < w1.heap.size) → Calls Try.prog 40 #[.pointer (some ⟨r, 0, none⟩), .int .i64 i] w1 fun e w' => ∃ d : Ed, e = .returned (.tuple #[.agg #[.int .i64 d.f, .int .i64 d.t, d.v], .int .i64 (M.take i).1.2]) ∧ d.dg = (M.take i).1.1 ∧ RB w' d.v d.xs ∧ RStep w1 w' r (M.take i).2 Kp := fun w1 hn hk => rtake_any hn hk i
  have htl : (M.take i).1.1.2.2.length ≤ 1500 := by
    unfold St.take
    rcases hk : M.at? i with _ | q
    · simp [zD]
    · obtain ⟨_, hq⟩ := St.at?_some hk
      dsimp only []
      rw [List.getD_eq_getElem?_getD, List.getElem?_eq_getElem hq]
      exact h.ns.ok.each _ (List.getElem_mem hq)
  obtain ⟨res, hres⟩ : ∃ res, M.take i = res := ⟨_, rfl⟩
  rw [hres] at hP hR htl ⊢
  obtain ⟨⟨⟨df, dt, dxs⟩, e1⟩, M1⟩ := res
  dsimp only [] at hP hR htl ⊢
  unfold boxOf at hP
  have HP := Lib.hid hP; have HR := Lib.hid hR; have HD := Lib.hid HRd
  obtain ⟨b0, b1, b2, b3, b4, b5, b6⟩ := box_cells HRd.bx
  unfold boxOf at b0 b1
  clear h hP hR HRd hres b2 b3 b4 b5 b6
  go_enter Try.func26, Try.ntmps26
  go_wp2_with fail
  refine HP.out.mono ?_
  rintro e w1 ⟨A1, c1, rfl, hob, hns, u1, hno⟩
  have T := HD.out.then u1
  have hnew := heap_alloc_new w1 (.cells #[.int .i64 df, .int .i64 dt, .slice A1 dxs.length c1] 28)
  obtain ⟨w2, hw2⟩ : ∃ w2, w1.alloc (.cells #[.int .i64 df, .int .i64 dt, .slice A1 dxs.length c1] 28) = w2 := ⟨_, rfl⟩
  have B12 : Below w1.heap.size w1 w2 := hw2 ▸ below_new _ (Below.refl _ _)
  rw [hw2] at hnew
  have x1 := (box_cells ((B12.block _ (Array.getElem?_eq_some_iff.1 T.1).1).trans T.1)).2.1
  have HN := Lib.hid hnew; have HB12 := Lib.hid B12; have HT := Lib.hid T; have HOB := Lib.hid hob; have HNS := Lib.hid hns; have HU := Lib.hid u1; have HNO := Lib.hid hno
  clear hnew B12 T hob hns u1 hno b0 b1
  go_wp2_with fail
  refine (HR.out w2 (HT.out.2.1.below HB12.out) (fun q hq => Nat.lt_of_lt_of_le (HT.out.2.2 q hq) HB12.out.size)).mono ?_
  rintro e w3 ⟨⟨ef, et, ev, exs⟩, rfl, hdg, hrb, RS⟩
  dsimp only [] at hdg hrb
  obtain ⟨Ae, ce, rfl, _⟩ := id hrb
  obtain ⟨rfl, rfl, rfl⟩ : ef = df ∧ et = dt ∧ exs = dxs := by
    simp only [Ed.dg, Prod.mk.injEq] at hdg; exact hdg
  have h3 : w3.heap[w1.heap.size]? = some (.cells #[.int .i64 ef, .int .i64 et, .slice A1 exs.length c1] 28 (0, 0)) :=
    (RS.upd.block _ (Array.getElem?_eq_some_iff.1 HN.out).1 (fun e => by have := HT.out.2.2 _ e; omega)).trans HN.out
  obtain ⟨W4, hW4⟩ : ∃ W4, w3.alloc (.cells #[.int .i64 ef, .int .i64 et, .slice Ae exs.length ce] 28) = W4 := ⟨_, rfl⟩
  have B34 : Below w3.heap.size w3 W4 := hW4 ▸ below_new _ (Below.refl _ _)
  have h4 := (B34.block _ (Array.getElem?_eq_some_iff.1 h3).1).trans h3
  have h4e : W4.heap[w3.heap.size]? = some (.cells #[.int .i64 ef, .int .i64 et, .slice Ae exs.length ce] 28 (0, 0)) := hW4 ▸ heap_alloc_new w3 _
  have B35 := below_new (.cells #[.int .i64 ef, .int .i64 et, .slice A1 exs.length c1] 28) B34
  have h5e : (W4.alloc (.cells #[.int .i64 ef, .int .i64 et, .slice A1 exs.length c1] 28)).heap[w3.heap.size]? = some (.cells #[.int .i64 ef, .int .i64 et, .slice Ae exs.length ce] 28 (0, 0)) :=
    (Below.heap_alloc W4 _ _ (Array.getElem?_eq_some_iff.1 h4e).1).trans h4e
  have y0 := cell_of h4 0 rfl
  have y1 := cell_of h4 1 rfl
  have y2 := cell_of h4 2 rfl
  have z0 := cell_of h5e 0 rfl
  have z1 := cell_of h5e 1 rfl
  have z2 := cell_of h5e 2 rfl
  have ob3 : OB w3 base (.slice A1 exs.length c1) exs := (HOB.out.kept (fun q hq => HB12.out.block q (HOB.out.block q hq).2)).kept (fun q hq => RS.upd.block q (by have := (HOB.out.block q hq).2; have := HB12.out.size; omega) (fun e => HNO.out q hq (List.mem_cons_of_mem _ e)))
  have ra : RB W4 (.slice A1 exs.length c1) exs := ob3.rb.below B34
  have re := hrb.below B35
  have rd1 := slice_one (a := ef) (b := et) ra
  have rd2 := slice_one (a := ef) (b := et) re
  rw [World.size_alloc] at rd2
  have HR1 := Lib.hid rd1; have HR2 := Lib.hid rd2; have HOB3 := Lib.hid ob3; have HRS := Lib.hid RS; have HB35 := Lib.hid B35; have HB34 := Lib.hid B34; have H4 := Lib.hid h4; have HRE := Lib.hid re
  clear rd1 rd2 ob3 ra re RS B35 B34 h4 h4e h5e hrb hdg h3 x1
  go_wp2_with fail
  refine (same_any _ _ [⟨ef, et, .slice A1 exs.length c1, exs⟩] [⟨ef, et, .slice Ae exs.length ce, exs⟩] _ (HR1.out.below (below_new _ (Below.refl _ _))) HR2.out (by simp) (by simp)).mono ?_
  rintro e w7 ⟨rfl, B67⟩
  have hd1 : decide (([⟨ef, et, .slice A1 exs.length c1, exs⟩] : List Ed).map Ed.dg = ([⟨ef, et, .slice Ae exs.length ce, exs⟩] : List Ed).map Ed.dg) = true := by simp [Ed.dg]
  rw [hd1]
  have B37 := below_step B67 (below_new (.cells #[.int .i64 ef, .int .i64 et, .slice Ae exs.length ce] 28) HB35.out)
  have h7 : w7.heap[w1.heap.size]? = some (.cells #[.int .i64 ef, .int .i64 et, .slice A1 exs.length c1] 28 (0, 0)) := by
    have hlt := (Array.getElem?_eq_some_iff.1 H4.out).1
    rw [B67.block _ (by simp; omega), Below.heap_alloc _ _ _ (by simp; omega), Below.heap_alloc _ _ _ hlt]
    exact H4.out
  have q0 := cell_of h7 0 rfl
  have q1 := cell_of h7 1 rfl
  have q2 := cell_of h7 2 rfl
  have HB37 := Lib.hid B37
  have ob7 := Lib.hid (HOB3.out.kept (w' := w7) (fun q hq => B37.block q (HOB3.out.block q hq).2))
  clear B37 B67 h7 y0 y1 y2 z0 z1 z2 hd1
  go_wp2_with fail
  refine (over_ob ob7.out).mono ?_
  rintro e w8 ⟨rfl, u8⟩
  have U8 := Lib.hid u8
  clear u8 q0 q1 q2
  go_wp2
  go_ret
  exact ⟨rfl, take_fin HD.out.lo ((below_new _ (Below.refl _ w)).mono HD.out.sz) (by have := HD.out.sz; simp; omega) HOB.out HNS.out HU.out HNO.out HB12.out HRS.out HB37.out U8.out⟩
end Go.Proofs.Ytddndmhjkjanlaa
