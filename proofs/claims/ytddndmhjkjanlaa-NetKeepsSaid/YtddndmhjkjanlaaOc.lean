/- NetOrder: the walk. Condition: the arguments are as their types say. -/
import Derived.Test.YtddndmhjkjanlaaOb
namespace Go.Proofs.Ytddndmhjkjanlaa
open Go.RowKit Go.Shelf

def wantL (l : List Ed) : List Ed := l.filter (fun d => okD d.dg)
theorem RD.of_own {w : World} {base : Nat} {A : Option Addr} {c : Nat} {l : List Ed} (h : w.ownsRow base 28 3 (.slice A l.length c) l.length (cellsE l)) (hb : ∀ d ∈ l, RB w d.v d.xs) : RD w (.slice A l.length c) l := by
  rcases h.2 with ⟨e, h0⟩ | ⟨g, cap, cur, e, _, hh, _, _, _, hr⟩
  · obtain rfl := List.eq_nil_of_length_eq_zero h0
    exact ⟨A, c, rfl, fun h => (h rfl).elim⟩
  · injection e with e1 e2 e3
    subst e1 e3
    exact RD.of_row hh hr hb
theorem RD.bytes {w : World} {v : Value} {l : List Ed} (h : RD w v l) : ∀ d ∈ l, RB w d.v d.xs := by
  intro d hd
  obtain ⟨A, c, rfl, hc⟩ := h
  obtain ⟨g, o, _, hc⟩ := hc (fun e => by rw [e] at hd; simp at hd)
  obtain ⟨j, hj, rfl⟩ := List.getElem_of_mem hd
  exact (hc j hj).2.2.2
theorem wantL_mem {l : List Ed} {d : Ed} (h : d ∈ wantL l) : d ∈ l := (List.mem_filter.1 h).1
/-- The net behind an append onto a row that is kept. -/
theorem NS.grown {w w' : World} {bn base : Nat} {M : St} {Kp : List Nat} {row : Option Nat} {g : Nat} (h : NS w bn M base (row.toList ++ Kp)) (hg : w.grownBy w' row) (hg2 : row = some g ∨ g = w.heap.size) (hlt : g < w'.heap.size) : NS w' bn M base (g :: Kp) := by
  obtain ⟨bm, L, h1, h2, h3⟩ := h.net
  have hu : Upd (fun k => row = some k) w w' := ⟨hg.os, hg.tape, hg.output, hg.size, fun k hk hn => hg.block k hk (fun e => hn e.symm)⟩
  refine ⟨h.ok, fun k hk => ?_, Nat.le_trans h.bound hg.size, bm, L, h1, h2.upd hu (fun k hk e => (h3 k hk).2 (by simp [e])), fun k hk => ⟨(h3 k hk).1, fun e => ?_⟩⟩
  · rcases List.mem_cons.1 hk with rfl | hk
    · exact hlt
    · exact Nat.lt_of_lt_of_le (h.lt k (by simp [hk])) hg.size
  · rcases List.mem_cons.1 e with rfl | e
    · rcases hg2 with hg2 | rfl
      · exact (h3 k hk).2 (by simp [hg2])
      · have := h2.lt w.heap.size hk; omega
    · exact (h3 k hk).2 (by simp [e])
theorem row_far {w w' : World} {base b e sz n : Nat} {v : Value} {xs : List Value} (h : w.ownsRow b e sz v n xs) (u : Upd (Far base v.ownBlock.toList) w w') : w'.ownsRow b e sz v n xs :=
  ownsRow_kept h (fun g cs t fr hg hh => u.block g (Array.getElem?_eq_some_iff.1 hh).1 (fun hf => hf.2 (by simp [hg])))
theorem row_on {w w' : World} {b e sz n : Nat} {v : Value} {xs : List Value} (h : w.ownsRow b e sz v n xs) (u : Below w.heap.size w w') : w'.ownsRow b e sz v n xs :=
  ownsRow_kept h (fun g cs t fr hg hh => u.block g (Array.getElem?_eq_some_iff.1 hh).1)
theorem wantL_succ (l : List Ed) (j : Nat) (hj : j < l.length) : wantL (l.take (j + 1)) = wantL (l.take j) ++ if okD l[j].dg then [l[j]] else [] := by
  unfold wantL
  rw [List.take_succ_eq_append_getElem hj, List.filter_append]
  congr 1
  cases h : okD l[j].dg <;> simp [h]

set_option maxRecDepth 100000 in
set_option maxHeartbeats 2000000 in
theorem order_any (A : Option Addr) (c : Nat) (l : List Ed) (i k bit : Int) (w : World) (hl' : l.length ≤ 140737488351232) (hRD : RD w (.slice A l.length c) l) (hin : ∀ d ∈ l, d.In) (hi : -9223372036854775808 ≤ i ∧ i ≤ 9223372036854775807) (hk : -9223372036854775808 ≤ k ∧ k ≤ 9223372036854775807) (hb : -9223372036854775808 ≤ bit ∧ bit ≤ 9223372036854775807) :
    Calls Try.prog 3 #[.slice A l.length c, .int .i64 i, .int .i64 k, .int .i64 bit] w fun e w' => e = .returned (.bool true) ∧ Below w.heap.size w w' := by
  have hI := Lib.hid hi; have hK := Lib.hid hk; have hB := Lib.hid hb; have hIn := Lib.hid hin; have HRD := Lib.hid hRD
  clear hi hk hb hin hRD
  go_enter Try.func3, Try.ntmps3
  go_wp2_with fail
  refine (awake_any _).mono ?_
  rintro e w1 ⟨rfl, b1⟩
  replace b1 := Lib.hid b1
  go_wp2_with fail
  refine (new_ns _).mono ?_
  rintro e w2 ⟨rfl, h2, b2⟩
  have h2 := Lib.hid (NS.old b1.out.size h2); have b2 := Lib.hid (below_step b2 b1.out)
  clear b1
  generalize w1.heap.size + 1 = bn at *
  go_wp2_with fail
  have HRD2 := Lib.hid (HRD.out.below b2.out)
  go_loop [11, 12] (fun s p => ∃ (j : Nat) (s0 : Int), p = .int .i64 (j : Int) ∧ s = .int .i64 s0 ∧ j ≤ l.length ∧ j ≤ 41 ∧ 0 ≤ s0 ∧ s0 ≤ j * 140737488351232 ∧ (∀ d ∈ l.take j, (d.xs.length : Int) ≤ s0)) (fun s p => 41 - (intOf p).toNat)
  case atStart => exact ⟨0, 0, rfl, rfl, by omega, by omega, by omega, by omega, fun d hd => by simp at hd⟩
  case round =>
    obtain ⟨j, s0, rfl, rfl, hj1, hj2, hs0, hs1, hd⟩ := hrel
    have HD := Lib.hid hd
    clear hd
    by_cases he : j < l.length ∧ j < 41
    · obtain ⟨he1, he2⟩ := he
      obtain ⟨ga, oa, rfl⟩ := HRD2.out.addr (fun e => by rw [e] at he1; simp at he1)
      have hE : ∀ d ∈ l, d.In := hIn.out
      obtain ⟨xs, xv, hxs, hx2⟩ : ∃ xs xv, l[j].xs = xs ∧ w2.cell? ⟨ga, oa + j * 3 + 2, none⟩ = some xv ∧ ∃ Ax cx, xv = .slice Ax xs.length cx ∧ xs.length ≤ 140737488351232 := by
        obtain ⟨A', c', e, hc⟩ := HRD2.out
        injection e with e1 e2 e3
        obtain ⟨g', o', e4, hc⟩ := hc (fun e => by rw [e] at he1; simp at he1)
        rw [e4] at e1
        injection e1 with e1
        injection e1 with e5 e6
        subst e5 e6
        obtain ⟨_, _, h3, h4⟩ := hc j he1
        obtain ⟨Ax, cx, h5, h6, h7⟩ := (hE l[j] (by simp)).v
        exact ⟨_, _, rfl, h3, Ax, cx, h5, by omega⟩
      obtain ⟨hx2, Ax, cx, rfl, hxl⟩ := hx2
      have HXS := Lib.hid hxs
      clear hE hxs
      go_wp2
      go_round
      case rel =>
        refine ⟨j + 1, s0 + xs.length, by simp, rfl, by omega, by omega, by omega, by omega, fun d hd => ?_⟩
        rw [List.take_succ_eq_append_getElem he1] at hd
        rcases List.mem_append.1 hd with hd | hd
        · have := HD.out d hd; omega
        · simp only [List.mem_singleton] at hd
          subst hd
          rw [HXS.out]
          omega
      case measure => simp [intOf]; omega
    · by_cases hbig : 40 < l.length
      · by_cases hj : j < l.length
        · obtain rfl : j = 41 := by omega
          clear he
          go_wp2
          go_ret
          exact ⟨rfl, b2.out⟩
        · obtain rfl : j = l.length := by omega
          clear he hj
          go_wp2
          go_ret
          exact ⟨rfl, b2.out⟩
      · obtain rfl : j = l.length := by omega
        clear he
        by_cases hsum : 3000 < s0
        · go_wp2
          go_ret
          exact ⟨rfl, b2.out⟩
        · have hsmall := Lib.hid (show ∀ d ∈ l, d.xs.length ≤ 3000 from fun d hd => by
            have := HD.out d (by rw [List.take_length]; exact hd)
            omega)
          clear HD hs1 hj1 hj2
          go_wp2
          go_loopw [13, 14] (fun s p wr => ∃ (j : Nat) (A' : Option Addr) (c' : Nat), p = .int .i64 (j : Int) ∧ j ≤ l.length ∧ s = .slice A' (wantL (l.take j)).length c' ∧
              wr.ownsRow w.heap.size 28 3 (.slice A' (wantL (l.take j)).length c') (wantL (l.take j)).length (cellsE (wantL (l.take j))) ∧
              NS wr bn ⟨(wantL (l.take j)).map Ed.dg, [], 0⟩ w.heap.size ((Value.slice A' (wantL (l.take j)).length c').ownBlock.toList) ∧ Below w.heap.size w wr) (fun s p wr => l.length - (intOf p).toNat)
          case atStart => exact ⟨0, none, 0, rfl, by omega, rfl, ⟨rfl, .inl ⟨rfl, rfl⟩⟩, h2.out, b2.out⟩
          case round =>
            obtain ⟨j, A', c', rfl, hj, rfl, hrow, hns, hB3⟩ := hrel
            generalize hwn : wantL (l.take j) = wn at *
            have hwl : wn.length ≤ 40 := by
              rw [← hwn]
              refine Nat.le_trans (List.length_filter_le _ _) ?_
              simp; omega
            have HWN := Lib.hid hwn
            have HROW := Lib.hid hrow
            have HNS := Lib.hid hns
            have HB3 := Lib.hid hB3
            clear hwn hrow hns hB3
            by_cases he : j < l.length
            · obtain ⟨ga, oa, rfl⟩ := HRD2.out.addr (fun e => by rw [e] at he; simp at he)
              obtain ⟨⟨f, t, v, xs⟩, hd, a0, a1, a2, arb⟩ := (HRD.out.below HB3.out).atE j he
              dsimp only [] at a0 a1 a2 arb
              obtain ⟨Ax, cx, rfl, harb⟩ := id arb
              have hga : Hid (ga < w.heap.size) := Lib.hid (by
                obtain ⟨_, _, b0, _⟩ := HRD.out.atE j he
                exact World.block_lt_of_cell? w _ b0)
              have hE := (hIn.out _ (List.mem_of_getElem? hd)).v
              replace arb := Lib.hid arb
              have hsm := hsmall.out _ (List.mem_of_getElem? hd)
              have hwe := wantL_succ l j he
              rw [show l[j] = ⟨f, t, .slice Ax xs.length cx, xs⟩ from (List.getElem?_eq_some_iff.1 hd).2, HWN.out] at hwe
              replace hwe := Lib.hid hwe
              clear hd hE harb
              dsimp only [] at hsm
              go_wp2_with fail
              rcases send_ord (wn.map Ed.dg) (f, t, xs) (by simp; omega) with ⟨hok, hM⟩ | ⟨hok, r, hr0, hM⟩
              · refine (HNS.out.send' (f, t, xs) _ arb.out (by simp) hM).mono ?_
                rintro e w4 ⟨rfl, h4, u4⟩
                replace h4 := Lib.hid h4; have b4 := Lib.hid (HB3.out.trans (u4.far HB3.out.size))
                have hrow4 := ownsRow_kept HROW.out (fun g cs t fr hg hh => u4.block g (Array.getElem?_eq_some_iff.1 hh).1 (fun hf => hf.2 (by simp [hg])))
                have hbg : w.heap.size ≤ wr.heap.size := HB3.out.size
                have a0' : w4.cell? ⟨ga, oa + j * 3, none⟩ = some (.int .i64 f) := (b4.out.cell (p := ⟨ga, oa + j * 3, none⟩) hga.out).trans ((HB3.out.cell (p := ⟨ga, oa + j * 3, none⟩) hga.out).symm.trans a0)
                have a1' : w4.cell? ⟨ga, oa + j * 3 + 1, none⟩ = some (.int .i64 t) := (b4.out.cell (p := ⟨ga, oa + j * 3 + 1, none⟩) hga.out).trans ((HB3.out.cell (p := ⟨ga, oa + j * 3 + 1, none⟩) hga.out).symm.trans a1)
                have a2' : w4.cell? ⟨ga, oa + j * 3 + 2, none⟩ = some (.slice Ax xs.length cx) := (b4.out.cell (p := ⟨ga, oa + j * 3 + 2, none⟩) hga.out).trans ((HB3.out.cell (p := ⟨ga, oa + j * 3 + 2, none⟩) hga.out).symm.trans a2)
                have hwe2 : wantL (l.take (j + 1)) = wn ++ [⟨f, t, .slice Ax xs.length cx, xs⟩] := by rw [hwe.out]; simp [Ed.dg, hok]
                replace hwe2 := Lib.hid hwe2
                obtain ⟨i0, hi, hz0, hz1, hz2⟩ := info_parts info28
                have hrow5 := ownsRow_kept (w' := w4.alloc (.cells #[.int .i64 f, .int .i64 t, .slice Ax xs.length cx] 28)) hrow4 (fun g cs t fr hg hh => Below.heap_alloc _ _ _ (Array.getElem?_eq_some_iff.1 hh).1)
                have hnews : ∀ j u, ([.int .i64 f, .int .i64 t, .slice Ax xs.length cx] : List Value)[j]? = some u → (w4.alloc (.cells #[.int .i64 f, .int .i64 t, .slice Ax xs.length cx] 28)).cell? ((⟨w4.heap.size, 0, none⟩ : Addr).add j) = some u :=
                  World.news_of_block (cs := #[.int .i64 f, .int .i64 t, .slice Ax xs.length cx]) (heap_alloc_new w4 _)
                have HNW := Lib.hid hnews; have HR5 := Lib.hid hrow5
                have hh4 := Lib.hid (h4.out.below (below_new (.cells #[.int .i64 f, .int .i64 t, .slice Ax xs.length cx] 28) (Below.refl _ _)))
                have hb4 := b4.out.size
                have hsz5 : w.heap.size ≤ (w4.alloc (.cells #[.int .i64 f, .int .i64 t, .slice Ax xs.length cx] 28)).heap.size := by simp; omega
                have HSZ := Lib.hid hsz5
                clear hM hok u4 a0 a1 a2 hrow4 hrow5 hnews hsz5 hbg hb4
                go_wp2_with (refine wpList_append_lies _ rfl _ _ 22 rfl w.heap.size 28 i0 (.agg #[.int .i64 0, .int .i64 0, .slice none 0 0]) 3 40 Try.underlying22 hi hz0 hz1 hz2 rfl (by decide) (.slice A' wn.length c') wn.length (cellsE wn) (by rfl) HR5.out ⟨w4.heap.size, 0, none⟩ 1 1 [.int .i64 f, .int .i64 t, .slice Ax xs.length cx] (by rfl) rfl HNW.out (by simp [Value.oneCell']) (by decide) (by simp only [maxLen]; omega) (by omega) HSZ.out _ rfl ?_; intro g c5 w5 hown hgr hor hlt)
                have hbase : ∀ k, (Value.slice A' wn.length c').ownBlock = some k → w.heap.size ≤ k := fun k hk => by
                  rcases HR5.out.2 with ⟨e, _⟩ | ⟨g, cap, cur, e, h0, _⟩
                  · rw [e] at hk; simp [Value.ownBlock] at hk
                  · rw [e] at hk
                    simp only [Value.ownBlock, Option.some.injEq] at hk
                    subst hk
                    exact h0
                refine ⟨⟨j + 1, some ⟨g, 0, none⟩, c5, by simp, by omega, ?_⟩, by simp [intOf]; omega⟩
                rw [hwe2.out]
                refine ⟨by simp, by simpa [cellsE, Ed.cells] using hown, ?_, (below_new _ b4.out).grown hgr HSZ.out hbase⟩
                have := NS.grown (Kp := []) (by simpa using hh4.out) hgr hor hlt
                simpa [Value.ownBlock, Ed.dg] using this
              · refine (HNS.out.send' (f, t, xs) _ arb.out (by simp) hM).mono ?_
                rintro e w4 ⟨rfl, h4, u4⟩
                replace h4 := Lib.hid h4; have b4 := Lib.hid (HB3.out.trans (u4.far HB3.out.size))
                have hrow4 := Lib.hid (ownsRow_kept HROW.out (fun g cs t fr hg hh => u4.block g (Array.getElem?_eq_some_iff.1 hh).1 (fun hf => hf.2 (by simp [hg]))))
                have hr1 : (r == 0) = false := by simp [hr0]
                have hwe2 : wantL (l.take (j + 1)) = wn := by rw [hwe.out]; simp [Ed.dg, hok]
                replace hwe2 := Lib.hid hwe2
                clear hM hok hr0 u4
                go_wp2
                go_roundw
                case rel =>
                  refine ⟨j + 1, A', c', by simp, by omega, ?_⟩
                  rw [hwe2.out]
                  exact ⟨rfl, hrow4.out, h4.out, b4.out⟩
                case measure => simp [intOf]; omega
            · obtain rfl : j = l.length := by omega
              clear he
              rw [List.take_length] at HWN
              have hRDn : ∀ W', Below w.heap.size w W' → W'.ownsRow w.heap.size 28 3 (.slice A' wn.length c') wn.length (cellsE wn) → RD W' (.slice A' wn.length c') wn := fun W' hb hr =>
                RD.of_own hr (fun d hd => (HRD.out.bytes d (wantL_mem (by rw [HWN.out]; exact hd))).below hb)
              have HRDN := Lib.hid hRDn
              have hsm := Lib.hid (show ∀ d ∈ wn, d.xs.length ≤ 3000 from fun d hd => hsmall.out d (wantL_mem (by rw [HWN.out]; exact hd)))
              clear hRDn hsmall
              go_wp2_with fail
              refine HNS.out.waiting.mono ?_
              rintro e w6 ⟨A6, c6, l6, rfl, hl6, hr6, b6⟩
              have hl6l : l6.length = wn.length := by have := congrArg List.length hl6; simpa using this
              have hs6 : decide (l6.map Ed.dg = wn.map Ed.dg) = true := by rw [hl6]; simp
              have HS6 := Lib.hid hs6; have HL6 := Lib.hid hl6l
              have hrd6 := Lib.hid hr6.rd
              have h6 := Lib.hid (HNS.out.below b6); have B6 := Lib.hid (below_step b6 HB3.out)
              have row6 := Lib.hid (ownsRow_kept HROW.out (fun g cs t fr hg hh => b6.block g (Array.getElem?_eq_some_iff.1 hh).1))
              clear hl6 hr6 b6 hs6 hl6l HNS HROW HB3
              go_wp2_with fail
              refine (same_any _ _ l6 wn _ hrd6.out (HRDN.out _ B6.out row6.out) (by have := HL6.out; omega) (by omega)).mono ?_
              rintro e w7 ⟨rfl, b7⟩
              rw [HS6.out]
              have h7 := Lib.hid (h6.out.below b7); have B7 := Lib.hid (below_step b7 B6.out)
              have row7 := Lib.hid (ownsRow_kept row6.out (fun g cs t fr hg hh => b7.block g (Array.getElem?_eq_some_iff.1 hh).1))
              clear b7 h6 B6 row6 hrd6
              by_cases hn0 : wn = []
              · subst hn0
                go_wp2_with fail
                refine (h7.out.first' 0 (r := -1) rfl).mono ?_
                rintro e w8 ⟨rfl, b8⟩
                have B8 := Lib.hid (below_step b8 B7.out)
                clear b8
                go_wp2
                go_ret
                exact ⟨rfl, B8.out⟩
              · have hnp : 0 < wn.length := List.length_pos_iff.2 hn0
                clear hn0
                obtain ⟨ia, hia, hial⟩ : ∃ ia : Nat, pick i (wn.length : Int) = (ia : Int) ∧ ia < wn.length := by
                  have := pick_range i (wn.length : Int) (by omega)
                  exact ⟨(pick i (wn.length : Int)).toNat, by omega, by omega⟩
                obtain ⟨ka, hka, hkal⟩ : ∃ ka : Nat, pick k (wn.length : Int) = (ka : Int) ∧ ka < wn.length := by
                  have := pick_range k (wn.length : Int) (by omega)
                  exact ⟨(pick k (wn.length : Int)).toNat, by omega, by omega⟩
                obtain ⟨l', hM1, hM2⟩ := swap_twice (wn.map Ed.dg) [] 0 ia ka (by simpa using hial) (by simpa using hkal)
                replace hia := Lib.hid hia; replace hka := Lib.hid hka; replace hM1 := Lib.hid hM1; replace hM2 := Lib.hid hM2
                go_wp2_with fail
                refine (pick_any i _ _ hI.out (by omega)).mono ?_
                rintro e w7' ⟨rfl, rfl⟩
                rw [hia.out]
                go_wp2_with fail
                refine (pick_any k _ _ hK.out (by omega)).mono ?_
                rintro e w7' ⟨rfl, rfl⟩
                rw [hka.out]
                go_wp2_with fail
                refine (h7.out.swap' (ia : Int) (ka : Int) hM1.out).mono ?_
                rintro e w8 ⟨rfl, h8, u8⟩
                have B8 := Lib.hid (B7.out.trans (u8.far B7.out.size)); replace h8 := Lib.hid h8; have row8 := Lib.hid (row_far row7.out u8)
                clear u8 h7 B7 row7
                go_wp2_with fail
                refine (h8.out.swap' (ka : Int) (ia : Int) hM2.out).mono ?_
                rintro e w9 ⟨rfl, h9, u9⟩
                have B9 := Lib.hid (B8.out.trans (u9.far B8.out.size)); replace h9 := Lib.hid h9; have row9 := Lib.hid (row_far row8.out u9)
                clear u9 h8 B8 row8 hM1 hM2 hka hkal hia
                obtain ⟨gw, ow, rfl⟩ := (HRDN.out _ B9.out row9.out).addr (List.ne_nil_of_length_pos hnp)
                obtain ⟨⟨f, t, v, xs⟩, hd, a0, a1, a2, arb⟩ := (HRDN.out _ B9.out row9.out).atE ia hial
                dsimp only [] at a0 a1 a2 arb
                obtain ⟨Ax, cx, rfl, -⟩ := id arb
                have hxs : xs.length ≤ 3000 := hsm.out _ (List.mem_of_getElem? hd)
                have hdg : (wn.map Ed.dg)[ia]? = some (f, t, xs) := by simp [hd, Ed.dg]
                replace hd := Lib.hid hd; replace hdg := Lib.hid hdg; replace arb := Lib.hid arb
                by_cases hx0 : xs.length = 0
                · go_wp2_with fail
                  obtain ⟨kk, hkk, hk1, hk2, ⟨e2, he2, ht2⟩, hk3⟩ := firstD_is (wn.map Ed.dg) ia (f, t, xs) hdg.out
                  dsimp only [] at hkk ht2 hk3
                  simp only [List.length_map] at hk2
                  replace hkk := Lib.hid hkk; replace hk3 := Lib.hid hk3; replace he2 := Lib.hid he2
                  refine (h9.out.first' t hkk.out).mono ?_
                  rintro e w12 ⟨rfl, b12⟩
                  have B12 := Lib.hid (below_step b12 B9.out); have h12 := Lib.hid (h9.out.below b12); have row12 := Lib.hid (row_on row9.out b12)
                  clear b12 h9 B9 row9 a0 a1 a2
                  obtain ⟨d3, hd3, q0, q1, q2, -⟩ := (HRDN.out _ B12.out row12.out).atE kk hk2
                  obtain ⟨d4, hd4, s0', s1, s2, -⟩ := (HRDN.out _ B12.out row12.out).atE ia hial
                  have hd3t : d3.t = t := by
                    have := he2.out
                    rw [List.getElem?_map, hd3] at this
                    injection this with this
                    rw [← ht2, ← this]; rfl
                  have hd4t : d4.t = t := by
                    have := hd.out
                    rw [hd4] at this
                    injection this with this
                    rw [this]
                  rw [hd3t] at q1
                  rw [hd4t] at s1
                  clear hd3 hd3t hd4 hd4t q0 q2 s0' s2 ht2 he2
                  go_wp2
                  go_quiet (fail)
                  go_wp2
                  go_loopw [17] (fun p wr => ∃ (j m : Nat), p = .int .i64 (j : Int) ∧ j ≤ kk ∧ wr = w12.drewN m) (fun p wr => kk - (intOf p).toNat)
                  case atStart => exact ⟨0, _, rfl, by omega, rfl⟩
                  case round =>
                    obtain ⟨j, m, rfl, hj, rfl⟩ := hrel
                    by_cases hjk : j < kk
                    · obtain ⟨d5, hd5, -, q1', -, -⟩ := (HRDN.out _ B12.out row12.out).atE j (by omega)
                      have hne : (d5.t == t) = false := by
                        have := hk3.out j d5.dg hjk (by simp [hd5])
                        simpa [Ed.dg] using this
                      clear hd5
                      go_wp2
                      go_quiet (fail)
                      go_wp2
                      go_roundw
                      case rel => exact ⟨j + 1, _, by simp, by omega, rfl⟩
                      case measure => simp [intOf]; omega
                    · obtain rfl : j = kk := by omega
                      clear hjk
                      go_wp2_with fail
                      have h13 := Lib.hid (h12.out.below (below_drewN (Below.refl _ _) m)); have B13 := Lib.hid (below_drewN B12.out m); have row13 := Lib.hid (row_on row12.out (below_drewN (Below.refl _ _) m))
                      clear h12 B12 row12
                      refine h13.out.waiting.mono ?_
                      rintro e w14 ⟨A14, c14, l14, rfl, hl14, hr14, b14⟩
                      have hl14l : l14.length = wn.length := by have := congrArg List.length hl14; simpa using this
                      have HS14 := Lib.hid (show decide (l14.map Ed.dg = wn.map Ed.dg) = true by rw [hl14]; simp)
                      have HL14 := Lib.hid hl14l
                      have hrd14 := Lib.hid hr14.rd
                      have B14 := Lib.hid (below_step b14 B13.out)
                      have row14 := Lib.hid (row_on row13.out b14)
                      clear hl14 hr14 b14 hl14l h13 B13 row13
                      go_wp2_with fail
                      refine (same_any _ _ l14 wn _ hrd14.out (HRDN.out _ B14.out row14.out) (by have := HL14.out; omega) (by omega)).mono ?_
                      rintro e w15 ⟨rfl, b15⟩
                      rw [HS14.out]
                      have B15 := Lib.hid (below_step b15 B14.out)
                      clear b15 B14 row14 hrd14
                      go_wp2
                      go_ret
                      exact ⟨rfl, B15.out⟩
                · have hx1 : 0 < xs.length := by omega
                  clear hx0
                  obtain ⟨pb, hpb, hpbl⟩ : ∃ pb : Nat, pick bit (8 * (xs.length : Int)) = (pb : Int) ∧ pb < 8 * xs.length := by
                    have := pick_range bit (8 * (xs.length : Int)) (by omega)
                    exact ⟨(pick bit (8 * (xs.length : Int))).toNat, by omega, by omega⟩
                  obtain ⟨l', hM1, hM2⟩ := turn_twice (wn.map Ed.dg) [] 0 ia pb (f, t, xs) hdg.out (by dsimp only []; omega)
                  replace hpb := Lib.hid hpb; replace hM1 := Lib.hid hM1; replace hM2 := Lib.hid hM2
                  go_wp2_with fail
                  refine (pick_any bit _ _ hB.out (by omega)).mono ?_
                  rintro e w9' ⟨rfl, rfl⟩
                  rw [hpb.out]
                  go_wp2_with fail
                  refine (h9.out.turn' (ia : Int) (pb : Int) (by omega) hM1.out).mono ?_
                  rintro e w10 ⟨rfl, h10, u10⟩
                  have B10 := Lib.hid (B9.out.trans (u10.far B9.out.size)); replace h10 := Lib.hid h10; have row10 := Lib.hid (row_far row9.out u10)
                  clear u10 h9 B9 row9 a0 a1 a2
                  go_wp2_with fail
                  refine (pick_any bit _ _ hB.out (by omega)).mono ?_
                  rintro e w9' ⟨rfl, rfl⟩
                  rw [hpb.out]
                  go_wp2_with fail
                  refine (h10.out.turn' (ia : Int) (pb : Int) (by omega) hM2.out).mono ?_
                  rintro e w11 ⟨rfl, h11, u11⟩
                  have B11 := Lib.hid (B10.out.trans (u11.far B10.out.size)); replace h11 := Lib.hid h11; have row11 := Lib.hid (row_far row10.out u11)
                  clear u11 h10 B10 row10 hM1 hM2
                  obtain ⟨d0, hd0, a0, a1, a2, -⟩ := (HRDN.out _ B11.out row11.out).atE ia hial
                  have hd0t : d0.t = t := by
                    have := hd.out
                    rw [hd0] at this
                    injection this with this
                    rw [this]
                  rw [hd0t] at a1
                  clear hd0 hd0t
                  go_wp2_with fail
                  obtain ⟨kk, hkk, hk1, hk2, ⟨e2, he2, ht2⟩, hk3⟩ := firstD_is (wn.map Ed.dg) ia (f, t, xs) hdg.out
                  dsimp only [] at hkk ht2 hk3
                  simp only [List.length_map] at hk2
                  replace hkk := Lib.hid hkk; replace hk3 := Lib.hid hk3; replace he2 := Lib.hid he2
                  refine (h11.out.first' t hkk.out).mono ?_
                  rintro e w12 ⟨rfl, b12⟩
                  have B12 := Lib.hid (below_step b12 B11.out); have h12 := Lib.hid (h11.out.below b12); have row12 := Lib.hid (row_on row11.out b12)
                  clear b12 h11 B11 row11 a0 a1 a2
                  obtain ⟨d3, hd3, q0, q1, q2, -⟩ := (HRDN.out _ B12.out row12.out).atE kk hk2
                  obtain ⟨d4, hd4, s0', s1, s2, -⟩ := (HRDN.out _ B12.out row12.out).atE ia hial
                  have hd3t : d3.t = t := by
                    have := he2.out
                    rw [List.getElem?_map, hd3] at this
                    injection this with this
                    rw [← ht2, ← this]; rfl
                  have hd4t : d4.t = t := by
                    have := hd.out
                    rw [hd4] at this
                    injection this with this
                    rw [this]
                  rw [hd3t] at q1
                  rw [hd4t] at s1
                  clear hd3 hd3t hd4 hd4t q0 q2 s0' s2 ht2 he2
                  go_wp2
                  go_quiet (fail)
                  go_wp2
                  go_loopw [17] (fun p wr => ∃ (j m : Nat), p = .int .i64 (j : Int) ∧ j ≤ kk ∧ wr = w12.drewN m) (fun p wr => kk - (intOf p).toNat)
                  case atStart => exact ⟨0, _, rfl, by omega, rfl⟩
                  case round =>
                    obtain ⟨j, m, rfl, hj, rfl⟩ := hrel
                    by_cases hjk : j < kk
                    · obtain ⟨d5, hd5, -, q1', -, -⟩ := (HRDN.out _ B12.out row12.out).atE j (by omega)
                      have hne : (d5.t == t) = false := by
                        have := hk3.out j d5.dg hjk (by simp [hd5])
                        simpa [Ed.dg] using this
                      clear hd5
                      go_wp2
                      go_quiet (fail)
                      go_wp2
                      go_roundw
                      case rel => exact ⟨j + 1, _, by simp, by omega, rfl⟩
                      case measure => simp [intOf]; omega
                    · obtain rfl : j = kk := by omega
                      clear hjk
                      go_wp2_with fail
                      have h13 := Lib.hid (h12.out.below (below_drewN (Below.refl _ _) m)); have B13 := Lib.hid (below_drewN B12.out m); have row13 := Lib.hid (row_on row12.out (below_drewN (Below.refl _ _) m))
                      clear h12 B12 row12
                      refine h13.out.waiting.mono ?_
                      rintro e w14 ⟨A14, c14, l14, rfl, hl14, hr14, b14⟩
                      have hl14l : l14.length = wn.length := by have := congrArg List.length hl14; simpa using this
                      have HS14 := Lib.hid (show decide (l14.map Ed.dg = wn.map Ed.dg) = true by rw [hl14]; simp)
                      have HL14 := Lib.hid hl14l
                      have hrd14 := Lib.hid hr14.rd
                      have B14 := Lib.hid (below_step b14 B13.out)
                      have row14 := Lib.hid (row_on row13.out b14)
                      clear hl14 hr14 b14 hl14l h13 B13 row13
                      go_wp2_with fail
                      refine (same_any _ _ l14 wn _ hrd14.out (HRDN.out _ B14.out row14.out) (by have := HL14.out; omega) (by omega)).mono ?_
                      rintro e w15 ⟨rfl, b15⟩
                      rw [HS14.out]
                      have B15 := Lib.hid (below_step b15 B14.out)
                      clear b15 B14 row14 hrd14
                      go_wp2
                      go_ret
                      exact ⟨rfl, B15.out⟩
end Go.Proofs.Ytddndmhjkjanlaa
