/- large, among: what the laws ask of the calls and of what was sent. Condition: slices as their types say. -/
import Derived.Test.YtddndmhjkjanlaaOe
namespace Go.Proofs.Ytddndmhjkjanlaa
open Go.RowKit Go.Shelf

theorem RA.below {w w' : World} {v : Value} {l : List Ac} (h : RA w v l) (hb : Below w.heap.size w w') : RA w' v l := by
  obtain ⟨A, c, rfl, hc⟩ := h
  refine ⟨A, c, rfl, fun h0 => ?_⟩
  obtain ⟨g, o, e, hc⟩ := hc h0
  refine ⟨g, o, e, fun j hj => ?_⟩
  obtain ⟨h1, h2, h3, h4, h5, h6, h7, h8⟩ := hc j hj
  exact ⟨(hb.cell (World.block_lt_of_cell? w _ h1)).trans h1, (hb.cell (World.block_lt_of_cell? w _ h2)).trans h2, (hb.cell (World.block_lt_of_cell? w _ h3)).trans h3, (hb.cell (World.block_lt_of_cell? w _ h4)).trans h4,
    (hb.cell (World.block_lt_of_cell? w _ h5)).trans h5, (hb.cell (World.block_lt_of_cell? w _ h6)).trans h6, (hb.cell (World.block_lt_of_cell? w _ h7)).trans h7, h8.below hb⟩
theorem RA.addr {w : World} {A : Option Addr} {n c : Nat} {l : List Ac} (h : RA w (.slice A n c) l) (h0 : l ≠ []) : ∃ g o, A = some ⟨g, o, none⟩ := by
  obtain ⟨A', c', e, hc⟩ := h
  injection e with e1 e2 e3
  obtain ⟨g, o, e4, _⟩ := hc h0
  exact ⟨g, o, e1.trans e4⟩
theorem RA.atE {w : World} {g o : Nat} {n c : Nat} {l : List Ac} (h : RA w (.slice (some ⟨g, o, none⟩) n c) l) (j : Nat) (hj : j < l.length) : ∃ d, l[j]? = some d ∧
    w.cell? ⟨g, o + j * 7, none⟩ = some (.int .i64 d.kind) ∧ w.cell? ⟨g, o + j * 7 + 1, none⟩ = some (.int .i64 d.i) ∧ w.cell? ⟨g, o + j * 7 + 2, none⟩ = some (.int .i64 d.k) ∧ w.cell? ⟨g, o + j * 7 + 3, none⟩ = some (.bool d.is) ∧
    w.cell? ⟨g, o + j * 7 + 4, none⟩ = some (.int .i64 d.x.f) ∧ w.cell? ⟨g, o + j * 7 + 5, none⟩ = some (.int .i64 d.x.t) ∧ w.cell? ⟨g, o + j * 7 + 6, none⟩ = some d.x.v ∧ RB w d.x.v d.x.xs := by
  obtain ⟨A, c', e, hc⟩ := h
  injection e with e1 e2 e3
  obtain ⟨g', o', e4, hc⟩ := hc (fun e => by rw [e] at hj; simp at hj)
  rw [e4] at e1
  injection e1 with e1
  injection e1 with e4 e5
  subst e4 e5
  exact ⟨_, List.getElem?_eq_getElem hj, hc j hj⟩
theorem RA.bytes {w : World} {v : Value} {l : List Ac} (h : RA w v l) : ∀ d ∈ l, RB w d.x.v d.x.xs := by
  intro d hd
  obtain ⟨A, c, rfl, hc⟩ := h
  obtain ⟨g, o, _, hc⟩ := hc (fun e => by rw [e] at hd; simp at hd)
  obtain ⟨j, hj, rfl⟩ := List.getElem_of_mem hd
  exact (hc j hj).2.2.2.2.2.2.2

def LargeOK (l : List Ac) (b : Bool) : Prop := b = false → l.length ≤ 60 ∧ ∀ d ∈ l, d.x.xs.length ≤ 8000
def LargePost (l : List Ac) (w : World) (e : Ending) (w' : World) : Prop := ∃ b : Bool, e = .returned (.bool b) ∧ LargeOK l b ∧ w = w'
set_option maxRecDepth 100000 in
set_option maxHeartbeats 2000000 in
theorem large_any (A : Option Addr) (c : Nat) (l : List Ac) (w : World) (hl' : l.length ≤ 140737488351232) (hRA : RA w (.slice A l.length c) l) (hin : ∀ d ∈ l, d.In) :
    Calls Try.prog 25 #[.slice A l.length c] w (LargePost l w) := by
  have hIn := Lib.hid hin; have HRA := Lib.hid hRA
  clear hin hRA
  go_enter Try.func25, Try.ntmps25
  go_wp2
  go_loop [3, 4] (fun s p => ∃ (j : Nat) (s0 : Int), p = .int .i64 (j : Int) ∧ s = .int .i64 s0 ∧ j ≤ l.length ∧ j ≤ 61 ∧ 0 ≤ s0 ∧ s0 ≤ j * 140737488351232 ∧ (∀ d ∈ l.take j, (d.x.xs.length : Int) ≤ s0)) (fun s p => 61 - (intOf p).toNat)
  case atStart => exact ⟨0, 0, rfl, rfl, by omega, by omega, by omega, by omega, fun d hd => by simp at hd⟩
  case round =>
    obtain ⟨j, s0, rfl, rfl, hj1, hj2, hs0, hs1, hd⟩ := hrel
    have HD := Lib.hid hd
    clear hd
    by_cases he : j < l.length ∧ j < 61
    · obtain ⟨he1, he2⟩ := he
      obtain ⟨ga, oa, rfl⟩ := HRA.out.addr (fun e => by rw [e] at he1; simp at he1)
      obtain ⟨d, hd, -, -, -, -, -, -, a6, -⟩ := HRA.out.atE j he1
      obtain ⟨Ax, cx, hv, hxl, hcx⟩ := (hIn.out d (List.mem_of_getElem? hd)).x.v
      rw [hv] at a6
      have a6' : w.cell? ⟨ga, oa + j * 7 + 4 + 2, none⟩ = some (.slice Ax d.x.xs.length cx) := a6
      have HXS := Lib.hid hd
      clear hv hd a6
      generalize hxs : d.x.xs = xs at *
      replace hxs := Lib.hid hxs
      go_wp2
      go_round
      case rel =>
        refine ⟨j + 1, s0 + xs.length, by simp, rfl, by omega, by omega, by omega, by omega, fun d' hd' => ?_⟩
        rw [List.take_succ_eq_append_getElem he1] at hd'
        rcases List.mem_append.1 hd' with hd' | hd'
        · have := HD.out d' hd'; omega
        · simp only [List.mem_singleton] at hd'
          have h2 := (List.getElem?_eq_some_iff.1 HXS.out).2
          rw [hd', h2, hxs.out]
          omega
      case measure => simp [intOf]; omega
    · by_cases hbig : 60 < l.length
      · by_cases hj : j < l.length
        · obtain rfl : j = 61 := by omega
          clear he
          go_wp2
          go_ret
          exact ⟨true, rfl, (fun e => by cases e), rfl⟩
        · obtain rfl : j = l.length := by omega
          clear he hj
          go_wp2
          go_ret
          exact ⟨true, rfl, (fun e => by cases e), rfl⟩
      · obtain rfl : j = l.length := by omega
        clear he
        by_cases hsum : 8000 < s0
        · go_wp2
          go_ret
          exact ⟨_, rfl, (fun e => by simp at e), rfl⟩
        · have hsmall := Lib.hid (show ∀ d ∈ l, d.x.xs.length ≤ 8000 from fun d hd => by
            have := HD.out d (by rw [List.take_length]; exact hd)
            omega)
          clear HD hs1 hj1 hj2
          go_wp2
          go_ret
          exact ⟨_, rfl, fun _ => ⟨by omega, hsmall.out⟩, rfl⟩

theorem sameBytes_is (v u : Value) (xs ys : List UInt8) (w : World) (hv : RB w v xs) (hu : RB w u ys) (b : Bool) (hb : decide (xs = ys) = b) :
    Calls Try.prog 35 #[v, u] w fun e w' => e = .returned (.bool b) ∧ w' = w :=
  (sameBytes_any v u xs ys w hv hu).mono fun e w' he => ⟨by rw [he.1, hb], he.2.symm⟩
/-- Is it one of those that were sent, but for its bits? -/
def mt (turned : Bool) (s : Ed) (d : Dg) : Prop := s.f = d.1 ∧ s.t = d.2.1 ∧ (s.xs = d.2.2 ∨ (turned = true ∧ s.xs.length = d.2.2.length))

set_option maxRecDepth 100000 in
set_option maxHeartbeats 4000000 in
theorem among_any (v : Value) (l : List Ed) (f t : Int) (B : Option Addr) (c : Nat) (xs : List UInt8) (turned : Bool) (w : World) (hv : RD w v l) (hx : RB w (.slice B xs.length c) xs) (hl : l.length ≤ 1000000) (hxs : xs.length ≤ 1000000) (hls : ∀ s ∈ l, s.xs.length ≤ 1000000) (hex : ∃ s ∈ l, mt turned s (f, t, xs)) :
    Calls Try.prog 30 #[v, .agg #[.int .i64 f, .int .i64 t, .slice B xs.length c], .bool turned] w fun e w' => e = .returned (.bool true) ∧ Below w.heap.size w w' := by
  obtain ⟨A, c', rfl⟩ : ∃ A c, v = .slice A l.length c := ⟨_, _, hv.choose_spec.choose_spec.1⟩
  have HV := Lib.hid hv; have HX := Lib.hid hx; have HEX := Lib.hid hex; have HLS := Lib.hid hls
  clear hv hx hex hls
  go_enter Try.func30, Try.ntmps30
  go_wp2
  have hb0 : Below w.heap.size w (w.alloc (.cells #[.int .i64 f, .int .i64 t, .slice B xs.length c] 28)) := below_new _ (Below.refl _ _)
  have hX := heap_alloc_new w (.cells #[.int .i64 f, .int .i64 t, .slice B xs.length c] 28)
  generalize w.alloc (.cells #[.int .i64 f, .int .i64 t, .slice B xs.length c] 28) = W at *
  have x0 : W.cell? ⟨w.heap.size, 0, none⟩ = some (.int .i64 f) := cell_of hX 0 rfl
  have x1 : W.cell? ⟨w.heap.size, 1, none⟩ = some (.int .i64 t) := cell_of hX 1 rfl
  have x2 : W.cell? ⟨w.heap.size, 2, none⟩ = some (.slice B xs.length c) := cell_of hX 2 rfl
  have hX' := Lib.hid (World.block_lt_of_cell? W _ x0)
  have HB := Lib.hid hb0
  clear hb0 hX
  go_loopw [7] (fun p wr => ∃ (j : Nat), p = .int .i64 (j : Int) ∧ j ≤ l.length ∧ (∀ k s, k < j → l[k]? = some s → ¬ mt turned s (f, t, xs)) ∧ Below W.heap.size W wr) (fun p wr => l.length - (intOf p).toNat)
  case atStart => exact ⟨0, rfl, by omega, fun k s hk => by omega, Below.refl _ _⟩
  case round =>
    obtain ⟨j, rfl, hj, hno, hBr⟩ := hrel
    have hlW := hX'.out
    replace x0 := (hBr.cell (p := ⟨w.heap.size, 0, none⟩) hlW).trans x0
    replace x1 := (hBr.cell (p := ⟨w.heap.size, 1, none⟩) hlW).trans x1
    replace x2 := (hBr.cell (p := ⟨w.heap.size, 2, none⟩) hlW).trans x2
    have HBr := Lib.hid hBr
    have HB' := Lib.hid (below_step hBr HB.out)
    clear hBr hlW
    have HNO := Lib.hid hno
    clear hno
    by_cases hjl : j < l.length
    · obtain ⟨ga, oa, rfl⟩ := HV.out.addr (fun e => by rw [e] at hjl; simp at hjl)
      obtain ⟨⟨sf, st, sv, sxs⟩, hd, a0, a1, a2, arb⟩ := (HV.out.below HB'.out).atE j hjl
      dsimp only [] at a0 a1 a2 arb
      obtain ⟨As, cs, rfl, -⟩ := id arb
      have hsl : sxs.length ≤ 1000000 := HLS.out _ (List.mem_of_getElem? hd)
      have HD := Lib.hid hd; have ARB := Lib.hid arb
      have hxr := Lib.hid (HX.out.below HB'.out)
      clear hd arb
      have hgo : ¬ mt turned ⟨sf, st, .slice As sxs.length cs, sxs⟩ (f, t, xs) → ∀ k s, k < j + 1 → l[k]? = some s → ¬ mt turned s (f, t, xs) := fun hm k s hk hs => by
        by_cases h : k < j
        · exact HNO.out k s h hs
        · obtain rfl : k = j := by omega
          rw [HD.out] at hs
          injection hs with hs
          rw [← hs]; exact hm
      have HGO := Lib.hid hgo
      clear hgo
      by_cases h0 : sxs = xs
      · have e0 : decide (sxs = xs) = true := by simp [h0]
        have H0 := Lib.hid h0; have E0 := Lib.hid e0
        clear h0 e0
        go_wp2
        go_quiet (exact Calls.quiet_of_same (sameBytes_is (.slice As sxs.length cs) (.slice B xs.length c) sxs xs _ (ARB.out.drewN _) (hxr.out.drewN _) true E0.out))
        by_cases hf : sf = f
        · by_cases ht : st = t
          · have f1 : (sf == f) = true := by simp [hf]
            have f2 : (st == t) = true := by simp [ht]
            clear hf ht
            go_wp2
            go_quiet (fail)
            go_wp2
            go_ret
            exact ⟨rfl, below_drewN (below_drewN HB'.out _) _⟩
          · have f1 : (sf == f) = true := by simp [hf]
            have f2 : (st == t) = false := by simp [ht]
            have hno2 := Lib.hid (HGO.out (fun h => ht h.2.1))
            clear hf ht
            go_wp2
            go_quiet (fail)
            go_wp2
            go_roundw
            case rel => exact ⟨j + 1, by simp, by omega, hno2.out, below_drewN HBr.out _⟩
            case measure => simp [intOf]; omega
        · have f1 : (sf == f) = false := by simp [hf]
          have hno2 := Lib.hid (HGO.out (fun h => hf h.1))
          clear hf
          go_wp2
          go_quiet (fail)
          go_wp2
          go_roundw
          case rel => exact ⟨j + 1, by simp, by omega, hno2.out, below_drewN HBr.out _⟩
          case measure => simp [intOf]; omega
      · have e0 : decide (sxs = xs) = false := by simp [h0]
        have H0 := Lib.hid h0; have E0 := Lib.hid e0
        clear h0 e0
        cases turned
        · go_wp2
          go_quiet (exact Calls.quiet_of_same (sameBytes_is (.slice As sxs.length cs) (.slice B xs.length c) sxs xs _ (ARB.out.drewN _) (hxr.out.drewN _) false E0.out))
          by_cases hf : sf = f
          · by_cases ht : st = t
            · have f1 : (sf == f) = true := by simp [hf]
              have f2 : (st == t) = true := by simp [ht]
              have hno2 := Lib.hid (HGO.out (fun h => h.2.2.elim H0.out (fun h => by cases h.1)))
              clear hf ht
              go_wp2
              go_quiet (fail)
              go_wp2
              go_roundw
              case rel => exact ⟨j + 1, by simp, by omega, hno2.out, below_drewN HBr.out _⟩
              case measure => simp [intOf]; omega
            · have f1 : (sf == f) = true := by simp [hf]
              have f2 : (st == t) = false := by simp [ht]
              have hno2 := Lib.hid (HGO.out (fun h => ht h.2.1))
              clear hf ht
              go_wp2
              go_quiet (fail)
              go_wp2
              go_roundw
              case rel => exact ⟨j + 1, by simp, by omega, hno2.out, below_drewN HBr.out _⟩
              case measure => simp [intOf]; omega
          · have f1 : (sf == f) = false := by simp [hf]
            have hno2 := Lib.hid (HGO.out (fun h => hf h.1))
            clear hf
            go_wp2
            go_quiet (fail)
            go_wp2
            go_roundw
            case rel => exact ⟨j + 1, by simp, by omega, hno2.out, below_drewN HBr.out _⟩
            case measure => simp [intOf]; omega
        · by_cases h1 : sxs.length = xs.length
          · have e1 : ((sxs.length : Int) == (xs.length : Int)) = true := by simp [h1]
            clear h1
            go_wp2
            go_quiet (exact Calls.quiet_of_same (sameBytes_is (.slice As sxs.length cs) (.slice B xs.length c) sxs xs _ (ARB.out.drewN _) (hxr.out.drewN _) false E0.out))
            by_cases hf : sf = f
            · by_cases ht : st = t
              · have f1 : (sf == f) = true := by simp [hf]
                have f2 : (st == t) = true := by simp [ht]
                clear hf ht
                go_wp2
                go_quiet (fail)
                go_wp2
                go_ret
                exact ⟨rfl, below_drewN (below_drewN HB'.out _) _⟩
              · have f1 : (sf == f) = true := by simp [hf]
                have f2 : (st == t) = false := by simp [ht]
                have hno2 := Lib.hid (HGO.out (fun h => ht h.2.1))
                clear hf ht
                go_wp2
                go_quiet (fail)
                go_wp2
                go_roundw
                case rel => exact ⟨j + 1, by simp, by omega, hno2.out, below_drewN HBr.out _⟩
                case measure => simp [intOf]; omega
            · have f1 : (sf == f) = false := by simp [hf]
              have hno2 := Lib.hid (HGO.out (fun h => hf h.1))
              clear hf
              go_wp2
              go_quiet (fail)
              go_wp2
              go_roundw
              case rel => exact ⟨j + 1, by simp, by omega, hno2.out, below_drewN HBr.out _⟩
              case measure => simp [intOf]; omega
          · have e1 : ((sxs.length : Int) == (xs.length : Int)) = false := by simp; omega
            have H1 := Lib.hid h1
            clear h1
            go_wp2
            go_quiet (exact Calls.quiet_of_same (sameBytes_is (.slice As sxs.length cs) (.slice B xs.length c) sxs xs _ (ARB.out.drewN _) (hxr.out.drewN _) false E0.out))
            by_cases hf : sf = f
            · by_cases ht : st = t
              · have f1 : (sf == f) = true := by simp [hf]
                have f2 : (st == t) = true := by simp [ht]
                have hno2 := Lib.hid (HGO.out (fun h => h.2.2.elim H0.out (fun h => H1.out h.2)))
                clear hf ht
                go_wp2
                go_quiet (fail)
                go_wp2
                go_roundw
                case rel => exact ⟨j + 1, by simp, by omega, hno2.out, below_drewN HBr.out _⟩
                case measure => simp [intOf]; omega
              · have f1 : (sf == f) = true := by simp [hf]
                have f2 : (st == t) = false := by simp [ht]
                have hno2 := Lib.hid (HGO.out (fun h => ht h.2.1))
                clear hf ht
                go_wp2
                go_quiet (fail)
                go_wp2
                go_roundw
                case rel => exact ⟨j + 1, by simp, by omega, hno2.out, below_drewN HBr.out _⟩
                case measure => simp [intOf]; omega
            · have f1 : (sf == f) = false := by simp [hf]
              have hno2 := Lib.hid (HGO.out (fun h => hf h.1))
              clear hf
              go_wp2
              go_quiet (fail)
              go_wp2
              go_roundw
              case rel => exact ⟨j + 1, by simp, by omega, hno2.out, below_drewN HBr.out _⟩
              case measure => simp [intOf]; omega
    · obtain rfl : j = l.length := by omega
      obtain ⟨s, hs, hm⟩ := HEX.out
      obtain ⟨k, hk, rfl⟩ := List.getElem_of_mem hs
      exact (HNO.out k _ hk (List.getElem?_eq_getElem hk) hm).elim
end Go.Proofs.Ytddndmhjkjanlaa
