/- The document's net: Cut. Conditions: it holds what its word says. -/
import Derived.Test.YtddndmhjkjanlaaRj
namespace Go.Proofs.Ytddndmhjkjanlaa
open Go.RowKit Go.Shelf
variable {w : World} {r : Nat} {M : St} {Kp : List Nat}
attribute [local go_sem] egt74 eql74

theorem rcutc_arg1 (a b : Int) (is : Bool) (hf : endB a = false) (w : World) (r : Nat) : Calls Try.prog 45 #[.pointer (some ⟨r, 0, none⟩), .int .i64 a, .int .i64 b, .bool is] w fun e w' => e = .returned (.int .i64 2) ∧ w = w' := by
  go_enter Try.func45, Try.ntmps45
  go_wp2_with fail
  refine (rend_any a _).mono ?_
  rintro e w' ⟨rfl, rfl⟩
  rw [hf]
  go_wp2
  go_ret
  exact ⟨rfl, rfl⟩
theorem rcutc_arg2 (a b : Int) (is : Bool) (hf : endB a = true) (ht : endB b = false) (w : World) (r : Nat) : Calls Try.prog 45 #[.pointer (some ⟨r, 0, none⟩), .int .i64 a, .int .i64 b, .bool is] w fun e w' => e = .returned (.int .i64 2) ∧ w = w' := by
  go_enter Try.func45, Try.ntmps45
  go_wp2_with fail
  refine (rend_any a _).mono ?_
  rintro e w' ⟨rfl, rfl⟩
  rw [hf]
  go_wp2_with fail
  refine (rend_any b _).mono ?_
  rintro e w' ⟨rfl, rfl⟩
  rw [ht]
  go_wp2
  go_ret
  exact ⟨rfl, rfl⟩
theorem info74 : (Try.prog.info? 74).map (fun i => (i.zero, i.size, i.bytes)) = some (some (.agg #[.int .i64 0, .int .i64 0]), 2, 16) := by kernel_rfl
/-- The head gets other links. -/
theorem RNet.putK {W : World} (h : RNet W r M Kp) {base : Nat} {vK : Value} {M' : St} (hown : W.ownsRow base 74 2 vK M'.K.length (cellsK M'.K)) (hkl : M'.K.length ≤ 1000000) (Kp' : List Nat) (hsub : ∀ k ∈ Kp, k ∈ Kp')
    (hK : ∀ k, vK.ownBlock = some k → k ∈ Kp') (h1 : M'.l = M.l) (h3 : M'.lost = M.lost) (hok : M'.Ok) : RNet (W.setCell ⟨r, 1, none⟩ vK) r M' Kp' := by
  obtain ⟨vL0, vK0, l, g1, g2, g3, g4, g5, g6, g7, g8⟩ := h.mem
  have hd := heap_set g2 1 vK
  exact ⟨hok, hkl, hsub _ h.self, vL0, vK, l, by rw [h1]; exact g1, by rw [h3]; exact hd, ownsRow_put g3 g2 (by decide) 1 vK, ownsRow_lower (ownsRow_put hown g2 (by decide) 1 vK) (Nat.zero_le _), fun d hd => (g5 d hd).put g2 (by decide) 1 vK, fun k e => hsub _ (g6 k e), hK, fun d hd k e => hsub _ (g8 d hd k e)⟩
def kept (K : List (Int × Int)) (q : Int × Int) (j : Nat) : List (Int × Int) := (K.take j).filter (· != q)
theorem kept_succ {K : List (Int × Int)} {q x : Int × Int} {j : Nat} (h : K[j]? = some x) : kept K q (j + 1) = kept K q j ++ (if x = q then [] else [x]) := by
  unfold kept
  rw [List.take_add_one, h, List.filter_append]
  by_cases hx : x = q <;> simp [hx]
theorem kept_le (K : List (Int × Int)) (q : Int × Int) (j : Nat) : (kept K q j).length ≤ K.length := by
  unfold kept
  refine Nat.le_trans (List.length_filter_le _ _) ?_
  simp; omega
theorem cellsK_one (x : Int × Int) : cellsK [x] = [.int .i64 x.1, .int .i64 x.2] := rfl
theorem ownsRow_off {W : World} {base : Nat} {e sz n : Nat} {v : Value} {xs : List Value} (h : W.ownsRow base e sz v n xs) : ∀ k, v.ownBlock = some k → base ≤ k := fun k hk => (h.lt k hk).1

/-- What stands ready once a link is laid for an append. -/
structure LReady (w w2 : World) (r : Nat) (A' : Option Addr) (c' : Nat) (Kn : List (Int × Int)) (x : Int × Int) (cs : Array Value) : Prop where
  bw : Below w.heap.size w (w2.alloc (.cells #[.int .i64 x.1, .int .i64 x.2] 74))
  own : (w2.alloc (.cells #[.int .i64 x.1, .int .i64 x.2] 74)).ownsRow w.heap.size 74 2 (.slice A' Kn.length c') Kn.length (cellsK Kn)
  news : ∀ j u, ([.int .i64 x.1, .int .i64 x.2] : List Value)[j]? = some u → (w2.alloc (.cells #[.int .i64 x.1, .int .i64 x.2] 74)).cell? ((⟨w2.heap.size, 0, none⟩ : Addr).add j) = some u
  hd : (w2.alloc (.cells #[.int .i64 x.1, .int .i64 x.2] 74)).heap[r]? = some (.cells cs 50 (0, 0))
theorem links_ready {wr w2 : World} {A' : Option Addr} {c' : Nat} {Kn : List (Int × Int)} {cs : Array Value} (hrow : wr.ownsRow w.heap.size 74 2 (.slice A' Kn.length c') Kn.length (cellsK Kn)) (hB : Below w.heap.size w wr) (hb : Below wr.heap.size wr w2) (x : Int × Int)
    (hh : wr.heap[r]? = some (.cells cs 50 (0, 0))) : LReady w w2 r A' c' Kn x cs := by
  have b2 : Below wr.heap.size wr (w2.alloc (.cells #[.int .i64 x.1, .int .i64 x.2] 74)) := below_new _ hb
  exact ⟨below_step b2 hB, ownsRow_upd (S := fun _ => False) hrow (Upd.of_below b2) (fun _ _ h => h), World.news_of_block (cs := #[.int .i64 x.1, .int .i64 x.2]) (heap_alloc_new w2 _), (b2.block r (Array.getElem?_eq_some_iff.1 hh).1).trans hh⟩
theorem LReady.head {w2 w5 : World} {A' : Option Addr} {c' : Nat} {Kn : List (Int × Int)} {x : Int × Int} {cs : Array Value} (h : LReady w w2 r A' c' Kn x cs) (hg : (w2.alloc (.cells #[.int .i64 x.1, .int .i64 x.2] 74)).grownBy w5 (Value.slice A' Kn.length c').ownBlock) {wr : World} (_ : wr.ownsRow w.heap.size 74 2 (.slice A' Kn.length c') Kn.length (cellsK Kn)) :
    w5.heap[r]? = some (.cells cs 50 (0, 0)) := by
  rw [hg.block r (Array.getElem?_eq_some_iff.1 h.hd).1 (fun e => by
    obtain ⟨cs2, h2⟩ := ownsRow_typed h.own e.symm
    exact blk_ne h.hd h2 (by decide) rfl)]
  exact h.hd

def CutRel (w : World) (M : St) (a b : Int) (s p : Value) (wr : World) : Prop :=
  ∃ (j : Nat) (A' : Option Addr) (c' : Nat), p = .int .i64 (j : Int) ∧ j ≤ M.K.length ∧ s = .slice A' (kept M.K (mk a b) j).length c' ∧ wr.ownsRow w.heap.size 74 2 (.slice A' (kept M.K (mk a b) j).length c') (kept M.K (mk a b) j).length (cellsK (kept M.K (mk a b) j)) ∧ Below w.heap.size w wr
def CutPost (w : World) (r : Nat) (M : St) (a b : Int) (is : Bool) (w' : World) : Prop :=
  ∃ w1 A' c' K', K' = M.K.filter (· != mk a b) ++ (if is then [mk a b] else []) ∧ Below w.heap.size w w1 ∧ w' = w1.setCell ⟨r, 1, none⟩ (.slice A' K'.length c') ∧
    w1.ownsRow w.heap.size 74 2 (.slice A' K'.length c') K'.length (cellsK K')
set_option maxRecDepth 100000 in
set_option maxHeartbeats 4000000 in
theorem rcutc_goes (h : RNet w r M Kp) (a b : Int) (is : Bool) (hf : endB a = true) (ht : endB b = true) :
    Calls Try.prog 45 #[.pointer (some ⟨r, 0, none⟩), .int .i64 a, .int .i64 b, .bool is] w fun e w' => e = .returned (.int .i64 0) ∧ CutPost w r M a b is w' := by
  obtain ⟨A, c, l, B, d, hr⟩ := h.read
  have hkl := h.kl
  have HR := Lib.hid hr
  have H := Lib.hid h
  clear hr h
  go_enter Try.func45, Try.ntmps45
  go_wp2_with fail
  refine (rend_any a _).mono ?_
  rintro e w' ⟨rfl, rfl⟩
  rw [hf]
  go_wp2_with fail
  refine (rend_any b _).mono ?_
  rintro e w' ⟨rfl, rfl⟩
  rw [ht]
  go_wp2
  go_loopw [9, 10] (fun s p wr => CutRel w M a b s p wr)
    (fun s p wr => M.K.length - (intOf p).toNat)
  case atStart => exact ⟨0, none, 0, rfl, by omega, rfl, ⟨rfl, .inl ⟨rfl, rfl⟩⟩, Below.refl _ _⟩
  case round =>
    obtain ⟨j, A', c', rfl, hj, rfl, hrow, hB⟩ := hrel
    have hKl := kept_le M.K (mk a b) j
    generalize hKn : kept M.K (mk a b) j = Kn at *
    have HKN := Lib.hid hKn
    have HROW := Lib.hid hrow
    have HW := Lib.hid (HR.out.below hB)
    have HB := Lib.hid hB
    have c1 := HW.out.c1
    clear hKn hrow
    by_cases hjl : j = M.K.length
    · subst hjl
      have hfull : Kn = M.K.filter (· != mk a b) := by rw [← HKN.out]; unfold kept; rw [List.take_length]
      obtain ⟨vL, vK, l', -, hh, -⟩ := (H.out.below HB.out).mem
      have u1 := cell_of hh 1 rfl
      have uf := frozen_of hh 1
      have HH := Lib.hid hh
      replace hfull := Lib.hid hfull
      clear hh hB HKN
      cases is
      · go_wp2
        go_ret
        exact ⟨rfl, wr, A', c', Kn, by rw [hfull.out]; simp, HB.out, rfl, HROW.out⟩
      · go_wp2_with fail
        refine (link_any a b _).mono ?_
        rintro e w2 ⟨rfl, hb2⟩
        obtain ⟨i0, hi, hz0, hz1, hz2⟩ := info_parts info74
        have RR := Lib.hid (links_ready HROW.out HB.out hb2 (mk a b) HH.out)
        go_wp2_with (refine wpList_append_lies _ rfl _ _ 48 rfl w.heap.size 74 i0 (.agg #[.int .i64 0, .int .i64 0]) 2 16 Try.underlying48 hi hz0 hz1 hz2 rfl (by decide) (.slice A' Kn.length c') Kn.length (cellsK Kn) (by rfl) RR.out.own ⟨w2.heap.size, 0, none⟩ 1 1 [.int .i64 (mk a b).1, .int .i64 (mk a b).2] (by rfl) rfl RR.out.news (by simp [Value.oneCell']) (by decide) (by simp only [maxLen]; omega) (by omega) RR.out.bw.size _ rfl ?_; intro g c5 w5 hown hgr hor hlt; have HG := Lib.hid hgr; have HOW := Lib.hid hown; have hh5 := RR.out.head hgr HROW.out; have u5 := cell_of hh5 1 rfl; have uf5 := frozen_of hh5 1; clear hh5 hgr hor hown u1 uf)
        go_ret
        exact ⟨rfl, w5, some ⟨g, 0, none⟩, c5, Kn ++ [mk a b], by rw [hfull.out]; simp, RR.out.bw.grown HG.out RR.out.bw.size (ownsRow_off HROW.out), by simp, by simpa [cellsK_append, cellsK_one] using HOW.out⟩
    · have hj2 : j < M.K.length := by omega
      obtain ⟨g, rfl⟩ := HW.out.rk.addr (fun e => by rw [e] at hj2; simp at hj2)
      obtain ⟨x, hx, a0, a1⟩ := HW.out.rk.at j hj2
      replace hx := Lib.hid hx
      have hlt : (j : Int) < (M.K.length : Int) := by omega
      have he := pair_eq x (mk a b)
      clear a0 a1
      go_wp2_with fail
      have hBr := Below.refl wr.heap.size wr
      go_region_held3 (fun w' => w'.cell? ⟨r, 1, none⟩ = some (.slice (some ⟨g, 0, none⟩) M.K.length d) ∧ w'.cell? ⟨g, j * 2, none⟩ = some (.int .i64 x.1) ∧ w'.cell? ⟨g, j * 2 + 1, none⟩ = some (.int .i64 x.2) ∧ Below wr.heap.size wr w')
        ((refine HW.out.link hx.out ?_; first | assumption | exact Below.drew (by assumption) | (obtain ⟨_, _, _, hB⟩ := ‹_ ∧ _ ∧ _ ∧ Below wr.heap.size wr _›; first | exact hB | exact below_new _ hB | exact hB.drew | exact below_step (by assumption) hB)))
        ((go_at_call 53; refine (link_any a b _).mono ?_; rintro e w1 ⟨rfl, hb1⟩))
      all_goals
        have hBr1 := (‹_ ∧ _ ∧ _ ∧ Below wr.heap.size wr _›).2.2.2
        have hB3 := below_step hBr1 HB.out
        clear hBr
        obtain ⟨v1, v2, v3, _⟩ := (‹_ ∧ _ ∧ _ ∧ Below wr.heap.size wr _›)
        have hks := kept_succ (q := mk a b) hx.out
        rw [HKN.out] at hks
        clear hB
        by_cases ht : x = mk a b
        · have hd : decide (x = mk a b) = true := decide_eq_true ht
          rw [hd]
          rw [if_pos ht, List.append_nil] at hks
          replace hks := Lib.hid hks
          clear hd he ht
          have HR1 := Lib.hid (ownsRow_upd (S := fun _ => False) HROW.out (Upd.of_below hBr1) (fun _ _ h => h))
          go_wp2
          go_roundw
          case rel =>
            refine ⟨j + 1, A', c', by simp, by omega, ?_⟩
            rw [hks.out]
            exact ⟨rfl, HR1.out, hB3⟩
          case measure => simp [intOf]; omega
        · have hd : decide (x = mk a b) = false := decide_eq_false ht
          rw [hd]
          rw [if_neg ht] at hks
          replace hks := Lib.hid hks
          clear hd he ht
          obtain ⟨i0, hi, hz0, hz1, hz2⟩ := info_parts info74
          have hr5 := ownsRow_upd (S := fun _ => False) HROW.out (Upd.of_below (below_new (.cells #[.int .i64 x.1, .int .i64 x.2] 74) hBr1)) (fun _ _ h => h)
          have hn5 : ∀ j u, ([.int .i64 x.1, .int .i64 x.2] : List Value)[j]? = some u → (w1.alloc (.cells #[.int .i64 x.1, .int .i64 x.2] 74)).cell? ((⟨w1.heap.size, 0, none⟩ : Addr).add j) = some u := World.news_of_block (cs := #[.int .i64 x.1, .int .i64 x.2]) (heap_alloc_new w1 _)
          have hbw := below_new (.cells #[.int .i64 x.1, .int .i64 x.2] 74) hB3
          replace hr5 := Lib.hid hr5; replace hn5 := Lib.hid hn5; replace hbw := Lib.hid hbw
          go_wp2_with (refine wpList_append_lies _ rfl _ _ 48 rfl w.heap.size 74 i0 (.agg #[.int .i64 0, .int .i64 0]) 2 16 Try.underlying48 hi hz0 hz1 hz2 rfl (by decide) (.slice A' Kn.length c') Kn.length (cellsK Kn) (by rfl) hr5.out ⟨w1.heap.size, 0, none⟩ 1 1 [.int .i64 x.1, .int .i64 x.2] (by rfl) rfl hn5.out (by simp [Value.oneCell']) (by decide) (by simp only [maxLen]; omega) (by omega) hbw.out.size _ rfl ?_; intro g5 c5 w5 hown hgr hor hlt; have HG := Lib.hid hgr; have HOW := Lib.hid hown; clear hgr hor hown)
          have hfin : CutRel w M a b (.slice (some ⟨g5, 0, none⟩) (Kn.length + 1) c5) (.int .i64 ((j : Int) + 1)) w5 :=
            ⟨j + 1, some ⟨g5, 0, none⟩, c5, by simp, by omega, by rw [hks.out]; simp, by rw [hks.out]; simpa [cellsK_append, cellsK_one] using HOW.out, hbw.out.grown HG.out hbw.out.size (ownsRow_off HROW.out)⟩
          exact ⟨hfin, by simp [intOf]; omega⟩
theorem rcutc_any (h : RNet w r M Kp) (hk : M.K.length < 1000000) (a b : Int) (is : Bool) :
    Calls Try.prog 45 #[.pointer (some ⟨r, 0, none⟩), .int .i64 a, .int .i64 b, .bool is] w fun e w' => e = .returned (.int .i64 (M.cut a b is).1) ∧ RStep w w' r (M.cut a b is).2 Kp := by
  unfold St.cut
  by_cases he : (endB a && endB b) = false
  · rw [if_pos he]
    rcases hf : endB a with _ | _
    · refine (rcutc_arg1 a b is hf w r).mono ?_
      rintro e w' ⟨rfl, rfl⟩
      exact ⟨rfl, RStep.same h (Below.refl _ _)⟩
    · have ht : endB b = false := by simpa [hf] using he
      refine (rcutc_arg2 a b is hf ht w r).mono ?_
      rintro e w' ⟨rfl, rfl⟩
      exact ⟨rfl, RStep.same h (Below.refl _ _)⟩
  rw [if_neg he]
  have ha : endB a = true := by rcases h0 : endB a <;> simp_all
  have hb : endB b = true := by rcases h0 : endB b <;> simp_all
  refine (rcutc_goes h a b is ha hb).mono ?_
  rintro e w' ⟨rfl, w1, A', c', K', hK', hB, rfl, hown⟩
  refine ⟨rfl, ?_, (Upd.of_below hB).setCell (p := ⟨r, 1, none⟩) (.inl h.self) _⟩
  subst hK'
  have hlen : (M.K.filter (· != mk a b) ++ (if is then [mk a b] else [])).length ≤ 1000000 := by
    have := List.length_filter_le (fun x => x != mk a b) M.K
    rw [List.length_append]
    cases is <;> simp <;> omega
  refine (h.below hB).putK (M' := { M with K := M.K.filter (· != mk a b) ++ (if is then [mk a b] else []) }) hown hlen _ (fun k hk => mem_kmore.2 (.inl hk)) (fun k hk => mem_kmore.2 (.inr ?_)) rfl rfl ⟨h.ok.len, h.ok.each, h.ok.low, h.ok.high⟩
  have := hown.lt k hk
  rw [size_setCell]
  exact this
end Go.Proofs.Ytddndmhjkjanlaa
