/- The document's net: First, cut. Conditions: it holds what its word says. -/
import Derived.Test.YtddndmhjkjanlaaRa
namespace Go.Proofs.Ytddndmhjkjanlaa
open Go.RowKit Go.Shelf
variable {w : World} {r : Nat} {M : St} {Kp : List Nat}

theorem firstD_no (l : List Dg) (to : Int) (h : ∀ (k : Nat) d, l[k]? = some d → d.2.1 ≠ to) : firstD l to = -1 := by
  unfold firstD
  have : l.findIdx? (fun d => d.2.1 == to) = none := by
    rw [List.findIdx?_eq_none_iff]
    intro d hd
    obtain ⟨j, hj, rfl⟩ := List.getElem_of_mem hd
    simpa using h j _ (List.getElem?_eq_getElem hj)
  rw [this]
theorem firstD_at (l : List Dg) (to : Int) (i : Nat) (hi : i < l.length) (h : ∀ (k : Nat) d, k < i → l[k]? = some d → d.2.1 ≠ to) (hx : l[i].2.1 = to) : firstD l to = (i : Int) := by
  unfold firstD
  have : l.findIdx? (fun d => d.2.1 == to) = some i := by
    rw [List.findIdx?_eq_some_iff_getElem]
    refine ⟨hi, by simpa using hx, fun j hj => ?_⟩
    simpa using h j _ hj (List.getElem?_eq_getElem (by omega))
  rw [this]

set_option maxHeartbeats 1000000 in
theorem rfirst_any (h : RNet w r M Kp) (to : Int) : Calls Try.prog 27 #[.pointer (some ⟨r, 0, none⟩), .int .i64 to] w fun e w' => e = .returned (.int .i64 (firstD M.l to)) ∧ w = w' := by
  obtain ⟨A, c, l, B, d, hr⟩ := h.read
  have HL := Lib.hid hr.len
  have c0 := hr.c0
  have hll : l.length ≤ 2000 := by have := h.ok.len; have := hr.len; omega
  have HR := Lib.hid hr
  clear hr h
  go_enter Try.func27, Try.ntmps27
  go_wp2
  go_loop [5] (fun p => ∃ j : Nat, j ≤ l.length ∧ p = .int .i64 (j : Int) ∧ ∀ (k : Nat) d, k < j → M.l[k]? = some d → d.2.1 ≠ to) (fun p => l.length - (intOf p).toNat)
  case atStart => exact ⟨0, by omega, rfl, fun k d hk => by omega⟩
  case round =>
    obtain ⟨j, hj, rfl, hs⟩ := hrel
    replace hs := Lib.hid hs
    by_cases hjl : j = l.length
    · subst hjl
      go_wp2
      go_ret
      refine ⟨?_, rfl⟩
      rw [firstD_no M.l to (fun k d hd => hs.out k d (by have := (List.getElem?_eq_some_iff.1 hd).1; have := HL.out; omega) hd)]; rfl
    · have hj2 : j < l.length := by omega
      obtain ⟨g, o, rfl⟩ := HR.out.rd.addr (fun e => by rw [e] at hj2; simp at hj2)
      obtain ⟨d, hd, a0, a1, a2, _⟩ := HR.out.rd.atE j hj2
      have hM : M.l[j]? = some d.dg := by rw [← HR.out.map, List.getElem?_map, hd]; rfl
      replace hM := Lib.hid hM
      replace hd := Lib.hid hd
      by_cases ht : d.t = to
      · have g1 : (d.t == to) = true := by simp [ht]
        have HT := Lib.hid ht
        clear ht a0 a2
        go_wp2
        go_ret
        refine ⟨?_, rfl⟩
        obtain ⟨h1, h2⟩ := List.getElem?_eq_some_iff.1 hM.out
        rw [firstD_at M.l to j h1 (fun k d hk hd => hs.out k d hk hd) (by rw [h2]; exact HT.out)]; rfl
      · have g1 : (d.t == to) = false := by simp [ht]
        have HT := Lib.hid ht
        clear ht a0 a2
        go_wp2
        go_round
        case rel =>
          refine ⟨j + 1, by omega, by go_num, fun k d' hk hd' => ?_⟩
          by_cases hk2 : k < j
          · exact hs.out k d' hk2 hd'
          · obtain rfl : k = j := by omega
            rw [hM.out] at hd'
            injection hd' with hd'
            subst hd'
            exact HT.out
        case measure => simp [intOf]; omega

theorem egt74 : Try.prog.eqGuardType Try.prog.depth 74 = false := by kernel_rfl
theorem eql74 (a b c e : Int) (w : World) : (Op.equalIn 10000 74 (.agg #[.int .i64 a, .int .i64 b]) (.agg #[.int .i64 c, .int .i64 e])).run Try.prog w = .ok (a == c && b == e) w := eq74 9998 a b c e w
attribute [local go_sem] egt74 eql74
theorem pair_eq (x y : Int × Int) : (x.1 == y.1 && x.2 == y.2) = decide (x = y) := by
  rw [Bool.eq_iff_iff]
  simp [Prod.ext_iff]
theorem RK.at {g : Nat} {n c : Nat} {K : List (Int × Int)} (h : RK w (.slice (some ⟨g, 0, none⟩) n c) K) (j : Nat) (hj : j < K.length) : ∃ k, K[j]? = some k ∧ w.cell? ⟨g, j * 2, none⟩ = some (.int .i64 k.1) ∧ w.cell? ⟨g, j * 2 + 1, none⟩ = some (.int .i64 k.2) := by
  obtain ⟨A, c', e, hc⟩ := h
  injection e with e1 e2 e3
  obtain ⟨g', e4, hc⟩ := hc (fun e => by rw [e] at hj; simp at hj)
  rw [e4] at e1
  injection e1 with e1
  injection e1 with e4 e5
  subst e4
  exact ⟨_, List.getElem?_eq_getElem hj, hc j hj⟩
theorem RK.addr {A : Option Addr} {n c : Nat} {K : List (Int × Int)} (h : RK w (.slice A n c) K) (h0 : K ≠ []) : ∃ g, A = some ⟨g, 0, none⟩ := by
  obtain ⟨A', c', e, hc⟩ := h
  injection e with e1 e2 e3
  obtain ⟨g, e4, _⟩ := hc h0
  exact ⟨g, e1.trans e4⟩
theorem RK.below {w' : World} {v : Value} {K : List (Int × Int)} (h : RK w v K) (hb : Below w.heap.size w w') : RK w' v K := by
  obtain ⟨A, c, rfl, hc⟩ := h
  refine ⟨A, c, rfl, fun h0 => ?_⟩
  obtain ⟨g, e, hc⟩ := hc h0
  refine ⟨g, e, fun j hj => ?_⟩
  obtain ⟨h1, h2⟩ := hc j hj
  exact ⟨(hb.cell (World.block_lt_of_cell? w _ h1)).trans h1, (hb.cell (World.block_lt_of_cell? w _ h2)).trans h2⟩
theorem RRead.below {w' : World} {A B : Option Addr} {c d : Nat} {l : List Ed} (h : RRead w r M A c l B d) (hb : Below w.heap.size w w') : RRead w' r M A c l B d :=
  ⟨h.map, (hb.cell (World.block_lt_of_cell? w _ h.c0)).trans h.c0, (hb.cell (World.block_lt_of_cell? w _ h.c1)).trans h.c1, (hb.cell (World.block_lt_of_cell? w _ h.c2)).trans h.c2, h.rd.below hb, h.rk.below hb⟩

theorem RRead.link {A : Option Addr} {g c d : Nat} {l : List Ed} (h : RRead w r M A c l (some ⟨g, 0, none⟩) d) {j : Nat} {x : Int × Int} (hx : M.K[j]? = some x) {w' : World} (hb : Below w.heap.size w w') :
    w'.cell? ⟨r, 1, none⟩ = some (.slice (some ⟨g, 0, none⟩) M.K.length d) ∧ w'.cell? ⟨g, j * 2, none⟩ = some (.int .i64 x.1) ∧ w'.cell? ⟨g, j * 2 + 1, none⟩ = some (.int .i64 x.2) ∧ Below w.heap.size w w' := by
  have h' := h.below hb
  obtain ⟨y, hy, h1, h2⟩ := h'.rk.at j (List.getElem?_eq_some_iff.1 hx).1
  rw [hx] at hy
  injection hy with hy
  subst hy
  exact ⟨h'.c1, h1, h2, hb⟩
set_option maxHeartbeats 1000000 in
theorem rcut_any (h : RNet w r M Kp) (a b : Int) : Calls Try.prog 54 #[.pointer (some ⟨r, 0, none⟩), .int .i64 a, .int .i64 b] w fun e w' => e = .returned (.bool (decide (mk a b ∈ M.K))) ∧ Below w.heap.size w w' := by
  obtain ⟨A, c, l, B, d, hr⟩ := h.read
  have hkl := h.kl
  have HR := Lib.hid hr
  clear hr h
  go_enter Try.func54, Try.ntmps54
  go_wp2
  go_loopw [7] (fun p wr => ∃ j : Nat, j ≤ M.K.length ∧ p = .int .i64 (j : Int) ∧ (∀ (k : Nat) x, k < j → M.K[k]? = some x → x ≠ mk a b) ∧ Below w.heap.size w wr) (fun p wr => M.K.length - (intOf p).toNat)
  case atStart => exact ⟨0, by omega, rfl, fun k d hk => by omega, Below.refl _ _⟩
  case round =>
    obtain ⟨j, hj, rfl, hs, hB⟩ := hrel
    replace hs := Lib.hid hs
    have HW := Lib.hid (HR.out.below hB)
    replace hB := Lib.hid hB
    have c1 := HW.out.c1
    by_cases hjl : j = M.K.length
    · subst hjl
      go_wp2
      go_ret
      refine ⟨?_, hB.out⟩
      rw [decide_eq_false]
      · rfl
      · intro hm
        obtain ⟨k, hk, e⟩ := List.getElem_of_mem hm
        exact hs.out k _ hk (List.getElem?_eq_getElem hk) e
    · have hj2 : j < M.K.length := by omega
      obtain ⟨g, rfl⟩ := HW.out.rk.addr (fun e => by rw [e] at hj2; simp at hj2)
      obtain ⟨x, hx, a0, a1⟩ := HW.out.rk.at j hj2
      replace hx := Lib.hid hx
      have hB2 := hB.out
      have hlt : (j : Int) < (M.K.length : Int) := by omega
      have he := pair_eq x (mk a b)
      clear a0 a1
      go_wp2_with fail
      go_region_held3 (fun w' => w'.cell? ⟨r, 1, none⟩ = some (.slice (some ⟨g, 0, none⟩) M.K.length d) ∧ w'.cell? ⟨g, j * 2, none⟩ = some (.int .i64 x.1) ∧ w'.cell? ⟨g, j * 2 + 1, none⟩ = some (.int .i64 x.2) ∧ Below w.heap.size w w')
        ((refine HR.out.link hx.out ?_; first | assumption | exact Below.drew (by assumption) | (obtain ⟨_, _, _, hB⟩ := ‹_ ∧ _ ∧ _ ∧ Below w.heap.size w _›; first | exact hB | exact below_new _ hB | exact hB.drew | exact below_step (by assumption) hB)))
        ((go_at_call 53; refine (link_any a b _).mono ?_; rintro e w1 ⟨rfl, hb1⟩))
      all_goals
        have hB3 := (‹_ ∧ _ ∧ _ ∧ Below w.heap.size w _›).2.2.2
        clear hB2
        by_cases ht : x = mk a b
        · have hd : decide (x = mk a b) = true := decide_eq_true ht
          rw [hd]
          replace ht := Lib.hid ht
          clear hd he
          go_wp2
          go_ret
          refine ⟨?_, hB3⟩
          rw [decide_eq_true]
          · rfl
          · rw [← ht.out]; exact List.mem_of_getElem? hx.out
        · have hd : decide (x = mk a b) = false := decide_eq_false ht
          rw [hd]
          replace ht := Lib.hid ht
          clear hd he
          go_wp2
          go_roundw
          case rel =>
            refine ⟨j + 1, by omega, by go_num, fun k y hk hy => ?_, hB3⟩
            by_cases hk2 : k < j
            · exact hs.out k y hk2 hy
            · obtain rfl : k = j := by omega
              rw [hx.out] at hy
              injection hy with hy
              subst hy
              exact ht.out
          case measure => simp [intOf]; omega
end Go.Proofs.Ytddndmhjkjanlaa
