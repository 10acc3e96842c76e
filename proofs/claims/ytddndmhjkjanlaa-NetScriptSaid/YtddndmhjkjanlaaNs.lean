/- What the laws ask of satchelkit: Pick, SameDatagrams. Conditions: at most 10^6 datagrams. -/
import Derived.Test.YtddndmhjkjanlaaNr
namespace Go.Proofs.Ytddndmhjkjanlaa
open Go.RowKit Go.Shelf

def pick (i n : Int) : Int := if n < 1 then 0 else if i.tmod n < 0 then i.tmod n + n else i.tmod n
theorem pick_range (i n : Int) (h : 1 ≤ n) : 0 ≤ pick i n ∧ pick i n < n := by
  unfold pick
  rw [if_neg (by omega)]
  have h1 : i.tmod n < n := Int.tmod_lt_of_pos i (by omega)
  have h2 : -n < i.tmod n := by
    have := Int.lt_tmod_of_pos i (show 0 < n by omega); omega
  split <;> omega

set_option maxHeartbeats 400000 in
theorem pick_any (i n : Int) (w : World) (hi : -9223372036854775808 ≤ i ∧ i ≤ 9223372036854775807) (hn : -9223372036854775808 ≤ n ∧ n ≤ 9223372036854775807) :
    Calls Try.prog 15 #[.int .i64 i, .int .i64 n] w fun e w' => e = .returned (.int .i64 (pick i n)) ∧ w = w' := by
  by_cases h : n < 1
  · go_enter Try.func15, Try.ntmps15
    go_wp2
    go_ret
    simp [pick, h]
  · have h1 : i.tmod n < n := Int.tmod_lt_of_pos i (by omega)
    have h2 : -n < i.tmod n := by
      have := Int.lt_tmod_of_pos i (show 0 < n by omega); omega
    by_cases h3 : i.tmod n < 0
    · go_enter Try.func15, Try.ntmps15
      go_wp2
      go_ret
      exact ⟨by rw [pick, if_neg (by omega), if_pos h3]; rfl, rfl⟩
    · go_enter Try.func15, Try.ntmps15
      go_wp2
      go_ret
      exact ⟨by rw [pick, if_neg (by omega), if_neg (by omega)]; rfl, rfl⟩

/-- A slice reads as datagrams. -/
def RD (w : World) (v : Value) (l : List Ed) : Prop :=
  ∃ A c, v = .slice A l.length c ∧ (l ≠ [] → ∃ g o, A = some ⟨g, o, none⟩ ∧ ∀ j (hj : j < l.length),
    w.cell? ⟨g, o + j * 3, none⟩ = some (.int .i64 l[j].f) ∧ w.cell? ⟨g, o + j * 3 + 1, none⟩ = some (.int .i64 l[j].t) ∧ w.cell? ⟨g, o + j * 3 + 2, none⟩ = some l[j].v ∧ RB w l[j].v l[j].xs)

theorem add_block (a : Addr) (i : Nat) : (a.add i).block = a.block := by unfold Addr.add; split <;> rfl
theorem RD.below {w w' : World} {v : Value} {l : List Ed} (h : RD w v l) (hb : Below w.heap.size w w') : RD w' v l := by
  obtain ⟨A, c, rfl, hc⟩ := h
  refine ⟨A, c, rfl, fun h0 => ?_⟩
  obtain ⟨g, o, e, hc⟩ := hc h0
  refine ⟨g, o, e, fun j hj => ?_⟩
  obtain ⟨h1, h2, h3, h4⟩ := hc j hj
  exact ⟨(hb.cell (World.block_lt_of_cell? w _ h1)).trans h1, (hb.cell (World.block_lt_of_cell? w _ h2)).trans h2, (hb.cell (World.block_lt_of_cell? w _ h3)).trans h3, h4.below hb⟩
theorem RD.at {w : World} {g o : Nat} {n c : Nat} {l : List Ed} (h : RD w (.slice (some ⟨g, o, none⟩) n c) l) (j : Nat) (hj : j < l.length) : ∃ f t x xs, (l.map Ed.dg)[j]? = some (f, t, xs) ∧
    w.cell? ⟨g, o + j * 3, none⟩ = some (.int .i64 f) ∧ w.cell? ⟨g, o + j * 3 + 1, none⟩ = some (.int .i64 t) ∧ w.cell? ⟨g, o + j * 3 + 2, none⟩ = some x ∧ RB w x xs := by
  obtain ⟨A, c', e, hc⟩ := h
  injection e with e1 e2 e3
  obtain ⟨g', o', e4, hc⟩ := hc (fun e => by rw [e] at hj; simp at hj)
  rw [e4] at e1
  injection e1 with e1
  injection e1 with e4 e5
  subst e4 e5
  obtain ⟨h1, h2, h3, h4⟩ := hc j hj
  exact ⟨_, _, _, _, by simp [hj, Ed.dg], h1, h2, h3, h4⟩

theorem RD.atE {w : World} {g o : Nat} {n c : Nat} {l : List Ed} (h : RD w (.slice (some ⟨g, o, none⟩) n c) l) (j : Nat) (hj : j < l.length) : ∃ d, l[j]? = some d ∧
    w.cell? ⟨g, o + j * 3, none⟩ = some (.int .i64 d.f) ∧ w.cell? ⟨g, o + j * 3 + 1, none⟩ = some (.int .i64 d.t) ∧ w.cell? ⟨g, o + j * 3 + 2, none⟩ = some d.v ∧ RB w d.v d.xs := by
  obtain ⟨A, c', e, hc⟩ := h
  injection e with e1 e2 e3
  obtain ⟨g', o', e4, hc⟩ := hc (fun e => by rw [e] at hj; simp at hj)
  rw [e4] at e1
  injection e1 with e1
  injection e1 with e4 e5
  subst e4 e5
  obtain ⟨h1, h2, h3, h4⟩ := hc j hj
  exact ⟨_, List.getElem?_eq_getElem hj, h1, h2, h3, h4⟩
theorem RD.addr {w : World} {A : Option Addr} {n c : Nat} {l : List Ed} (h : RD w (.slice A n c) l) (h0 : l ≠ []) : ∃ g o, A = some ⟨g, o, none⟩ := by
  obtain ⟨A', c', e, hc⟩ := h
  injection e with e1 e2 e3
  obtain ⟨g, o, e4, _⟩ := hc h0
  exact ⟨g, o, e1.trans e4⟩

set_option maxRecDepth 100000 in
set_option maxHeartbeats 1000000 in
theorem same_any (v u : Value) (l m : List Ed) (w : World) (hv : RD w v l) (hu : RD w u m) (hl : l.length ≤ 1000000) (hm : m.length ≤ 1000000) :
    Calls Try.prog 12 #[v, u] w fun e w' => e = .returned (.bool (decide (l.map Ed.dg = m.map Ed.dg))) ∧ Below w.heap.size w w' := by
  obtain ⟨A, c, rfl⟩ : ∃ A c, v = .slice A l.length c := ⟨_, _, hv.choose_spec.choose_spec.1⟩
  obtain ⟨B, d, rfl⟩ : ∃ A c, u = .slice A m.length c := ⟨_, _, hu.choose_spec.choose_spec.1⟩
  by_cases hlm : l.length = m.length
  · go_enter Try.func12, Try.ntmps12
    go_wp2
    go_loopw [5] (fun p wr => ∃ j : Nat, j ≤ l.length ∧ p = .int .i64 (j : Int) ∧ (∀ k, k < j → (l.map Ed.dg)[k]? = (m.map Ed.dg)[k]?) ∧ Below w.heap.size w wr)
      (fun p wr => l.length - (intOf p).toNat)
    case atStart => exact ⟨0, by omega, rfl, fun k hk => by omega, Below.refl _ _⟩
    case round =>
      obtain ⟨j, hj, rfl, hs, hB⟩ := hrel
      replace hs := Lib.hid hs
      replace hlm := Lib.hid hlm
      by_cases hjl : j = l.length
      · subst hjl
        go_wp2
        refine bodyPost_ret (v := .bool true) (by simp [results, Try.f12, go_sem]) rfl ⟨?_, hB⟩
        have : l.map Ed.dg = m.map Ed.dg := List.ext_getElem? (fun k => by
          by_cases hk : k < l.length
          · exact hs.out k hk
          · rw [List.getElem?_eq_none (by simp; omega), List.getElem?_eq_none (by simp; have := hlm.out; omega)])
        simp [this]
      · have hj2 : j < l.length := by omega
        obtain ⟨ga, oa, rfl⟩ : ∃ g o, A = some ⟨g, o, none⟩ := hv.addr (fun e => by rw [e] at hj2; simp at hj2)
        obtain ⟨gb, ob, rfl⟩ : ∃ g o, B = some ⟨g, o, none⟩ := hu.addr (fun e => by have := hlm.out; rw [e] at this; simp at this; rw [this] at hj2; simp at hj2)
        obtain ⟨f, t, x, xs, hk1, a0, a1, a2, ax⟩ := (hv.below hB).at j hj2
        obtain ⟨f', t', y, ys, hk2, b0, b1, b2, by'⟩ := (hu.below hB).at j (by have := hlm.out; omega)
        replace hk1 := Lib.hid hk1
        replace hk2 := Lib.hid hk2
        have hjm : j < m.length := by have := hlm.out; omega
        have HV := Lib.hid hv; have HU := Lib.hid hu; clear hv hu
        have hne : (f, t, xs) ≠ (f', t', ys) → ¬ l.map Ed.dg = m.map Ed.dg := fun h e => by
          have := hk1.out
          rw [e, hk2.out] at this
          exact h (by injection this with this; exact this.symm)
        have hne := Lib.hid hne
        by_cases hf : f = f'
        · have g1 : (f != f') = false := by simp [hf]
          by_cases ht : t = t'
          · have g2 : (t != t') = false := by simp [ht]
            by_cases hx : xs = ys
            · have hx' := Lib.hid hx; have hf' := Lib.hid hf; have ht' := Lib.hid ht
              have g3 : decide (xs = ys) = true := by simp [hx]
              clear hx hf ht
              go_wp2
              go_quiet (exact Calls.quiet_of_same ((sameBytes_any x y xs ys _ (ax.drewN _) (by'.drewN _)).mono (fun e w' he => ⟨he.1, he.2.symm⟩)))
              go_wp2
              go_roundw
              case rel =>
                refine ⟨j + 1, by omega, rfl, fun k hk => ?_, below_drewN hB _⟩
                by_cases h : k < j
                · exact hs.out k h
                · obtain rfl : k = j := by omega
                  rw [hk1.out, hk2.out, hx'.out, hf'.out, ht'.out]
              case measure => simp [intOf]; omega
            · have hn2 := Lib.hid (hne.out (by simp [hx]))
              have g3 : decide (xs = ys) = false := by simp [hx]
              clear hx hf ht
              go_wp2
              go_quiet (exact Calls.quiet_of_same ((sameBytes_any x y xs ys _ (ax.drewN _) (by'.drewN _)).mono (fun e w' he => ⟨he.1, he.2.symm⟩)))
              go_wp2
              exact bodyPost_ret (v := .bool false) (by simp [results, Try.f12, go_sem]) rfl ⟨by simp [hn2.out], below_drewN hB _⟩
          · have g2 : (t != t') = true := by simp [ht]
            have hn2 := Lib.hid (hne.out (by simp [ht]))
            clear hf ht
            go_wp2
            go_quiet (fail)
            go_wp2
            exact bodyPost_ret (v := .bool false) (by simp [results, Try.f12, go_sem]) rfl ⟨by simp [hn2.out], below_drewN hB _⟩
        · have g1 : (f != f') = true := by simp [hf]
          have hn2 := Lib.hid (hne.out (by simp [hf]))
          clear hf
          go_wp2
          go_quiet (fail)
          go_wp2
          exact bodyPost_ret (v := .bool false) (by simp [results, Try.f12, go_sem]) rfl ⟨by simp [hn2.out], below_drewN hB _⟩
  · have hne : decide ((l.length : Int) = (m.length : Int)) = false := by simp; omega
    go_enter Try.func12, Try.ntmps12
    go_wp2
    go_ret
    refine ⟨?_, Below.refl _ _⟩
    have : ¬ l.map Ed.dg = m.map Ed.dg := fun e => hlm (by simpa using congrArg List.length e)
    simp [this]
end Go.Proofs.Ytddndmhjkjanlaa
