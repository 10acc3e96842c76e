/- path.step: what it tells of a part. No condition but that the part is no longer than 10^6. -/
import Derived.Test.YtigldoicijfhoaaDoorPe
namespace Go.Proofs.YtigldoicijfhoaaDoor.H
open Go.RowKit Go.Shelf

theorem badAt_drop (p : Bs) (i : Nat) (h : i ≤ p.length) (hb : ∀ k c, k < i → p[k]? = some c → ¬ (c.toNat < 33 ∨ 126 < c.toNat ∨ c = 47)) : badAt p = (badAt (p.drop i)).map (· + i) := by
  induction i generalizing p with
  | zero => simp
  | succ i ih =>
    cases p with
    | nil => simp at h
    | cons c r =>
      rw [badAt, if_neg (hb 0 c (by omega) rfl), List.drop_succ_cons, ih r (by simpa using h) (fun k c' hk hc => hb (k + 1) c' (by omega) hc)]
      rcases badAt (r.drop i) with _ | x
      · rfl
      · simp; omega
theorem badAt_at (p : Bs) (i : Nat) (c : UInt8) (hc : p[i]? = some c) (hbad : c.toNat < 33 ∨ 126 < c.toNat ∨ c = 47) (hb : ∀ k c, k < i → p[k]? = some c → ¬ (c.toNat < 33 ∨ 126 < c.toNat ∨ c = 47)) : badAt p = some i := by
  have hl : i < p.length := (List.getElem?_eq_some_iff.1 hc).1
  rw [badAt_drop p i (by omega) hb, List.drop_eq_getElem_cons hl, badAt, if_pos (by rw [(List.getElem?_eq_some_iff.1 hc).2]; exact hbad)]
  simp
theorem badAt_full (p : Bs) (hb : ∀ k c, k < p.length → p[k]? = some c → ¬ (c.toNat < 33 ∨ 126 < c.toNat ∨ c = 47)) : badAt p = none := by
  rw [badAt_drop p p.length (Nat.le_refl _) hb]
  simp [badAt]

theorem ret2_int {a b c d : Int} (h : a = c) (k : b = d) : Ending.returned (.tuple #[.int .i64 a, .int .i64 b]) = .returned (.tuple #[.int .i64 c, .int .i64 d]) := by rw [h, k]

set_option maxRecDepth 100000 in
set_option maxHeartbeats 2000000 in
theorem step_any (p : Bs) (w : World) (hp : p.length ≤ 2000000) :
    Calls Tryd.prog 27 #[.string (mkB p)] w fun e w' => e = .returned (.tuple #[.int .i64 (stepE p).1, .int .i64 (stepE p).2]) ∧ w = w' := by
  by_cases h1 : p = []
  · subst h1
    go_enter Tryd.func27, Tryd.ntmps27
    go_wp2
    go_ret2
    exact ⟨rfl, rfl⟩
  by_cases h2 : p = [46]
  · subst h2
    go_enter Tryd.func27, Tryd.ntmps27
    go_wp2
    go_ret2
    exact ⟨rfl, rfl⟩
  by_cases h3 : p = [46, 46]
  · subst h3
    go_enter Tryd.func27, Tryd.ntmps27
    go_wp2
    go_ret2
    exact ⟨rfl, rfl⟩
  have hst : stepE p = match badAt p with | some i => (4, (i : Int)) | none => if 60 < p.length then (3, 60) else (0, 0) := by
    unfold stepE; rw [if_neg (by simp [h1, h2, h3])]
    rcases badAt p with _ | i <;> rfl
  replace hst := Lib.hid hst
  have g1 : List.isEmpty p = false := by cases p with | nil => exact (h1 rfl).elim | cons => rfl
  have g2 : (p == [46]) = false := by simpa using h2
  have g3 : (p == [46, 46]) = false := by simpa using h3
  clear h1 h2 h3
  go_enter Tryd.func27, Tryd.ntmps27
  go_wp2
  go_loop [17] (fun q => ∃ i : Nat, q = .int .i64 (i : Int) ∧ i ≤ p.length ∧ ∀ k c, k < i → p[k]? = some c → ¬ (c.toNat < 33 ∨ 126 < c.toNat ∨ c = 47)) (fun q => p.length - (intOf q).toNat)
  case atStart => exact ⟨0, rfl, by omega, fun k c hk => by omega⟩
  case round =>
    obtain ⟨i, rfl, hi, hno⟩ := hrel
    replace hno := Lib.hid hno
    by_cases hlt : i < p.length
    · obtain ⟨c, hc⟩ : ∃ c, p[i]? = some c := ⟨_, List.getElem?_eq_getElem hlt⟩
      have hci : (mkB p)[i]'(by simpa using hlt) = c := by
        have h2 := (List.getElem?_eq_some_iff.1 hc).2
        simp only [mkB, ByteArray.getElem_eq_getElem_data, List.getElem_toArray]
        exact h2
      have hsz : i < (mkB p).size := by simpa using hlt
      have HC := Lib.hid hc
      clear hc
      have hbad : (c.toNat < 33 ∨ 126 < c.toNat ∨ c = 47) → badAt p = some i := fun hb => badAt_at p i c HC.out hb hno.out
      have hgood : ¬ (c.toNat < 33 ∨ 126 < c.toNat ∨ c = 47) → ∀ k c, k < i + 1 → p[k]? = some c → ¬ (c.toNat < 33 ∨ 126 < c.toNat ∨ c = 47) := fun hb k c' hk hc' => by
        by_cases hki : k < i
        · exact hno.out k c' hki hc'
        · obtain rfl : k = i := by omega
          rw [HC.out] at hc'
          injection hc' with hc'
          rwa [← hc']
      replace hbad := Lib.hid hbad; replace hgood := Lib.hid hgood
      by_cases b1 : c.toNat < 33
      · have hst' := hst.out
        rw [hbad.out (.inl b1)] at hst'
        replace hst' := Lib.hid hst'
        clear hst hbad hgood
        have d1 : ((c.toNat : Int) < 33) := by omega
        go_wp2
        go_ret2
        rw [hst'.out]
        exact ⟨rfl, rfl⟩
      by_cases b2 : 126 < c.toNat
      · have hst' := hst.out
        rw [hbad.out (.inr (.inl b2))] at hst'
        replace hst' := Lib.hid hst'
        clear hst hbad hgood
        have d1 : ¬ ((c.toNat : Int) < 33) := by omega
        have d2 : (126 < (c.toNat : Int)) := by omega
        go_wp2
        go_ret2
        rw [hst'.out]
        exact ⟨rfl, rfl⟩
      by_cases b3 : c = 47
      · have hst' := hst.out
        rw [hbad.out (.inr (.inr b3))] at hst'
        replace hst' := Lib.hid hst'
        clear hst hbad hgood b1 b2
        subst b3
        go_wp2
        go_ret2
        rw [hst'.out]
        exact ⟨rfl, rfl⟩
      have hg := Lib.hid (hgood.out (by simp [b1, b2, b3]))
      have d3 : ((c.toNat : Int) == 47) = false := by
        rw [beq_eq_false_iff_ne]
        intro e
        exact b3 (UInt8.toNat_inj.1 (by have : c.toNat = 47 := by omega
                                        rw [this]; rfl))
      have d1 : ¬ ((c.toNat : Int) < 33) := by omega
      have d2 : ¬ (126 < (c.toNat : Int)) := by omega
      clear hst hbad hgood b1 b2 b3
      go_wp2
      go_round
      case rel => exact ⟨i + 1, by go_num, by omega, hg.out⟩
      case measure => simp [intOf]; omega
    · obtain rfl : i = p.length := by omega
      have hn := badAt_full p hno.out
      have hst' := hst.out
      rw [hn] at hst'
      dsimp only at hst'
      replace hst' := Lib.hid hst'
      clear hst hn hno hlt
      by_cases h60 : 60 < p.length
      · go_wp2
        go_ret2
        rw [hst'.out, if_pos h60]
        exact ⟨rfl, rfl⟩
      · go_wp2
        go_ret2
        rw [hst'.out, if_neg h60]
        exact ⟨rfl, rfl⟩
end Go.Proofs.YtigldoicijfhoaaDoor.H
