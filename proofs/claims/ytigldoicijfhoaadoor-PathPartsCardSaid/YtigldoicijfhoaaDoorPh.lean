/- path.order: which of two texts is ahead, part by part; cmp.Compare of texts. Condition: texts of at most 10^6 bytes. -/
import Derived.Test.YtigldoicijfhoaaDoorPb
import Derived.Test.YtigldoicijfhoaaDoorPg
namespace Go.Proofs.YtigldoicijfhoaaDoor.H
open Go.RowKit Go.Shelf

theorem ret_int {k : IntKind} {a b : Int} (h : a = b) : Ending.returned (.int k a) = .returned (.int k b) := by rw [h]
set_option maxHeartbeats 400000 in
theorem nan_any (a : Bs) (w : World) : Calls Tryd.prog 43 #[.string (mkB a)] w fun e w' => e = .returned (.bool false) ∧ w = w' := by
  go_enter Tryd.func43, Tryd.ntmps43
  go_wp2
  go_ret
  simp
set_option maxHeartbeats 1000000 in
theorem compare_any (a b : Bs) (w : World) : Calls Tryd.prog 35 #[.string (mkB a), .string (mkB b)] w fun e w' => e = .returned (.int .i64 (cmpB a b)) ∧ w = w' := by
  rcases ltB_tri a b with h | h | h
  · have hc : cmpB a b = -1 := by unfold cmpB; rw [if_pos h]
    have H := Lib.hid hc
    clear hc
    go_enter Tryd.func35, Tryd.ntmps35
    go_wp2_with (go_at_call 43; refine (nan_any _ _).mono ?_; rintro e w' ⟨rfl, rfl⟩)
    go_ret
    exact ⟨ret_int H.out.symm, rfl⟩
  · subst h
    have hc : cmpB a a = 0 := by unfold cmpB; simp [ltB_irr]
    have H := Lib.hid hc
    have h1 := ltB_irr a
    clear hc
    go_enter Tryd.func35, Tryd.ntmps35
    go_wp2_with (go_at_call 43; refine (nan_any _ _).mono ?_; rintro e w' ⟨rfl, rfl⟩)
    go_ret
    exact ⟨ret_int H.out.symm, rfl⟩
  · have h2 := ltB_asymm b a h
    have h3 : (a == b) = false := by
      rw [beq_eq_false_iff_ne]; rintro rfl; rw [ltB_irr] at h; cases h
    have hc : cmpB a b = 1 := by unfold cmpB; rw [h2]; simp [by simpa using h3]
    have H := Lib.hid hc
    clear hc h
    go_enter Tryd.func35, Tryd.ntmps35
    go_wp2_with (go_at_call 43; refine (nan_any _ _).mono ?_; rintro e w' ⟨rfl, rfl⟩)
    go_ret
    exact ⟨ret_int H.out.symm, rfl⟩



def cp (l : Bs) : Bs := (brk l).1
def cr (l : Bs) : Bs := (brk l).2.getD []
def cf (l : Bs) : Bool := (brk l).2.isSome
theorem cut_any (l : Bs) (w : World) (hl : l.length ≤ 4000000000) :
    Calls Tryd.prog 40 #[.string (mkB l), .string ⟨#[47]⟩] w fun e w' => e = .returned (.tuple #[.string (mkB (cp l)), .string (mkB (cr l)), .bool (cf l)]) ∧ ∃ n, w' = w.drewN n := by
  rcases h : (brk l).2 with _ | r
  · refine (cut_none l w h).mono ?_
    rintro e w' ⟨rfl, rfl⟩
    refine ⟨?_, 0, rfl⟩
    unfold cp cr cf
    rw [h, (brk_none h).1]; rfl
  · refine (cut_some l r w h hl).mono ?_
    rintro e w' ⟨rfl, n, rfl⟩
    refine ⟨?_, n, rfl⟩
    unfold cp cr cf
    rw [h]; rfl
theorem ordP_cut (a b : Bs) : ordP (sp a) (sp b) = if cp a = cp b then (if cf a then (if cf b then ordP (sp (cr a)) (sp (cr b)) else 1) else if cf b then -1 else 0) else cmpB (cp a) (cp b) := by
  rw [sp_brk a, sp_brk b, ordP]
  unfold cp cr cf
  rcases ha : (brk a).2 with _ | a' <;> rcases hb : (brk b).2 with _ | b'
  · rfl
  · obtain ⟨x, y, h⟩ : ∃ x y, sp b' = x :: y := by
      rcases h : sp b' with _ | ⟨x, y⟩
      · exact (sp_ne b' h).elim
      · exact ⟨x, y, rfl⟩
    simp [h, ordP]
  · obtain ⟨x, y, h⟩ : ∃ x y, sp a' = x :: y := by
      rcases h : sp a' with _ | ⟨x, y⟩
      · exact (sp_ne a' h).elim
      · exact ⟨x, y, rfl⟩
    simp [h, ordP]
  · rfl
theorem cr_lt {l : Bs} (h : cf l = true) : (cr l).length < l.length := by
  unfold cf at h
  unfold cr
  rcases hr : (brk l).2 with _ | r
  · rw [hr] at h; cases h
  · have h1 := congrArg List.length (brk_some hr).1
    simp at h1 ⊢
    omega
set_option maxRecDepth 100000 in
set_option maxHeartbeats 2000000 in
theorem order_step (a b : Bs) (w : World) (ha : a.length ≤ 1000000) (hb : b.length ≤ 1000000)
    (ih : ∀ w, cf a = true → cf b = true → Calls Tryd.prog 34 #[.string (mkB (cr a)), .string (mkB (cr b))] w fun e w' => e = .returned (.int .i64 (ordP (sp (cr a)) (sp (cr b)))) ∧ ∃ n, w' = w.drewN n) :
    Calls Tryd.prog 34 #[.string (mkB a), .string (mkB b)] w fun e w' => e = .returned (.int .i64 (ordP (sp a) (sp b))) ∧ ∃ n, w' = w.drewN n := by
  have hs := ordP_cut a b
  have CA := Lib.hid (fun w => cut_any a w (by omega)); have CB := Lib.hid (fun w => cut_any b w (by omega))
  generalize cp a = p at *
  generalize cp b = q at *
  generalize cr a = a' at *
  generalize cr b = b' at *
  generalize ordP (sp a) (sp b) = r at *
  generalize ordP (sp a') (sp b') = r' at *
  rcases hm : cf a with _ | _ <;> rcases ho : cf b with _ | _ <;> rw [hm, ho] at ih <;> rw [hm, ho] at hs <;> rw [hm] at CA <;> rw [ho] at CB
  all_goals
    replace hm := Lib.hid hm; replace ho := Lib.hid ho; have HI := Lib.hid ih
    clear ih
    by_cases hpq : p = q
    case neg =>
      have H : Hid (r = cmpB p q) := Lib.hid (by rw [hs, if_neg hpq])
      have hq : (p == q) = false := by simp [hpq]
      clear hs hpq
      go_enter Tryd.func34, Tryd.ntmps34
      go_wp2_with fail
      refine (CA.out _).mono ?_
      rintro e w' ⟨rfl, n, rfl⟩
      go_wp2_with fail
      refine (CB.out _).mono ?_
      rintro e w' ⟨rfl, m, rfl⟩
      go_wp2_with fail
      refine (compare_any p q _).mono ?_
      rintro e w' ⟨rfl, rfl⟩
      go_wp2_with fail
      go_ret
      exact ⟨ret_int H.out.symm, _, rfl⟩
    have hq : (p == q) = true := by simp [hpq]
    rw [if_pos hpq] at hs
    have H := Lib.hid hs
    clear hs hpq
  · go_enter Tryd.func34, Tryd.ntmps34
    go_wp2_with fail
    refine (CA.out _).mono ?_
    rintro e w' ⟨rfl, n, rfl⟩
    go_wp2_with fail
    refine (CB.out _).mono ?_
    rintro e w' ⟨rfl, m, rfl⟩
    go_wp2_with fail
    go_ret
    exact ⟨ret_int H.out.symm, _, rfl⟩
  · go_enter Tryd.func34, Tryd.ntmps34
    go_wp2_with fail
    refine (CA.out _).mono ?_
    rintro e w' ⟨rfl, n, rfl⟩
    go_wp2_with fail
    refine (CB.out _).mono ?_
    rintro e w' ⟨rfl, m, rfl⟩
    go_wp2_with fail
    go_ret
    exact ⟨ret_int H.out.symm, _, rfl⟩
  · go_enter Tryd.func34, Tryd.ntmps34
    go_wp2_with fail
    refine (CA.out _).mono ?_
    rintro e w' ⟨rfl, n, rfl⟩
    go_wp2_with fail
    refine (CB.out _).mono ?_
    rintro e w' ⟨rfl, m, rfl⟩
    go_wp2_with fail
    go_ret
    exact ⟨ret_int H.out.symm, _, rfl⟩
  · go_enter Tryd.func34, Tryd.ntmps34
    go_wp2_with fail
    refine (CA.out _).mono ?_
    rintro e w' ⟨rfl, n, rfl⟩
    go_wp2_with fail
    refine (CB.out _).mono ?_
    rintro e w' ⟨rfl, m, rfl⟩
    go_wp2_with fail
    refine (HI.out _ (by simp) (by simp)).mono ?_
    rintro e w' ⟨rfl, x, rfl⟩
    go_wp2_with fail
    go_ret
    exact ⟨ret_int H.out.symm, _, rfl⟩

set_option maxRecDepth 100000 in
set_option maxHeartbeats 2000000 in
theorem order_any (k : Nat) : ∀ (a b : Bs) (w : World), a.length ≤ k → a.length ≤ 1000000 → b.length ≤ 1000000 →
    Calls Tryd.prog 34 #[.string (mkB a), .string (mkB b)] w fun e w' => e = .returned (.int .i64 (ordP (sp a) (sp b))) ∧ ∃ n, w' = w.drewN n := by
  induction k with
  | zero =>
    intro a b w hk ha hb
    obtain rfl : a = [] := List.eq_nil_of_length_eq_zero (by omega)
    exact order_step [] b w (by simp) hb (fun w h => by cases h)
  | succ k ih =>
    intro a b w hk ha hb
    refine order_step a b w ha hb (fun w hr hr' => ?_)
    have h1 := cr_lt hr
    have h2 := cr_lt hr'
    exact ih _ _ w (by omega) (by omega) (by omega)
end Go.Proofs.YtigldoicijfhoaaDoor.H
