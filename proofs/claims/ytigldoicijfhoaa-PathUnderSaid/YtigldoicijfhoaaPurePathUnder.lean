/- PathUnder, over numbers and texts alone: what lies under a path stands right behind it. No condition. -/
import Derived.Test.YtigldoicijfhoaaQa
namespace Go.Proofs.Ytigldoicijfhoaa.Pure
open Go.RowKit Go.Proofs.Ytigldoicijfhoaa Go.Proofs.Ytigldoicijfhoaa.H Go.Proofs.Ytigldoicijfhoaa.XB Go.Proofs.YtigldoicijfhoaaW.PrintWords Go.Proofs.YtigldoicijfhoaaW.PrintLast

theorem PathUnder : satchellaw07_PathUnder.Pure := by
  intro a b c _ _ _
  refine ⟨3000, ?_⟩
  have hbig : satchellaw07_PathUnder.j0 3000 a b c true true = some true := by
    rw [show (3000 : Nat) = 2999 + 1 from rfl, satchellaw07_PathUnder.j0, if_pos rfl]
  unfold satchellaw07_PathUnder.f
  rw [awake_is]
  simp only [Option.bind_some]
  by_cases ha : (a.size : Int) > 300
  · rw [if_pos ha]; exact hbig
  rw [if_neg ha]
  by_cases hb : (b.size : Int) > 300
  · rw [if_pos hb]; exact hbig
  rw [if_neg hb]
  by_cases hc : (c.size : Int) > 300
  · rw [decide_eq_true hc]; exact hbig
  rw [decide_eq_false hc]
  have la : a.data.toList.length ≤ 300 := by rw [← Lib.size_eq]; omega
  have hpl : (parE a.data.toList).1.length ≤ 300 := by
    cases hp : (parE a.data.toList).2
    · have : (parE a.data.toList).1 = [] := by
        unfold parE at hp ⊢
        split at hp
        · cases hp
        · rename_i h; rw [if_neg h]
      rw [this]; simp
    · obtain ⟨l, x, h1, h2, h3, h4⟩ := parE_some hp
      have e := jn_app h2 (m := [x]) (by simp)
      rw [← h3, jn_sp] at e
      rw [h4]
      have := congrArg List.length e
      simp at this; omega
  have hps : (mkB (parE a.data.toList).1).size ≤ 1000000 := by rw [mkB_size]; omega
  have hA := under_parent a.data.toList b.data.toList
  have hB := under_dir a.data.toList b.data.toList
  have hC := under_other a.data.toList b.data.toList c.data.toList
  have u1 := under_is a (mkB (parE a.data.toList).1) hps
  have u2 := under_is (mkB (parE a.data.toList).1) b (by omega)
  have u3 := under_is a b (by omega)
  have u4 := under_is b a (by omega)
  have u5 := under_is c b (by omega)
  have c1 := compare_is 2999 (mkB (parE a.data.toList).1) a hps (by omega) (by omega)
  have c2 := compare_is 2998 b a (by omega) (by omega) (by omega)
  have c3 := compare_is 2997 c b (by omega) (by omega) (by omega)
  have c4 := compare_is 2997 c a (by omega) (by omega) (by omega)
  have v1 := lvalid_is c
  simp only [mkB_list] at u1 u2 c1
  have J2 : undE a.data.toList b.data.toList = true → satchellaw07_PathUnder.j2 2998 a b c true false = some true := fun hu => by
    rw [show (2998 : Nat) = 2997 + 1 from rfl]
    simp only [satchellaw07_PathUnder.j2, v1, u5, c3, c4, Option.bind_some]
    rcases hC hu with h | h | h | h
    · simp [h]
    · simp [h]
    · simp [h]
    · simp [h]
  have J1 : satchellaw07_PathUnder.j1 2999 a b c true (mkB (parE a.data.toList).1) (parE a.data.toList).2 false = some true := by
    rw [show (2999 : Nat) = 2998 + 1 from rfl]
    simp only [satchellaw07_PathUnder.j1, u2, u3, u4, c2, Option.bind_some, list_eq, mkB_list]
    by_cases hu : undE a.data.toList b.data.toList = true
    · obtain ⟨e1, e2, e3, e4⟩ := hB hu
      rw [if_neg (by simp), if_pos hu, if_pos e1, if_neg (by simp [e2]), if_pos e3]
      by_cases e5 : (parE a.data.toList).1 = b.data.toList
      · rw [if_pos e5]; exact J2 hu
      · rcases e4 with e4 | e4
        · exact (e5 e4).elim
        · rw [if_neg e5, e4]; exact J2 hu
    · rw [if_neg (by simp), if_neg hu]
  rw [show (3000 : Nat) = 2999 + 1 from rfl]
  simp only [satchellaw07_PathUnder.j0]
  rw [if_neg (by simp), parent_is a (by omega)]
  simp only [Option.bind_some, u1, c1, u2, u3]
  by_cases hp : (parE a.data.toList).2 = true
  · obtain ⟨e1, e2, e3⟩ := hA hp
    rw [if_pos hp, if_pos e1, if_pos e2]
    by_cases e4 : undE (parE a.data.toList).1 b.data.toList = true
    · rw [if_pos e4, e3 e4]; exact J1
    · rw [if_neg e4]; exact J1
  · rw [if_neg hp]; exact J1
end Go.Proofs.Ytigldoicijfhoaa.Pure
