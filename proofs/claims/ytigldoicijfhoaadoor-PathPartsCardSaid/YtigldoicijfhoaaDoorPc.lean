/- The plain law of paths: what the laws ask of parents, of what lies under, of joins; no program in sight. -/
import Derived.Test.YtigldoicijfhoaaDoorPb
namespace Go.Proofs.YtigldoicijfhoaaDoor.H

theorem jn_app {l m : List Bs} (h : l ≠ []) (k : m ≠ []) : jn (l ++ m) = jn l ++ 47 :: jn m := by
  induction l with
  | nil => exact (h rfl).elim
  | cons p q ih =>
    rcases q with _ | ⟨p', q⟩
    · rw [List.singleton_append, jn_cons p k]; rfl
    · rw [List.cons_append, jn_cons p (by simp), ih (by simp), jn_cons p (by simp)]
      simp
theorem jn_one (p : Bs) : jn [p] = p := rfl
theorem jn_pos {l : List Bs} (h : l ≠ []) (k : ∀ p ∈ l, p ≠ []) : jn l ≠ [] := by
  rcases l with _ | ⟨p, q⟩
  · exact (h rfl).elim
  · rcases q with _ | ⟨p', q⟩
    · exact k p (by simp)
    · rw [jn_cons p (by simp)]; simp
theorem okP_parts {s : Bs} (h : okP s = true) : ∀ p ∈ sp s, p ≠ [] := fun p hp => by
  have := ((okP_iff s).1 h).2.2.2 p hp
  exact (stepE_zero.1 this).1.1
/-- What stands ahead in a path is one. -/
theorem okP_pre {s : Bs} {l m : List Bs} (h : okP s = true) (e : sp s = l ++ m) (hl : l ≠ []) : okP (jn l) = true ∧ sp (jn l) = l := by
  have h2 : sp (jn l) = l := sp_jn hl (fun p hp => sp_mem s p (by rw [e]; simp [hp]))
  obtain ⟨h3, h4, h5, h6⟩ := (okP_iff s).1 h
  refine ⟨(okP_iff _).2 ⟨jn_pos hl (fun p hp => okP_parts h p (by rw [e]; simp [hp])), ?_, ?_, ?_⟩, h2⟩
  · rcases m with _ | ⟨x, y⟩
    · have : jn l = s := by rw [← jn_sp s, e]; simp
      rw [this]; exact h4
    · have : s = jn l ++ 47 :: jn (x :: y) := by rw [← jn_sp s, e, jn_app hl (by simp)]
      have := congrArg List.length this
      simp at this
      omega
  · rw [h2]; have := congrArg List.length e; simp at this; omega
  · rw [h2]; exact fun p hp => h6 p (by rw [e]; simp [hp])

theorem pre_split {a b : Bs} (h : a.isPrefixOf b = true) : ∃ r, b = a ++ r := by
  obtain ⟨r, hr⟩ := List.isPrefixOf_iff_prefix.1 h
  exact ⟨r, hr.symm⟩
theorem undE_iff (s d : Bs) : undE s d = true ↔ okP s = true ∧ okP d = true ∧ ∃ t, t ≠ [] ∧ sp s = sp d ++ t := by
  unfold undE
  simp only [Bool.and_eq_true]
  constructor
  · rintro ⟨⟨h1, h2⟩, h3⟩
    obtain ⟨r, hr⟩ := pre_split h3
    refine ⟨h1, h2, sp r, sp_ne r, ?_⟩
    rw [hr, List.append_assoc]
    exact sp_join d r
  · rintro ⟨h1, h2, t, ht, e⟩
    refine ⟨⟨h1, h2⟩, List.isPrefixOf_iff_prefix.2 ⟨jn t, ?_⟩⟩
    have := jn_app (sp_ne d) ht
    rw [← e, jn_sp, jn_sp] at this
    rw [this]; simp

theorem ordP_pre (l : List Bs) {t : List Bs} (h : t ≠ []) : ordP l (l ++ t) = -1 := by
  induction l with
  | nil => cases t with
    | nil => exact (h rfl).elim
    | cons => rfl
  | cons p q ih => rw [List.cons_append, ordP, if_pos rfl]; exact ih
theorem ordP_ext : ∀ (l m o : List Bs), ordP o l = 1 → (∀ t, t ≠ [] → o ≠ l ++ t) → ordP o (l ++ m) = 1
  | [], m, o, h, hn => by
    cases o with
    | nil => simp [ordP] at h
    | cons x y => exact (hn (x :: y) (by simp) rfl).elim
  | p :: q, m, o, h, hn => by
    cases o with
    | nil => simp [ordP] at h
    | cons x y =>
      rw [List.cons_append]
      unfold ordP at h ⊢
      by_cases e : x = p
      · subst e
        rw [if_pos rfl] at h ⊢
        exact ordP_ext q m y h (fun t ht e => hn t ht (by rw [e]; rfl))
      · rw [if_neg e] at h ⊢; exact h

theorem parE_some {s : Bs} (h : (parE s).2 = true) : ∃ l x, okP s = true ∧ l ≠ [] ∧ sp s = l ++ [x] ∧ (parE s).1 = jn l := by
  unfold parE at h ⊢
  split at h
  · rename_i h1
    rw [if_pos h1]
    simp only [Bool.and_eq_true, decide_eq_true_eq] at h1
    refine ⟨(sp s).dropLast, (sp s).getLast (sp_ne s), h1.1, ?_, by rw [List.dropLast_concat_getLast], rfl⟩
    intro e
    have := congrArg List.length e
    simp at this
    omega
  · cases h
theorem parE_of {s x : Bs} {l : List Bs} (h : okP s = true) (hl : l ≠ []) (e : sp s = l ++ [x]) : parE s = (jn l, true) := by
  unfold parE
  rw [if_pos]
  · rw [e]; simp
  · rw [h, e]
    have : 0 < l.length := List.length_pos_iff.2 hl
    simp; omega

/-- The first half of PathUnder. -/
theorem under_parent (s d : Bs) (h : (parE s).2 = true) : undE s (parE s).1 = true ∧ cmpP (parE s).1 s = -1 ∧ (undE (parE s).1 d = true → undE s d = true) := by
  obtain ⟨l, x, hs, hl, e, hp⟩ := parE_some h
  obtain ⟨h1, h2⟩ := okP_pre hs e hl
  rw [hp]
  refine ⟨(undE_iff _ _).2 ⟨hs, h1, [x], by simp, by rw [h2, e]⟩, ?_, fun h3 => ?_⟩
  · unfold cmpP
    rw [h1, hs, h2, e]
    exact ordP_pre l (by simp)
  · obtain ⟨_, hd, t, ht, e2⟩ := (undE_iff _ _).1 h3
    rw [h2] at e2
    exact (undE_iff _ _).2 ⟨hs, hd, t ++ [x], by simp, by rw [e, e2]; simp⟩
theorem under_dir (s d : Bs) (h : undE s d = true) : cmpP d s = -1 ∧ undE d s = false ∧ (parE s).2 = true ∧ ((parE s).1 = d ∨ undE (parE s).1 d = true) := by
  obtain ⟨hs, hd, t, ht, e⟩ := (undE_iff _ _).1 h
  obtain ⟨t', x, rfl⟩ : ∃ t' x, t = t' ++ [x] := ⟨t.dropLast, t.getLast ht, (List.dropLast_concat_getLast ht).symm⟩
  have e' : sp s = (sp d ++ t') ++ [x] := by rw [e]; simp
  have hl : sp d ++ t' ≠ [] := by simp [sp_ne]
  rw [parE_of hs hl e']
  refine ⟨?_, ?_, rfl, ?_⟩
  · unfold cmpP
    rw [hd, hs, e]
    exact ordP_pre _ (by simp)
  · by_cases hn : undE d s = true
    · obtain ⟨_, _, t2, ht2, e2⟩ := (undE_iff _ _).1 hn
      have := congrArg List.length (e2.trans (by rw [e]))
      simp at this
    · simpa using hn
  · dsimp only
    rcases t' with _ | ⟨y, z⟩
    · left; rw [List.append_nil, jn_sp]
    · right
      obtain ⟨h1, h2⟩ := okP_pre hs e' hl
      exact (undE_iff _ _).2 ⟨h1, hd, y :: z, by simp, h2⟩
theorem under_other (s d o : Bs) (h : undE s d = true) : okP o = false ∨ undE o d = true ∨ cmpP o d ≤ 0 ∨ cmpP o s = 1 := by
  obtain ⟨hs, hd, t, ht, e⟩ := (undE_iff _ _).1 h
  by_cases ho : okP o = true
  · by_cases hu : undE o d = true
    · exact .inr (.inl hu)
    · by_cases hc : cmpP o d ≤ 0
      · exact .inr (.inr (.inl hc))
      · refine .inr (.inr (.inr ?_))
        have h1 : ordP (sp o) (sp d) = 1 := by
          have := (ordP_law.rng (sp o) (sp d)).2
          unfold cmpP at hc
          rw [ho, hd] at hc
          simp at hc
          omega
        unfold cmpP
        rw [ho, hs, e]
        exact ordP_ext _ _ _ h1 (fun t ht e2 => hu ((undE_iff _ _).2 ⟨ho, hd, t, ht, e2⟩))
  · exact .inl (by simpa using ho)

/-! ### Joins -/
theorem okP_join {d p : Bs} (h : okP (d ++ 47 :: p) = true) (hp : 47 ∉ p) : sp (d ++ 47 :: p) = sp d ++ [p] := by
  rw [sp_join, sp_no hp]
theorem step_no {p : Bs} (h : (stepE p).1 = 0) : 47 ∉ p := fun hm => (badAt_none (stepE_zero.1 h).2.1 47 hm).2.2 rfl
theorem okP_one {p : Bs} (h : (stepE p).1 = 0) : okP p = true := by
  have h1 := stepE_zero.1 h
  refine (okP_iff p).2 ⟨h1.1.1, by omega, by rw [sp_no (step_no h)]; simp, ?_⟩
  rw [sp_no (step_no h)]
  simpa using h
theorem join_back (s p : Bs) (h : (joinE s p).2 = 0) : basE (joinE s p).1 = p ∧ (parE (joinE s p).1).1 = s ∧ (parE (joinE s p).1).2 = decide (s ≠ []) ∧ okP (joinE s p).1 = true := by
  unfold joinE at h ⊢
  split at h
  · exact absurd h (by simp)
  rename_i h1
  rw [if_neg h1]
  simp only [not_or, not_and, Decidable.not_not] at h1
  have hp := step_no h1.1
  split at h
  · rename_i h2
    subst h2
    rw [if_pos rfl]
    have ho := okP_one h1.1
    refine ⟨?_, ?_, ?_, ho⟩
    · unfold basE; rw [ho, sp_no hp]; rfl
    · unfold parE; rw [ho, sp_no hp]; rfl
    · unfold parE; rw [ho, sp_no hp]; rfl
  rename_i h2
  rw [if_neg h2]
  split at h
  · rename_i h3
    rw [if_pos h3]
    have e := okP_join h3 hp
    refine ⟨?_, ?_, ?_, h3⟩
    · unfold basE; rw [if_pos h3, e]; simp
    · rw [parE_of h3 (sp_ne s) e]; exact jn_sp s
    · rw [parE_of h3 (sp_ne s) e]; simp [h2]
  · exact absurd h (by simp)
theorem join_part {s : Bs} {l m : List Bs} {p : Bs} (h : okP s = true) (e : sp s = l ++ p :: m) : joinE (jn l) p = (jn (l ++ [p]), 0) := by
  have hp : (stepE p).1 = 0 := ((okP_iff s).1 h).2.2.2 p (by rw [e]; simp)
  unfold joinE
  rcases l with _ | ⟨x, y⟩
  · rw [if_neg (by simp [hp, jn]), if_pos (show jn [] = [] from rfl)]; rfl
  · have h1 := okP_pre (l := x :: y) (m := p :: m) h e (by simp)
    have h2 := okP_pre (l := x :: y ++ [p]) (m := m) h (by rw [e]; simp) (by simp)
    have h3 := jn_app (l := x :: y) (m := [p]) (by simp) (by simp)
    rw [jn_one] at h3
    have h4 : jn (x :: y) ≠ [] := ((okP_iff _).1 h1.1).1
    rw [if_neg (by simp [hp, h1.1]), if_neg h4, ← h3, if_pos h2.1]
theorem join_base {s : Bs} (h : okP s = true) : joinE (parE s).1 (basE s) = (s, 0) := by
  have e : sp s = (sp s).dropLast ++ [(sp s).getLast (sp_ne s)] := (List.dropLast_concat_getLast _).symm
  have hb : basE s = (sp s).getLast (sp_ne s) := by
    unfold basE; rw [if_pos h, List.getLastD_eq_getLast?, List.getLast?_eq_some_getLast (sp_ne s)]; rfl
  have := join_part (m := []) h e
  rw [← e, jn_sp] at this
  rw [hb]
  by_cases h2 : (sp s).dropLast = []
  · have hp : parE s = ([], false) := by
      unfold parE
      rw [if_neg]
      have := congrArg List.length h2
      simp at this ⊢
      intro; omega
    rw [hp]
    rw [h2] at this
    exact this
  · rw [parE_of h h2 e]; exact this
end Go.Proofs.YtigldoicijfhoaaDoor.H
