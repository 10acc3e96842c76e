/- The plain law of paths: their order, parents, joins; no program in sight. -/
import Derived.Test.YtigldoicijfhoaaDoorPa
namespace Go.Proofs.YtigldoicijfhoaaDoor.H

/-! ### The order of texts as bytes -/
abbrev ltB (a b : Bs) : Bool := Op.bytesLess a b
def cmpB (a b : Bs) : Int := if ltB a b then -1 else if a = b then 0 else 1
structure CmpLaw {α : Type} (c : α → α → Int) : Prop where
  anti : ∀ a b, c a b = - c b a
  rng : ∀ a b, -1 ≤ c a b ∧ c a b ≤ 1
  eq : ∀ a b, c a b = 0 ↔ a = b
  tr : ∀ a b d, c a b ≤ 0 → c b d ≤ 0 → c a d ≤ 0
theorem ltB_cons (x y : UInt8) (a b : Bs) : ltB (x :: a) (y :: b) = (decide (x < y) || (x == y && ltB a b)) := rfl
theorem ltB_irr : ∀ a : Bs, ltB a a = false
  | [] => rfl
  | x :: a => by rw [ltB_cons, ltB_irr a]; simp
theorem ltB_tri : ∀ a b : Bs, ltB a b = true ∨ a = b ∨ ltB b a = true
  | [], [] => .inr (.inl rfl)
  | [], _ :: _ => .inl rfl
  | _ :: _, [] => .inr (.inr rfl)
  | x :: a, y :: b => by
    rw [ltB_cons, ltB_cons]
    by_cases h : x = y
    · subst h
      rcases ltB_tri a b with h | h | h
      · exact .inl (by simp [h])
      · exact .inr (.inl (by rw [h]))
      · exact .inr (.inr (by simp [h]))
    · by_cases h1 : x < y
      · exact .inl (by simp [h1])
      · have : y < x := UInt8.lt_of_le_of_ne (UInt8.not_lt.1 h1) (Ne.symm h)
        exact .inr (.inr (by simp [this]))
theorem ltB_asymm : ∀ a b : Bs, ltB a b = true → ltB b a = false
  | [], [], h => by cases h
  | [], _ :: _, _ => rfl
  | _ :: _, [], h => by cases h
  | x :: a, y :: b, h => by
    rw [ltB_cons] at h ⊢
    by_cases e : x = y
    · subst e
      simp at h ⊢
      exact ltB_asymm a b h
    · have h1 : x < y := by simpa [e] using h
      have h2 : ¬ y < x := UInt8.not_lt.2 (UInt8.le_of_lt h1)
      simp [h2, Ne.symm e]
theorem ltB_trans : ∀ a b d : Bs, ltB a b = true → ltB b d = true → ltB a d = true
  | [], [], _, h, _ => by cases h
  | [], _ :: _, [], _, h => by cases h
  | [], _ :: _, _ :: _, _, _ => rfl
  | _ :: _, [], _, h, _ => by cases h
  | _ :: _, _ :: _, [], _, h => by cases h
  | x :: a, y :: b, z :: d, h, k => by
    rw [ltB_cons] at h k ⊢
    by_cases e : x = y
    · subst e
      by_cases e' : x = z
      · subst e'
        simp at h k ⊢
        exact ltB_trans a b d h k
      · have h1 : x < z := by simpa [e'] using k
        simp [h1]
    · have h1 : x < y := by simpa [e] using h
      by_cases e' : y = z
      · subst e'; simp [h1]
      · have h2 : y < z := by simpa [e'] using k
        have : x < z := UInt8.lt_trans h1 h2
        simp [this]
theorem cmpB_law : CmpLaw cmpB where
  anti a b := by
    unfold cmpB
    rcases ltB_tri a b with h | h | h
    · simp [h, ltB_asymm a b h]
      by_cases e : b = a
      · subst e; rw [ltB_irr] at h; cases h
      · simp [e]
    · subst h; simp [ltB_irr]
    · simp [h, ltB_asymm b a h]
      by_cases e : a = b
      · subst e; rw [ltB_irr] at h; cases h
      · simp [e]
  rng a b := by unfold cmpB; split <;> (try split) <;> omega
  eq a b := by
    unfold cmpB
    by_cases h : ltB a b = true
    · rw [if_pos h]
      refine ⟨fun e => by omega, fun e => ?_⟩
      subst e; rw [ltB_irr] at h; cases h
    · rw [if_neg h]
      by_cases e : a = b
      · simp [e]
      · simp [e]
  tr a b d h k := by
    unfold cmpB at *
    have h1 : ltB a b = true ∨ a = b := by
      by_cases h1 : ltB a b = true
      · exact .inl h1
      · rw [if_neg h1] at h
        by_cases e : a = b
        · exact .inr e
        · rw [if_neg e] at h; omega
    have h2 : ltB b d = true ∨ b = d := by
      by_cases h1 : ltB b d = true
      · exact .inl h1
      · rw [if_neg h1] at k
        by_cases e : b = d
        · exact .inr e
        · rw [if_neg e] at k; omega
    rcases h1 with h1 | rfl
    · rcases h2 with h2 | rfl
      · rw [if_pos (ltB_trans a b d h1 h2)]; omega
      · rw [if_pos h1]; omega
    · rcases h2 with h2 | rfl
      · rw [if_pos h2]; omega
      · rw [ltB_irr]; simp

/-! ### The order of parts, and of paths -/
def ordP : List Bs → List Bs → Int
  | [], [] => 0
  | [], _ :: _ => -1
  | _ :: _, [] => 1
  | p :: q, p' :: q' => if p = p' then ordP q q' else cmpB p p'
theorem ordP_law : CmpLaw ordP where
  anti := by
    intro a
    induction a with
    | nil => intro b; cases b <;> simp [ordP]
    | cons p q ih =>
      intro b
      cases b with
      | nil => simp [ordP]
      | cons p' q' =>
        unfold ordP
        by_cases h : p = p'
        · rw [if_pos h, if_pos h.symm]; exact ih q'
        · rw [if_neg h, if_neg (Ne.symm h)]; exact cmpB_law.anti _ _
  rng := by
    intro a
    induction a with
    | nil => intro b; cases b <;> simp [ordP]
    | cons p q ih =>
      intro b
      cases b with
      | nil => simp [ordP]
      | cons p' q' =>
        unfold ordP
        split
        · exact ih q'
        · exact cmpB_law.rng _ _
  eq := by
    intro a
    induction a with
    | nil => intro b; cases b <;> simp [ordP]
    | cons p q ih =>
      intro b
      cases b with
      | nil => simp [ordP]
      | cons p' q' =>
        unfold ordP
        by_cases h : p = p'
        · rw [if_pos h, ih q']; simp [h]
        · rw [if_neg h, cmpB_law.eq]; simp [h]
  tr := by
    intro a
    induction a with
    | nil => intro b d h k; cases d <;> simp [ordP]
    | cons p q ih =>
      intro b d h k
      cases b with
      | nil => simp [ordP] at h
      | cons p' q' =>
        cases d with
        | nil => simp [ordP] at k
        | cons p'' q'' =>
          unfold ordP at h k ⊢
          by_cases e : p = p'
          · subst e
            rw [if_pos rfl] at h
            by_cases e' : p = p''
            · subst e'
              rw [if_pos rfl] at k ⊢
              exact ih _ _ h k
            · rw [if_neg e'] at k ⊢; exact k
          · rw [if_neg e] at h
            by_cases e' : p' = p''
            · subst e'
              rw [if_neg e]; exact h
            · rw [if_neg e'] at k
              have h3 := cmpB_law.tr _ _ _ h k
              by_cases e2 : p = p''
              · subst e2
                have h4 := cmpB_law.anti p p'
                have : cmpB p p' = 0 := by omega
                exact (e ((cmpB_law.eq _ _).1 this)).elim
              · rw [if_neg e2]; exact h3
def cmpP (a b : Bs) : Int := if okP a then (if okP b then ordP (sp a) (sp b) else 1) else if okP b then -1 else cmpB a b
theorem cmpP_law : CmpLaw cmpP where
  anti a b := by
    unfold cmpP
    cases okP a <;> cases okP b <;> simp
    · exact cmpB_law.anti _ _
    · exact ordP_law.anti _ _
  rng a b := by
    unfold cmpP
    cases okP a <;> cases okP b <;> simp
    · exact cmpB_law.rng _ _
    · exact ordP_law.rng _ _
  eq a b := by
    unfold cmpP
    rcases ha : okP a <;> rcases hb : okP b <;> simp
    · exact cmpB_law.eq _ _
    · rintro rfl; rw [ha] at hb; cases hb
    · rintro rfl; rw [ha] at hb; cases hb
    · rw [ordP_law.eq]; exact ⟨sp_inj, fun e => by rw [e]⟩
  tr a b d := by
    unfold cmpP
    cases okP a <;> cases okP b <;> cases okP d <;> simp
    · exact cmpB_law.tr _ _ _
    · exact ordP_law.tr _ _ _

/-! ### Parents, bases, joins, what lies under -/
def parE (s : Bs) : Bs × Bool := if okP s && decide (2 ≤ (sp s).length) then (jn (sp s).dropLast, true) else ([], false)
def basE (s : Bs) : Bs := if okP s then (sp s).getLastD [] else []
def joinE (d p : Bs) : Bs × Int :=
  if (stepE p).1 ≠ 0 ∨ (d ≠ [] ∧ okP d = false) then ([], 2) else if d = [] then (p, 0) else if okP (d ++ 47 :: p) then (d ++ 47 :: p, 0) else ([], 3)
def undE (s d : Bs) : Bool := okP s && okP d && (d ++ [47]).isPrefixOf s
end Go.Proofs.YtigldoicijfhoaaDoor.H
