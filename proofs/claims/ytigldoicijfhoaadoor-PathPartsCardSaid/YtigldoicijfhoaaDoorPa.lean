/- The plain law of paths: parts, their faults, their order; no program in sight. -/
import Derived.Lib.IndexMore
import Derived.Lib.LastIndexByte
namespace Go.Proofs.YtigldoicijfhoaaDoor.H

abbrev Bs := List UInt8

/-! ### A text by its strokes -/
def sp : Bs → List Bs
  | [] => [[]]
  | c :: r => if c = 47 then [] :: sp r else
    match sp r with
    | [] => [[c]]
    | p :: q => (c :: p) :: q
/-- Up to the first stroke, and what is behind it. -/
def brk : Bs → Bs × Option Bs
  | [] => ([], none)
  | c :: r => if c = 47 then ([], some r) else (c :: (brk r).1, (brk r).2)
def jn : List Bs → Bs
  | [] => []
  | [p] => p
  | p :: q :: r => p ++ 47 :: jn (q :: r)

theorem sp_ne (s : Bs) : sp s ≠ [] := by
  cases s with
  | nil => simp [sp]
  | cons c r =>
    unfold sp
    split
    · simp
    · split <;> simp
theorem sp_brk (s : Bs) : sp s = (brk s).1 :: (match (brk s).2 with | none => [] | some r => sp r) := by
  induction s with
  | nil => rfl
  | cons c r ih =>
    rw [sp, brk]
    by_cases h : c = 47
    · rw [if_pos h, if_pos h]
    · rw [if_neg h, if_neg h, ih]
theorem brk_none {s : Bs} (h : (brk s).2 = none) : (brk s).1 = s ∧ 47 ∉ s := by
  induction s with
  | nil => simp [brk]
  | cons c r ih =>
    unfold brk at h ⊢
    by_cases hc : c = 47
    · simp [hc] at h
    · simp only [hc, if_false] at h ⊢
      have := ih h
      simp [this.1, this.2, Ne.symm hc]
theorem brk_some {s r : Bs} (h : (brk s).2 = some r) : s = (brk s).1 ++ 47 :: r ∧ 47 ∉ (brk s).1 := by
  induction s with
  | nil => simp [brk] at h
  | cons c t ih =>
    unfold brk at h ⊢
    by_cases hc : c = 47
    · simp [hc] at h ⊢; exact h
    · simp only [hc, if_false] at h ⊢
      have := ih h
      refine ⟨by rw [List.cons_append, ← this.1], by simp [this.2, Ne.symm hc]⟩
theorem jn_cons (p : Bs) {l : List Bs} (h : l ≠ []) : jn (p :: l) = p ++ 47 :: jn l := by
  cases l with
  | nil => exact (h rfl).elim
  | cons q r => rfl
theorem jn_sp (s : Bs) : jn (sp s) = s := by
  induction h : s.length using Nat.strongRecOn generalizing s with
  | ind n ih =>
    rw [sp_brk]
    rcases hb : (brk s).2 with _ | r
    · exact (brk_none hb).1
    · dsimp only
      rw [jn_cons _ (sp_ne r), ih r.length (by
        have := congrArg List.length (brk_some hb).1
        simp at this; omega) r rfl]
      exact (brk_some hb).1.symm
theorem sp_no {s : Bs} (h : 47 ∉ s) : sp s = [s] := by
  induction s with
  | nil => rfl
  | cons c r ih =>
    simp only [List.mem_cons, not_or] at h
    unfold sp
    rw [if_neg (Ne.symm h.1), ih h.2]
theorem sp_app {p : Bs} (h : 47 ∉ p) (r : Bs) : sp (p ++ 47 :: r) = p :: sp r := by
  induction p with
  | nil => simp [sp]
  | cons c q ih =>
    simp only [List.mem_cons, not_or] at h
    rw [List.cons_append, sp, if_neg (Ne.symm h.1), ih h.2]
theorem sp_mem (s : Bs) : ∀ p ∈ sp s, 47 ∉ p := by
  induction s with
  | nil => simp [sp]
  | cons c r ih =>
    unfold sp
    by_cases h : c = 47
    · simp only [h, if_true, List.mem_cons]
      rintro p (rfl | hp)
      · simp
      · exact ih p hp
    · simp only [h, if_false]
      rcases hr : sp r with _ | ⟨q, t⟩
      · simp [Ne.symm h]
      · rw [hr] at ih
        simp only [List.mem_cons]
        rintro p (rfl | hp)
        · have := ih q (by simp)
          simp [Ne.symm h, this]
        · exact ih p (by simp [hp])
theorem sp_jn {l : List Bs} (h0 : l ≠ []) (h : ∀ p ∈ l, 47 ∉ p) : sp (jn l) = l := by
  induction l with
  | nil => exact (h0 rfl).elim
  | cons p q ih =>
    rcases q with _ | ⟨p', q⟩
    · exact sp_no (h p (by simp))
    · rw [jn_cons p (by simp), sp_app (h p (by simp)), ih (by simp) (fun x hx => h x (by simp [hx]))]
theorem sp_inj {a b : Bs} (h : sp a = sp b) : a = b := by rw [← jn_sp a, ← jn_sp b, h]
theorem sp_join (a b : Bs) : sp (a ++ 47 :: b) = sp a ++ sp b := by
  induction a with
  | nil => simp [sp]
  | cons c r ih =>
    rw [List.cons_append, sp, sp, ih]
    by_cases h : c = 47
    · simp [h]
    · simp only [h, if_false]
      rcases hr : sp r with _ | ⟨q, t⟩
      · exact (sp_ne r hr).elim
      · rfl
theorem jn_length : ∀ {l : List Bs}, l ≠ [] → (jn l).length + 1 = (l.map (fun p => p.length + 1)).sum
  | [], h => (h rfl).elim
  | [p], _ => by simp [jn]
  | p :: q :: r, _ => by
    have := jn_length (l := q :: r) (by simp)
    rw [jn_cons p (by simp)]
    simp only [List.map_cons, List.sum_cons, List.length_append, List.length_cons] at this ⊢
    omega

/-! ### The library's words at one stroke -/
theorem brk_index (s : Bs) : Lib.index s [47] = (match (brk s).2 with | none => -1 | some _ => ((brk s).1.length : Int)) := by
  induction s with
  | nil => rfl
  | cons c r ih =>
    unfold Lib.index brk
    by_cases h : c = 47
    · simp [h, List.isPrefixOf]
    · simp only [h, if_false]
      have h1 : List.isPrefixOf [47] (c :: r) = false := by simp [List.isPrefixOf, Ne.symm h]
      rw [h1, ih]
      rcases (brk r).2 with _ | t
      · simp
      · have : ((((brk r).1.length : Nat) : Int) == -1) = false := by rw [beq_eq_false_iff_ne]; omega
        simp [this]
theorem cut_brk (s : Bs) : Lib.cut s [47] = (match (brk s).2 with | none => (s, [], false) | some r => ((brk s).1, r, true)) := by
  unfold Lib.cut
  rw [brk_index]
  rcases hb : (brk s).2 with _ | r
  · simp
  · obtain ⟨h1, _⟩ := brk_some hb
    dsimp only
    rw [if_pos (Int.natCast_nonneg _)]
    simp only [Int.toNat_natCast, List.length_singleton]
    generalize (brk s).1 = p at *
    subst h1
    simp

/-! ### What is wrong with a part, with a path -/
/-- The first byte that may not be. -/
def badAt : Bs → Option Nat
  | [] => none
  | c :: r => if c.toNat < 33 ∨ 126 < c.toNat ∨ c = 47 then some 0 else (badAt r).map (· + 1)
def stepE (p : Bs) : Int × Int :=
  if p = [] ∨ p = [46] ∨ p = [46, 46] then (2, 0) else
  match badAt p with
  | some i => (4, (i : Int))
  | none => if 60 < p.length then (3, 60) else (0, 0)
def chkL : Nat → Nat → List Bs → Int × Int
  | _, _, [] => (0, 0)
  | n, at', p :: q => if 20 ≤ n then (3, (at' : Int)) else if (stepE p).1 ≠ 0 then ((stepE p).1, (at' : Int) + (stepE p).2) else chkL (n + 1) (at' + p.length + 1) q
def chk (s : Bs) : Int × Int := if s = [] then (2, 0) else if 200 < s.length then (3, 200) else chkL 0 0 (sp s)
def okP (s : Bs) : Bool := decide ((chk s).1 = 0)

theorem badAt_lt {p : Bs} {i : Nat} (h : badAt p = some i) : i < p.length := by
  induction p generalizing i with
  | nil => cases h
  | cons c r ih =>
    unfold badAt at h
    split at h
    · injection h with h; subst h; simp
    · rcases hr : badAt r with _ | k
      · rw [hr] at h; cases h
      · rw [hr] at h; injection h with h; subst h; have := ih hr; simp; omega
theorem stepE_zero {p : Bs} : (stepE p).1 = 0 ↔ (p ≠ [] ∧ p ≠ [46] ∧ p ≠ [46, 46]) ∧ badAt p = none ∧ p.length ≤ 60 := by
  unfold stepE
  by_cases h : p = [] ∨ p = [46] ∨ p = [46, 46]
  · rw [if_pos h]; simp; intro h1 h2 h3; rcases h with h | h | h <;> contradiction
  · rw [if_neg h]
    simp only [not_or] at h
    rcases hb : badAt p with _ | i
    · dsimp only
      by_cases hl : 60 < p.length
      · rw [if_pos hl]; simp; omega
      · rw [if_neg hl]; simp; exact ⟨h, by omega⟩
    · simp
theorem stepE_range (p : Bs) : 0 ≤ (stepE p).1 ∧ (stepE p).1 ≤ 4 ∧ 0 ≤ (stepE p).2 ∧ (stepE p).2 ≤ p.length := by
  unfold stepE
  split
  · simp
  · split
    · rename_i i hi; have := badAt_lt hi; simp; omega
    · split <;> simp; omega
theorem badAt_none {p : Bs} (h : badAt p = none) : ∀ c ∈ p, 33 ≤ c.toNat ∧ c.toNat ≤ 126 ∧ c ≠ 47 := by
  induction p with
  | nil => simp
  | cons c r ih =>
    unfold badAt at h
    split at h
    · cases h
    · rename_i hc
      simp only [not_or] at hc
      rcases hr : badAt r with _ | k
      · intro x hx
        rcases List.mem_cons.1 hx with rfl | hx
        · exact ⟨by omega, by omega, hc.2.2⟩
        · exact ih hr x hx
      · rw [hr] at h; cases h
theorem chkL_zero : ∀ (n at' : Nat) (l : List Bs), (chkL n at' l).1 = 0 ↔ (l = [] ∨ n + l.length ≤ 20) ∧ ∀ p ∈ l, (stepE p).1 = 0
  | _, _, [] => by simp [chkL]
  | n, at', p :: q => by
    unfold chkL
    by_cases h1 : 20 ≤ n
    · rw [if_pos h1]; simp; intro h; omega
    · rw [if_neg h1]
      by_cases h2 : (stepE p).1 = 0
      · rw [if_neg (by simpa using h2), chkL_zero (n + 1) _ q]
        simp only [List.length_cons, List.mem_cons, forall_eq_or_imp, h2, true_and]
        constructor
        · rintro ⟨h, h'⟩
          refine ⟨.inr ?_, h'⟩
          rcases h with rfl | h
          · simp; omega
          · omega
        · rintro ⟨h, h'⟩
          refine ⟨?_, h'⟩
          rcases h with h | h
          · cases h
          · exact .inr (by omega)
      · rw [if_pos h2]; simp [h2]
theorem okP_iff (s : Bs) : okP s = true ↔ s ≠ [] ∧ s.length ≤ 200 ∧ (sp s).length ≤ 20 ∧ ∀ p ∈ sp s, (stepE p).1 = 0 := by
  unfold okP chk
  rw [decide_eq_true_eq]
  by_cases h0 : s = []
  · simp [h0]
  rw [if_neg h0]
  by_cases h1 : 200 < s.length
  · rw [if_pos h1]; simp; omega
  · rw [if_neg h1, chkL_zero]
    simp only [sp_ne, false_or, Nat.zero_add]
    exact ⟨fun h => ⟨h0, by omega, h⟩, fun h => h.2.2⟩
theorem chkL_range : ∀ (n at' : Nat) (l : List Bs) (m : Nat), at' + (l.map (fun p => p.length + 1)).sum ≤ m → 0 ≤ (chkL n at' l).1 ∧ (chkL n at' l).1 ≤ 4 ∧ 0 ≤ (chkL n at' l).2 ∧ (chkL n at' l).2 ≤ m
  | _, _, [], _, _ => by simp [chkL]
  | n, at', p :: q, m, h => by
    simp only [List.map_cons, List.sum_cons] at h
    unfold chkL
    have hr := stepE_range p
    split
    · simp; omega
    · split
      · dsimp only; omega
      · exact chkL_range (n + 1) _ q m (by omega)
theorem chk_range (s : Bs) : 0 ≤ (chk s).1 ∧ (chk s).1 ≤ 4 ∧ 0 ≤ (chk s).2 ∧ (chk s).2 ≤ 201 := by
  unfold chk
  split
  · simp
  · split
    · simp
    · refine chkL_range 0 0 _ 201 ?_
      have := jn_length (sp_ne s)
      rw [jn_sp] at this
      omega
end Go.Proofs.YtigldoicijfhoaaDoor.H
