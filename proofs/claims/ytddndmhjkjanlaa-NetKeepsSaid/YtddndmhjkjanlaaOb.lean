/- What NetOrder needs of the net as a value: sends in order, two that change places twice, a bit that is turned twice, the first one. -/
import Derived.Test.YtddndmhjkjanlaaOa
namespace Go.Proofs.Ytddndmhjkjanlaa
open Go.RowKit Go.Shelf

def okD (d : Dg) : Bool := endB d.1 && endB d.2.1 && decide (d.2.2.length ≤ 1500)
theorem send_ord (l : List Dg) (d : Dg) (hl : l.length < 2000) : (okD d = true ∧ St.send ⟨l, [], 0⟩ d = (0, ⟨l ++ [d], [], 0⟩)) ∨ (okD d = false ∧ ∃ r, r ≠ 0 ∧ St.send ⟨l, [], 0⟩ d = (r, ⟨l, [], 0⟩)) := by
  have h2 : ¬ 2000 ≤ l.length := by omega
  unfold St.send okD
  by_cases h : (endB d.1 && endB d.2.1) = false
  · right
    rw [if_pos h]
    exact ⟨by rw [h]; rfl, 2, by omega, rfl⟩
  · have h' : (endB d.1 && endB d.2.1) = true := by rcases h0 : (endB d.1 && endB d.2.1) <;> simp_all
    rw [if_neg h, h']
    by_cases h3 : 1500 < d.2.2.length
    · right
      rw [if_pos h3]
      exact ⟨by simp; omega, 3, by omega, rfl⟩
    · left
      rw [if_neg h3]
      exact ⟨by simp; omega, by simp [h2]⟩
theorem swap_twice (l : List Dg) (K : List (Int × Int)) (n : Int) (i k : Nat) (hi : i < l.length) (hk : k < l.length) :
    ∃ l', St.swap ⟨l, K, n⟩ (i : Int) (k : Int) = (0, ⟨l', K, n⟩) ∧ St.swap ⟨l', K, n⟩ (k : Int) (i : Int) = (0, ⟨l, K, n⟩) := by
  have at1 : ∀ (l : List Dg) (K : List (Int × Int)) (n : Int) (j : Nat), j < l.length → St.at? ⟨l, K, n⟩ (j : Int) = some j := fun l K n j hj => by
    unfold St.at?
    rw [if_neg (by dsimp only []; omega)]
    simp
  refine ⟨(l.set i (l.getD k zD)).set k (l.getD i zD), ?_, ?_⟩
  · unfold St.swap
    rw [at1 _ _ _ _ hi, at1 _ _ _ _ hk]
  · unfold St.swap
    rw [at1 _ _ _ _ (by simpa using hk), at1 _ _ _ _ (by simpa using hi)]
    dsimp only []
    congr 2
    apply List.ext_getElem?
    intro j
    simp only [List.getElem?_set, List.getD_eq_getElem?_getD, List.length_set]
    by_cases h1 : i = j <;> by_cases h2 : k = j
    · subst h1; subst h2; simp [hi, hk]
    · subst h1; simp [hi, hk, h2, Ne.symm h2]
    · subst h2; simp [hi, hk, h1, Ne.symm h1]
    · simp [h1, h2]
theorem turn_turn (xs : List UInt8) (k : Nat) : turnB (turnB xs k) k = xs := by
  unfold turnB
  apply List.ext_getElem?
  intro j
  simp only [List.getElem?_set, List.getD_eq_getElem?_getD, List.length_set]
  by_cases h1 : k / 8 = j
  · subst h1
    by_cases h2 : k / 8 < xs.length
    · simp [h2, UInt8.xor_assoc]
    · simp [h2, List.getElem?_eq_none (Nat.le_of_not_lt h2)]
  · simp [h1]
theorem turn_twice (l : List Dg) (K : List (Int × Int)) (n : Int) (i b : Nat) (d : Dg) (hi : l[i]? = some d) (hb : b / 8 < d.2.2.length) :
    ∃ l', St.turn ⟨l, K, n⟩ (i : Int) (b : Int) = (0, ⟨l', K, n⟩) ∧ St.turn ⟨l', K, n⟩ (i : Int) (b : Int) = (0, ⟨l, K, n⟩) := by
  have hil : i < l.length := (List.getElem?_eq_some_iff.1 hi).1
  have at1 : ∀ (l : List Dg) (K : List (Int × Int)) (n : Int) (j : Nat), j < l.length → St.at? ⟨l, K, n⟩ (j : Int) = some j := fun l K n j hj => by
    unfold St.at?
    rw [if_neg (by dsimp only []; omega)]
    simp
  have hg : l.getD i zD = d := by rw [List.getD_eq_getElem?_getD, hi]; rfl
  refine ⟨l.set i (d.1, d.2.1, turnB d.2.2 b), ?_, ?_⟩
  · unfold St.turn
    rw [at1 _ _ _ _ hil]
    dsimp only []
    rw [hg, if_neg (by omega)]
    simp
  · have hg2 : (l.set i (d.1, d.2.1, turnB d.2.2 b)).getD i zD = (d.1, d.2.1, turnB d.2.2 b) := by
      rw [List.getD_eq_getElem?_getD, List.getElem?_set_self hil]; rfl
    unfold St.turn
    rw [at1 _ _ _ _ (by simpa using hil)]
    dsimp only []
    rw [hg2]
    dsimp only []
    rw [if_neg (by simp [turnB]; omega)]
    congr 2
    simp only [List.set_set, Int.toNat_natCast, turn_turn]
    apply List.ext_getElem?
    intro j
    rw [List.getElem?_set]
    split
    · rename_i e
      subst e
      simp [hil]
      rw [List.getElem?_eq_getElem hil] at hi
      simpa using hi.symm
    · rfl
/-- The first one to an end is one to it, and none ahead of it is. -/
theorem firstD_is (l : List Dg) (i : Nat) (d : Dg) (hi : l[i]? = some d) : ∃ k : Nat, firstD l d.2.1 = (k : Int) ∧ k ≤ i ∧ k < l.length ∧ (∃ e, l[k]? = some e ∧ e.2.1 = d.2.1) ∧ ∀ j e, j < k → l[j]? = some e → e.2.1 ≠ d.2.1 := by
  unfold firstD
  rcases h : l.findIdx? (fun x => x.2.1 == d.2.1) with _ | k
  · rw [List.findIdx?_eq_none_iff] at h
    have := h d (List.mem_of_getElem? hi)
    simp at this
  · have h0 := h
    rw [List.findIdx?_eq_some_iff_getElem] at h
    obtain ⟨hk, h1, h2⟩ := h
    refine ⟨k, by rw [h0], ?_, hk, ⟨l[k], List.getElem?_eq_getElem hk, by simpa using h1⟩, fun j e hj he => ?_⟩
    · rcases Nat.lt_or_ge i k with h3 | h3
      · have := h2 i h3
        obtain ⟨h4, h5⟩ := List.getElem?_eq_some_iff.1 hi
        rw [h5] at this
        simp at this
      · exact h3
    · have := h2 j hj
      obtain ⟨h4, h5⟩ := List.getElem?_eq_some_iff.1 he
      rw [h5] at this
      simpa using this
end Go.Proofs.Ytddndmhjkjanlaa
