/- NetKeeps: what each call does to the count and to what is on its way. -/
import Derived.Test.YtddndmhjkjanlaaOf
namespace Go.Proofs.Ytddndmhjkjanlaa
open Go.RowKit Go.Shelf

/-- All that is on its way was sent. -/
def From (turned : Bool) (sent : List Ed) (l : List Dg) : Prop := ∀ d ∈ l, ∃ s ∈ sent, mt turned s d
theorem From.mono {t : Bool} {sent sent' : List Ed} {l l' : List Dg} (h : From t sent l) (hl : ∀ d ∈ l', d ∈ l) (hs : ∀ s ∈ sent, s ∈ sent') : From t sent' l' := fun d hd => by
  obtain ⟨s, h1, h2⟩ := h d (hl d hd)
  exact ⟨s, hs s h1, h2⟩
theorem mt.more {t : Bool} {s : Ed} {d : Dg} (h : mt t s d) (t' : Bool) : mt (t' || t) s d := by
  obtain ⟨h1, h2, h3⟩ := h
  exact ⟨h1, h2, h3.imp id (fun h => ⟨by simp [h.1], h.2⟩)⟩
theorem take_is (M : St) (i : Int) : (∃ d M', M.take i = ((d, 0), M') ∧ d ∈ M.l ∧ M'.l.length + 1 = M.l.length ∧ M'.lost = M.lost ∧ ∀ x ∈ M'.l, x ∈ M.l) ∨ (M.take i = ((zD, 6), M)) := by
  unfold St.take
  rcases hk : M.at? i with _ | k
  · exact .inr rfl
  · obtain ⟨rfl, hlt⟩ := St.at?_some hk
    refine .inl ⟨_, _, rfl, ?_, ?_, rfl, fun x hx => List.mem_of_mem_eraseIdx hx⟩
    · rw [List.getD_eq_getElem?_getD, List.getElem?_eq_getElem hlt]; simp
    · simp [List.length_eraseIdx, hlt]; omega
theorem drop_is (M : St) (i : Int) : ∃ r M', M.drop i = (r, M') ∧ M'.l.length + M'.lost = M.l.length + M.lost ∧ M.lost ≤ M'.lost ∧ M'.lost ≤ M.lost + 1 ∧ ∀ x ∈ M'.l, x ∈ M.l := by
  unfold St.drop
  rcases hk : M.at? i with _ | k
  · exact ⟨_, _, rfl, rfl, by omega, by omega, fun x h => h⟩
  · obtain ⟨rfl, hlt⟩ := St.at?_some hk
    refine ⟨_, _, rfl, ?_, by dsimp only []; omega, by dsimp only []; omega, fun x hx => List.mem_of_mem_eraseIdx hx⟩
    simp [List.length_eraseIdx, hlt]; omega
theorem copy_is (M : St) (i : Int) : (∃ M', M.copy i = (0, M') ∧ M'.l.length = M.l.length + 1 ∧ M'.lost = M.lost ∧ ∀ x ∈ M'.l, x ∈ M.l) ∨ (∃ r, r ≠ 0 ∧ M.copy i = (r, M)) := by
  unfold St.copy
  rcases hk : M.at? i with _ | k
  · exact .inr ⟨6, by omega, rfl⟩
  · obtain ⟨rfl, hlt⟩ := St.at?_some hk
    dsimp only []
    by_cases h : 2000 ≤ M.l.length
    · rw [if_pos h]; exact .inr ⟨8, by omega, rfl⟩
    · rw [if_neg h]
      refine .inl ⟨_, rfl, by simp, rfl, fun x hx => ?_⟩
      rcases List.mem_append.1 hx with hx | hx
      · exact hx
      · simp only [List.mem_singleton] at hx
        subst hx
        rw [List.getD_eq_getElem?_getD, List.getElem?_eq_getElem hlt]; simp
theorem turn_is (M : St) (i bit : Int) : (∃ M', M.turn i bit = (0, M') ∧ M'.l.length = M.l.length ∧ M'.lost = M.lost ∧ ∀ x ∈ M'.l, x ∈ M.l ∨ ∃ y ∈ M.l, x.1 = y.1 ∧ x.2.1 = y.2.1 ∧ x.2.2.length = y.2.2.length) ∨ (∃ r, r ≠ 0 ∧ M.turn i bit = (r, M)) := by
  unfold St.turn
  rcases hk : M.at? i with _ | k
  · exact .inr ⟨6, by omega, rfl⟩
  · obtain ⟨rfl, hlt⟩ := St.at?_some hk
    dsimp only []
    by_cases h : bit < 0 ∨ ((M.l.getD k zD).2.2.length : Int) ≤ bit / 8
    · rw [if_pos h]; exact .inr ⟨5, by omega, rfl⟩
    · rw [if_neg h]
      refine .inl ⟨_, rfl, by simp, rfl, fun x hx => ?_⟩
      rcases List.mem_or_eq_of_mem_set hx with hx | rfl
      · exact .inl hx
      · refine .inr ⟨M.l.getD k zD, ?_, rfl, rfl, by simp [turnB]⟩
        rw [List.getD_eq_getElem?_getD, List.getElem?_eq_getElem hlt]; simp
theorem swap_is (M : St) (i k : Int) : ∃ r M', M.swap i k = (r, M') ∧ M'.l.length = M.l.length ∧ M'.lost = M.lost ∧ ∀ x ∈ M'.l, x ∈ M.l := by
  unfold St.swap
  rcases hi : M.at? i with _ | a
  · exact ⟨_, _, rfl, rfl, rfl, fun x h => h⟩
  rcases hk : M.at? k with _ | b
  · exact ⟨_, _, rfl, rfl, rfl, fun x h => h⟩
  obtain ⟨rfl, ha⟩ := St.at?_some hi
  obtain ⟨rfl, hb⟩ := St.at?_some hk
  refine ⟨_, _, rfl, by simp, rfl, fun x hx => ?_⟩
  rcases List.mem_or_eq_of_mem_set hx with hx | rfl
  · rcases List.mem_or_eq_of_mem_set hx with hx | rfl
    · exact hx
    · rw [List.getD_eq_getElem?_getD, List.getElem?_eq_getElem hb]; simp
  · rw [List.getD_eq_getElem?_getD, List.getElem?_eq_getElem ha]; simp
theorem cut_is (M : St) (a b : Int) (is : Bool) : ∃ r M', M.cut a b is = (r, M') ∧ M'.l = M.l ∧ M'.lost = M.lost := by
  unfold St.cut
  split
  · exact ⟨_, _, rfl, rfl, rfl⟩
  · exact ⟨_, _, rfl, rfl, rfl⟩
theorem send_is (M : St) (d : Dg) : (∃ M', M.send d = (0, M') ∧ M'.l.length + M'.lost = M.l.length + M.lost + 1 ∧ M.lost ≤ M'.lost ∧ M'.lost ≤ M.lost + 1 ∧ ∀ x ∈ M'.l, x ∈ M.l ∨ x = d) ∨ (∃ r, r ≠ 0 ∧ M.send d = (r, M)) := by
  unfold St.send
  split
  · exact .inr ⟨2, by omega, rfl⟩
  split
  · exact .inr ⟨3, by omega, rfl⟩
  split
  · exact .inl ⟨_, rfl, by dsimp only []; omega, by dsimp only []; omega, by dsimp only []; omega, fun x h => .inl h⟩
  split
  · exact .inr ⟨8, by omega, rfl⟩
  · refine .inl ⟨_, rfl, by simp; omega, by dsimp only []; omega, by dsimp only []; omega, fun x h => ?_⟩
    rcases List.mem_append.1 h with h | h
    · exact .inl h
    · exact .inr (by simpa using h)
end Go.Proofs.Ytddndmhjkjanlaa
