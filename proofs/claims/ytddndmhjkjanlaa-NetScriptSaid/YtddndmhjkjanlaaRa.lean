/- The document's net in memory: what it holds, what reads it. Conditions: it holds what its word says. -/
import Derived.Test.YtddndmhjkjanlaaNw
import Derived.Test.YtddndmhjkjanlaaOf
namespace Go.Proofs.Ytddndmhjkjanlaa
open Go.RowKit Go.Shelf

def cellsK (K : List (Int × Int)) : List Value := K.flatMap fun k => [.int .i64 k.1, .int .i64 k.2]
theorem cellsK_length (K : List (Int × Int)) : (cellsK K).length = K.length * 2 := by
  induction K with
  | nil => rfl
  | cons a r ih => simp [cellsK] at ih ⊢; omega
theorem cellsK_append (l m : List (Int × Int)) : cellsK (l ++ m) = cellsK l ++ cellsK m := by simp [cellsK]
theorem cellsK_get : ∀ (K : List (Int × Int)) (j : Nat) (hj : j < K.length), (cellsK K)[j * 2]? = some (.int .i64 K[j].1) ∧ (cellsK K)[j * 2 + 1]? = some (.int .i64 K[j].2)
  | a :: r, 0, _ => ⟨rfl, rfl⟩
  | a :: r, j + 1, hj => by
    have := cellsK_get r j (by simpa using hj)
    have e1 : (j + 1) * 2 = j * 2 + 2 := by omega
    have e2 : (j + 1) * 2 + 1 = j * 2 + 1 + 2 := by omega
    rw [e1]
    exact this
/-- The document's net at block r holds M; all that it reads lies in blocks of Kp. -/
structure RNet (w : World) (r : Nat) (M : St) (Kp : List Nat) : Prop where
  ok : M.Ok
  kl : M.K.length ≤ 1000000
  self : r ∈ Kp
  mem : ∃ vL vK l, l.map Ed.dg = M.l ∧ w.heap[r]? = some (.cells #[vL, vK, .int .i64 M.lost] 50 (0, 0)) ∧
    w.ownsRow 0 28 3 vL l.length (cellsE l) ∧ w.ownsRow 0 74 2 vK M.K.length (cellsK M.K) ∧ (∀ d ∈ l, OB w 0 d.v d.xs) ∧
    (∀ k, vL.ownBlock = some k → k ∈ Kp) ∧ (∀ k, vK.ownBlock = some k → k ∈ Kp) ∧ ∀ d ∈ l, ∀ k, d.v.ownBlock = some k → k ∈ Kp

theorem ownsRow_upd {w w' : World} {base e sz n : Nat} {v : Value} {xs : List Value} {S : Nat → Prop} (h : w.ownsRow base e sz v n xs) (hu : Upd S w w') (hs : ∀ k, v.ownBlock = some k → ¬ S k) : w'.ownsRow base e sz v n xs :=
  ownsRow_kept h (fun g cs t fr hg hh => hu.block g (Array.getElem?_eq_some_iff.1 hh).1 (hs g hg))
theorem RNet.upd {w w' : World} {r : Nat} {M : St} {Kp : List Nat} (h : RNet w r M Kp) {S : Nat → Prop} (hu : Upd S w w') (hs : ∀ k ∈ Kp, ¬ S k) : RNet w' r M Kp := by
  obtain ⟨vL, vK, l, h1, h2, h3, h4, h5, h6, h7, h8⟩ := h.mem
  exact ⟨h.ok, h.kl, h.self, vL, vK, l, h1, (hu.block r (Array.getElem?_eq_some_iff.1 h2).1 (hs r h.self)).trans h2, ownsRow_upd h3 hu (fun k hk => hs k (h6 k hk)), ownsRow_upd h4 hu (fun k hk => hs k (h7 k hk)), fun d hd => (h5 d hd).kept' (fun g cs fr hg hh => hu.block g (Array.getElem?_eq_some_iff.1 hh).1 (hs g (h8 d hd g hg))), h6, h7, h8⟩
theorem RNet.below {w w' : World} {r : Nat} {M : St} {Kp : List Nat} (h : RNet w r M Kp) (hb : Below w.heap.size w w') : RNet w' r M Kp := h.upd (S := fun _ => False) (Upd.of_below hb) (fun _ _ h => h)
theorem RNet.more {w : World} {r : Nat} {M : St} {Kp Kp' : List Nat} (h : RNet w r M Kp) (hk : ∀ k ∈ Kp, k ∈ Kp') : RNet w r M Kp' := by
  obtain ⟨vL, vK, l, h1, h2, h3, h4, h5, h6, h7, h8⟩ := h.mem
  exact ⟨h.ok, h.kl, hk _ h.self, vL, vK, l, h1, h2, h3, h4, h5, fun k e => hk k (h6 k e), fun k e => hk k (h7 k e), fun d hd k e => hk k (h8 d hd k e)⟩

/-- A slice reads as links. -/
def RK (w : World) (v : Value) (K : List (Int × Int)) : Prop :=
  ∃ A c, v = .slice A K.length c ∧ (K ≠ [] → ∃ g, A = some ⟨g, 0, none⟩ ∧ ∀ j (hj : j < K.length), w.cell? ⟨g, j * 2, none⟩ = some (.int .i64 K[j].1) ∧ w.cell? ⟨g, j * 2 + 1, none⟩ = some (.int .i64 K[j].2))
theorem ownsRow_rk {w : World} {base : Nat} {v : Value} {K : List (Int × Int)} (h : w.ownsRow base 74 2 v K.length (cellsK K)) : RK w v K := by
  rcases h.2 with ⟨rfl, h0⟩ | ⟨g, cap, cur, rfl, _⟩
  · obtain rfl : K = [] := List.eq_nil_of_length_eq_zero h0
    exact ⟨none, 0, rfl, fun h => absurd rfl h⟩
  · refine ⟨_, cap, rfl, fun _ => ⟨g, rfl, fun j hj => ?_⟩⟩
    have hc := h.cells (g := g) rfl
    have h2 := cellsK_get K j hj
    have e1 := hc _ _ h2.1
    have e2 := hc _ _ h2.2
    rw [add_plain] at e1 e2
    exact ⟨e1, e2⟩
theorem ownsRow_rd {w : World} {base : Nat} {v : Value} {l : List Ed} (h : w.ownsRow base 28 3 v l.length (cellsE l)) (hb : ∀ d ∈ l, RB w d.v d.xs) : RD w v l := by
  rcases h.2 with ⟨rfl, h0⟩ | ⟨g, cap, cur, rfl, _⟩
  · obtain rfl : l = [] := List.eq_nil_of_length_eq_zero h0
    exact ⟨none, 0, rfl, fun h => absurd rfl h⟩
  · refine ⟨_, cap, rfl, fun _ => ⟨g, 0, rfl, fun j hj => ?_⟩⟩
    have hc := h.cells (g := g) rfl
    obtain ⟨h1, h2, h3⟩ := cellsE_get l j hj
    have e1 := hc _ _ h1
    have e2 := hc _ _ h2
    have e3 := hc _ _ h3
    rw [add_plain] at e1 e2 e3
    simp only [Nat.zero_add]
    exact ⟨e1, e2, e3, hb _ (List.getElem_mem hj)⟩

/-- What the document's net reads as. -/
structure RRead (w : World) (r : Nat) (M : St) (A : Option Addr) (c : Nat) (l : List Ed) (B : Option Addr) (d : Nat) : Prop where
  map : l.map Ed.dg = M.l
  c0 : w.cell? ⟨r, 0, none⟩ = some (.slice A l.length c)
  c1 : w.cell? ⟨r, 1, none⟩ = some (.slice B M.K.length d)
  c2 : w.cell? ⟨r, 2, none⟩ = some (.int .i64 M.lost)
  rd : RD w (.slice A l.length c) l
  rk : RK w (.slice B M.K.length d) M.K
theorem RNet.read {w : World} {r : Nat} {M : St} {Kp : List Nat} (h : RNet w r M Kp) : ∃ A c l B d, RRead w r M A c l B d := by
  obtain ⟨vL, vK, l, h1, h2, h3, h4, h5, h6, h7, h8⟩ := h.mem
  have hd := ownsRow_rd h3 (fun d hd => (h5 d hd).rb)
  have hk := ownsRow_rk h4
  obtain ⟨A, c, rfl, _⟩ := id hd
  obtain ⟨B, d, rfl, _⟩ := id hk
  exact ⟨A, c, l, B, d, h1, cell_of h2 0 rfl, cell_of h2 1 rfl, cell_of h2 2 rfl, hd, hk⟩
theorem RRead.len {w : World} {r : Nat} {M : St} {A B : Option Addr} {c d : Nat} {l : List Ed} (h : RRead w r M A c l B d) : l.length = M.l.length := by rw [← h.map]; simp

variable {w : World} {r : Nat} {M : St} {Kp : List Nat}

theorem rend_any (n : Int) (w : World) : Calls Try.prog 52 #[.int .i64 n] w fun e w' => e = .returned (.bool (endB n)) ∧ w = w' := by
  by_cases h0 : 0 ≤ n
  · by_cases h1 : n < 64
    · go_enter Try.func52, Try.ntmps52
      go_wp2
      go_ret
      exact ⟨by simp [endB, h0, h1], rfl⟩
    · go_enter Try.func52, Try.ntmps52
      go_wp2
      go_ret
      exact ⟨by simp [endB, h0, h1], rfl⟩
  · go_enter Try.func52, Try.ntmps52
    go_wp2
    go_ret
    exact ⟨by simp [endB]; omega, rfl⟩
theorem link_any (a b : Int) (w : World) : Calls Try.prog 53 #[.int .i64 a, .int .i64 b] w fun e w' => e = .returned (.agg #[.int .i64 (mk a b).1, .int .i64 (mk a b).2]) ∧ Below w.heap.size w w' := by
  go_enter Try.func53, Try.ntmps53
  go_wp2
  · exact bodyPost_ret (v := cutKey (mk a b)) (by simp [results, Try.f53, go_sem, cutKey, mk]; omega) rfl ⟨rfl, (Below.refl _ _).alloc (Nat.le_refl _) _⟩
  · exact bodyPost_ret (v := cutKey (mk a b)) (by simp [results, Try.f53, go_sem, cutKey, mk]; omega) rfl ⟨rfl, (Below.refl _ _).alloc (Nat.le_refl _) _⟩
  · exact bodyPost_ret (v := cutKey (mk a b)) (by simp [results, Try.f53, go_sem, cutKey, mk]; omega) rfl ⟨rfl, (Below.refl _ _).alloc (Nat.le_refl _) _⟩
theorem there_any (h : RNet w r M Kp) (i : Int) : Calls Try.prog 50 #[.pointer (some ⟨r, 0, none⟩), .int .i64 i] w fun e w' => e = .returned (.bool (M.at? i).isSome) ∧ w = w' := by
  obtain ⟨A, c, l, B, d, hr⟩ := h.read
  have hlen := hr.len
  have c0 := hr.c0
  have hM : (M.at? i).isSome = (decide (0 ≤ i) && decide (i < (l.length : Int))) := by
    unfold St.at?
    rw [hlen]
    by_cases h1 : i < 0 ∨ (M.l.length : Int) ≤ i
    · rw [if_pos h1]; symm; simp only [Option.isSome_none, Bool.and_eq_false_iff, decide_eq_false_iff_not]; omega
    · rw [if_neg h1]; symm; simp only [Option.isSome_some, Bool.and_eq_true, decide_eq_true_eq]; omega
  rw [hM]
  clear hM hr h hlen
  by_cases h0 : 0 ≤ i
  · go_enter Try.func50, Try.ntmps50
    go_wp2
    go_ret
    exact ⟨by simp [h0], rfl⟩
  · go_enter Try.func50, Try.ntmps50
    go_wp2
    go_ret
    exact ⟨by simp; omega, rfl⟩
end Go.Proofs.Ytddndmhjkjanlaa
