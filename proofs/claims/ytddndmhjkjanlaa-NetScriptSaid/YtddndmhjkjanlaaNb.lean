/- The net's smallest functions: end, pair, none, New, all: what each call does. No condition but what a net holds. -/
import Derived.Test.YtddndmhjkjanlaaNa
namespace Go.Proofs.Ytddndmhjkjanlaa
open Go.RowKit Go.Shelf

def endB (n : Int) : Bool := decide (0 ≤ n ∧ n < 64)
set_option maxHeartbeats 400000 in
theorem end_any (n : Int) (w : World) : Calls Try.prog 32 #[.int .i64 n] w fun e w' => e = .returned (.bool (endB n)) ∧ w = w' := by
  by_cases h0 : 0 ≤ n
  · by_cases h1 : n < 64
    · go_enter Try.func32, Try.ntmps32
      go_wp2
      go_ret
      exact ⟨by simp [endB, *], rfl⟩
    · go_enter Try.func32, Try.ntmps32
      go_wp2
      go_ret
      exact ⟨by simp only [endB]; congr; simp; omega, rfl⟩
  · go_enter Try.func32, Try.ntmps32
    go_wp2
    go_ret
    exact ⟨by simp only [endB]; congr; simp; omega, rfl⟩

set_option maxHeartbeats 400000 in
theorem none_made (a : Addr) (made : Bool) (w : World) (h : w.cell? a = some (.bool made)) : Calls Try.prog 31 #[.pointer (some a)] w fun e w' => e = .returned (.bool (!made)) ∧ w = w' := by
  cases made
  all_goals
    go_enter Try.func31, Try.ntmps31
    go_wp2
    go_ret
    exact ⟨rfl, rfl⟩
set_option maxHeartbeats 400000 in
theorem none_nil (w : World) : Calls Try.prog 31 #[.pointer none] w fun e w' => e = .returned (.bool true) ∧ w = w' := by
  go_enter Try.func31, Try.ntmps31
  go_wp2
  go_ret
  exact ⟨rfl, rfl⟩

def mk (a b : Int) : Int × Int := (min a b, max a b)
set_option maxHeartbeats 400000 in
theorem pair_any (a b : Int) (w : World) : Calls Try.prog 39 #[.int .i64 a, .int .i64 b] w fun e w' => e = .returned (cutKey (mk a b)) ∧ Below w.heap.size w w' := by
  go_enter Try.func39, Try.ntmps39
  go_wp2
  · exact bodyPost_ret (v := cutKey (mk a b)) (by simp [results, Try.f39, go_sem, cutKey, mk]; omega) rfl ⟨rfl, (Below.refl _ _).alloc (Nat.le_refl _) _⟩
  · exact bodyPost_ret (v := cutKey (mk a b)) (by simp [results, Try.f39, go_sem, cutKey, mk]; omega) rfl ⟨rfl, (Below.refl _ _).alloc (Nat.le_refl _) _⟩
  · exact bodyPost_ret (v := cutKey (mk a b)) (by simp [results, Try.f39, go_sem, cutKey, mk]; omega) rfl ⟨rfl, (Below.refl _ _).alloc (Nat.le_refl _) _⟩

set_option maxHeartbeats 400000 in
theorem new_any (w : World) : Calls Try.prog 10 #[] w fun e w' => e = .returned (.pointer (some ⟨w.heap.size + 1, 0, none⟩)) ∧ NetAt w' (w.heap.size + 1) w.heap.size [] [] 0 ∧ Upd (fun _ => False) w w' := by
  have hmm := @run_makeMap Try.prog
  go_enter Try.func10, Try.ntmps10
  go_wp2
  go_ret
  refine ⟨rfl, ⟨?_, trivial, ⟨#[], 0, ?_, by simp, by simp, by simp⟩, by simp [blocks]⟩, ((Upd.refl _ _).alloc _).alloc _⟩
  · have := heap_alloc_new (w.alloc (.map #[] 0)) (.cells #[.bool true, .int .i64 0, .int .i64 0, .slice none 0 0, .pointer none, .int .i64 0, .map (some w.heap.size), .int .i64 0] 61)
    rw [World.size_alloc] at this
    exact this
  · exact (Below.heap_alloc _ _ _ (by simp)).trans (heap_alloc_new w _)

set_option maxHeartbeats 400000 in
theorem all_in (F : Fence) (n : Nat) (h36 : F.fn 36) (hro : F.round = none) (v : Option Addr) (w : World) :
    CallsIn F n Try.prog 36 #[.pointer v] w fun e w' => e = .returned (.func (.func 49) #[] #[.pointer (some ⟨w.heap.size, 0, none⟩)]) ∧ w' = w.alloc (.cells #[.pointer v] 24) := by
  refine callsIn_of_wp Try.func36 rfl h36 ?_ hro
  simp only [Try.ntmps36, List.size_toArray, List.length_cons, List.length_nil, Nat.reduceAdd, Nat.reduceSub, Array.replicate_succ, Array.replicate_zero, List.push_toArray, List.append_toArray, List.nil_append, List.cons_append]
  gi_wp2
  go_ret
  exact ⟨rfl, rfl⟩

/-- The next places of a list, from the place ahead of it on. -/
def PChain (W : World) (n₀ : Nat) : Nat × Nat → List Nat → Prop
  | p, [] => p.1 < n₀ ∧ W.cell? ⟨p.1, p.2 + 3, none⟩ = some (.pointer none)
  | p, b :: r => p.1 < n₀ ∧ W.cell? ⟨p.1, p.2 + 3, none⟩ = some (.pointer (some ⟨b, 0, none⟩)) ∧ PChain W n₀ (b, 0) r
theorem PChain.below {n₀ : Nat} {A B : World} (h : Below n₀ A B) : ∀ {p : Nat × Nat} {L : List Nat}, PChain A n₀ p L → PChain B n₀ p L
  | p, [], ⟨h1, h2⟩ => ⟨h1, (h.cell (p := ⟨p.1, p.2 + 3, none⟩) h1).trans h2⟩
  | p, b :: r, ⟨h1, h2, h3⟩ => ⟨h1, (h.cell (p := ⟨p.1, p.2 + 3, none⟩) h1).trans h2, PChain.below h h3⟩
theorem PChain.unique {W : World} {n₀ : Nat} : ∀ {p : Nat × Nat} {L M : List Nat}, PChain W n₀ p L → PChain W n₀ p M → L = M
  | _, [], [], _, _ => rfl
  | _, [], _ :: _, ⟨_, h⟩, ⟨_, h', _⟩ => by rw [h] at h'; cases h'
  | _, _ :: _, [], ⟨_, h, _⟩, ⟨_, h'⟩ => by rw [h] at h'; cases h'
  | _, b :: r, b' :: r', ⟨_, h, hr⟩, ⟨_, h', hr'⟩ => by
    rw [h] at h'; cases h'
    rw [PChain.unique hr hr']
open Classical in
noncomputable def pleft (n₀ : Nat) (W : World) (v : Value) : Nat :=
  if h : ∃ r : (Nat × Nat) × List Nat, v = .pointer (some ⟨r.1.1, r.1.2, none⟩) ∧ PChain W n₀ r.1 r.2 then (Classical.choose h).2.length else 0
theorem pleft_eq {n₀ : Nat} {W : World} {p : Nat × Nat} {L : List Nat} (h : PChain W n₀ p L) : pleft n₀ W (.pointer (some ⟨p.1, p.2, none⟩)) = L.length := by
  have hex : ∃ r : (Nat × Nat) × List Nat, Value.pointer (some ⟨p.1, p.2, none⟩) = .pointer (some ⟨r.1.1, r.1.2, none⟩) ∧ PChain W n₀ r.1 r.2 := ⟨(p, L), rfl, h⟩
  unfold pleft
  rw [dif_pos hex]
  obtain ⟨e, hl⟩ := Classical.choose_spec hex
  have e' : p = (Classical.choose hex).1 := by
    injection e with e; injection e with e; injection e with e1 e2
    exact Prod.ext e1 e2
  rw [← e'] at hl
  rw [PChain.unique hl h]

/-- What the iterator hands to a round: the place ahead, and the block of the datagram. -/
def items : Nat × Nat → List Nat → List ((Nat × Nat) × Nat)
  | _, [] => []
  | p, b :: r => (p, b) :: items (b, 0) r
theorem items_length : ∀ (p : Nat × Nat) (L : List Nat), (items p L).length = L.length
  | _, [] => rfl
  | _, b :: r => by simp [items, items_length (b, 0) r]
def encp (x : (Nat × Nat) × Nat) : Array Value := #[.pointer (some ⟨x.1.1, x.1.2, none⟩), .pointer (some ⟨x.2, 0, none⟩)]

attribute [local go_sem] Oper.semAt_some
set_option maxRecDepth 100000 in
set_option maxHeartbeats 1000000 in
theorem all1_in (F : Fence) (n : Nat) (h49 : F.fn 49) (hro : F.round = none) (hn : 1 ≤ n) (l Bn n₀ bn : Nat) (L : List Nat) (J Jx : List ((Nat × Nat) × Nat) → World → Prop)
    (hY : ∀ pre x W, J pre W → pre.length < L.length → YieldAt F (n - 1) Try.prog l (encp x) W fun e W' =>
      (e = .returned (.bool true) ∧ J (pre ++ [x]) W' ∧ Below n₀ W W') ∨ (e = .returned (.bool false) ∧ Jx (pre ++ [x]) W'))
    (W : World) (hBn : W.cell? ⟨Bn, 0, none⟩ = some (.pointer (some ⟨bn, 0, none⟩))) (hL : PChain W n₀ (bn, 1) L) (h0 : J [] W) :
    CallsIn F n Try.prog 49 #[.func (.yield l) #[] #[], .pointer (some ⟨Bn, 0, none⟩)] W fun e W' => (∃ v, e = .returned v) ∧
      ((∃ ys, ys = items (bn, 1) L ∧ J ys W') ∨ (∃ pre, pre <+: items (bn, 1) L ∧ Jx pre W')) := by
  refine callsIn_of_wp Try.func49 rfl h49 ?_ hro
  simp only [Try.ntmps49, List.size_toArray, List.length_cons, List.length_nil, Nat.reduceAdd, Nat.reduceSub, Array.replicate_succ, Array.replicate_zero, List.push_toArray, List.append_toArray, List.nil_append, List.cons_append]
  gi_wp2
  gi_loopw [3] (fun p wr => ∃ (pre : List ((Nat × Nat) × Nat)) (rest : List Nat) (q : Nat × Nat), p = .pointer (some ⟨q.1, q.2, none⟩) ∧ items (bn, 1) L = pre ++ items q rest ∧ PChain wr n₀ q rest ∧ J pre wr)
    (fun p wr => pleft n₀ wr p)
  case atStart =>
    exact ⟨[], L, (bn, 1), rfl, rfl, hL, h0⟩
  case round =>
    obtain ⟨pre, rest, ⟨q1, q2⟩, rfl, hx, hl, hJs⟩ := hrel
    cases rest with
    | nil =>
      have hl2 := hl.2
      have HX := Lib.hid hx; clear hx
      gi_wp2
      go_end0
      have e0 : items (bn, 1) L = pre := by rw [HX.out]; simp [items]
      rw [e0]
      exact ⟨⟨_, rfl⟩, .inl hJs⟩
    | cons b rest =>
      have hl' := hl
      obtain ⟨hq, hv, hr⟩ := hl
      have hlen : pre.length < L.length := by
        have := congrArg List.length hx
        rw [items_length] at this
        simp [items] at this
        omega
      obtain ⟨fn, tmps, assign, body, hy, hR⟩ := hY pre ((q1, q2), b) wr hJs hlen
      dsimp only [encp] at hy
      dsimp only at hv
      have HX := Lib.hid hx; clear hx
      gi_wp2
      refine hR.mono ?_
      rintro e W3 (⟨rfl, hJ3, hk3⟩ | ⟨rfl, hJx3⟩)
      · have hq3 : W3.cell? ⟨q1, q2 + 3, none⟩ = some (.pointer (some ⟨b, 0, none⟩)) := (hk3.cell (p := ⟨q1, q2 + 3, none⟩) hq).trans hv
        gi_wp2
        go_roundw
        case rel => exact ⟨pre ++ [((q1, q2), b)], rest, (b, 0), rfl, by rw [HX.out]; simp [items], hr.below hk3, hJ3⟩
        case measure => rw [pleft_eq (p := (b, 0)) (hr.below hk3), pleft_eq (p := (q1, q2)) hl']; simp
      · gi_wp2
        refine bodyPost_ret (results_none rfl _ _ _) rfl ?_
        exact ⟨⟨_, rfl⟩, .inr ⟨pre ++ [((q1, q2), b)], ⟨items (b, 0) rest, by rw [HX.out]; simp [items]⟩, hJx3⟩⟩
theorem all_stops (F : Fence) (n : Nat) (h49 : F.fn 49) (hro : F.round = none) (hn : 1 ≤ n) (Bn n₀ bn : Nat) (L : List Nat) (w : World) (hBn : Bn < w.heap.size) (hn₀ : n₀ ≤ w.heap.size)
    (hc : w.cell? ⟨Bn, 0, none⟩ = some (.pointer (some ⟨bn, 0, none⟩))) (hL : PChain w n₀ (bn, 1) L) :
    SeqStopsK F n Try.prog 49 #[.pointer (some ⟨Bn, 0, none⟩)] encp (Below n₀) (fun ys => ys = items (bn, 1) L) (fun pre => pre <+: items (bn, 1) L) L.length w := fun l J Jx W hW _ _ hY h0 =>
  all1_in F n h49 hro hn l Bn n₀ bn L J Jx hY W ((hW.cell (p := ⟨Bn, 0, none⟩) hBn).trans hc) (hL.below (hW.mono hn₀)) h0
end Go.Proofs.Ytddndmhjkjanlaa
