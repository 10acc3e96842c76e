/- The net's at: what is ahead of the datagram at a place. Conditions: the net holds what its word says. -/
import Derived.Test.YtddndmhjkjanlaaNb
namespace Go.Proofs.Ytddndmhjkjanlaa
open Go.RowKit Go.Shelf
attribute [local go_sem] Oper.semAt_some

theorem cell_of_box {W : World} {B : Nat} {v : Value} {t : TypeId} (h : W.heap[B]? = some (.cells #[v] t (0, 0))) : W.cell? ⟨B, 0, none⟩ = some v ∧ W.frozen? ⟨B, 0, none⟩ = false := by
  constructor <;> simp [World.cell?, World.frozen?, h]
theorem cell_new_ (W : World) (v : Value) (t : TypeId) : (W.alloc (.cells #[v] t)).cell? ⟨W.heap.size, 0, none⟩ = some v ∧ (W.alloc (.cells #[v] t)).frozen? ⟨W.heap.size, 0, none⟩ = false :=
  cell_of_box (World.alloc_heap_new W _)
theorem cell_alloc_ {W : World} {a : Addr} {v : Value} (o : Obj) (h : W.cell? a = some v) : (W.alloc o).cell? a = some v := cell_kept h (World.grownBy_alloc W o none) (fun r e => by cases e)
theorem frozen_alloc_ {W : World} {a : Addr} {v : Value} (o : Obj) (h : W.cell? a = some v) (hf : W.frozen? a = false) : (W.alloc o).frozen? a = false := (frozen_kept h (World.grownBy_alloc W o none) (fun r e => by cases e)).trans hf

theorem zip2_fold (a b : Tmp) (v u : Value) (t : Array Value) : ((#[a, b] : Array Tmp).zip #[v, u]).foldl (fun t (p, v) => t.setIfInBounds p v) t = (t.setIfInBounds a v).setIfInBounds b u := by simp

/-- The place ahead of the i-th datagram. -/
def pv (bn : Nat) (L : List Nat) : Nat → Nat × Nat
  | 0 => (bn, 1)
  | i + 1 => (L.getD i 0, 0)

theorem items_get : ∀ (p : Nat × Nat) (L : List Nat) (i : Nat), i < L.length → (items p L)[i]? = some ((if i = 0 then p else (L.getD (i - 1) 0, 0)), L.getD i 0)
  | _, [], i, h => by simp at h
  | p, b :: r, 0, _ => by simp [items]
  | p, b :: r, i + 1, h => by
    simp at h
    rw [items, List.getElem?_cons_succ, items_get _ _ _ h]
    cases i with
    | zero => simp
    | succ i => simp

theorem NodeAt.next {w : World} {nd : Nd} {q : Option Addr} (h : NodeAt w nd q) : w.cell? ⟨nd.b, 3, none⟩ = some (.pointer q) := by
  simp [World.cell?, h.1]
theorem Chain.pchain {w : World} : ∀ {L : List Nd} {p : Nat × Nat}, Chain w L → p.1 < w.heap.size → w.cell? ⟨p.1, p.2 + 3, none⟩ = some (.pointer (nx L)) → PChain w w.heap.size p (L.map (·.b))
  | [], p, _, hp, hc => ⟨hp, hc⟩
  | nd :: r, p, ⟨h1, h2⟩, hp, hc => ⟨hp, hc, Chain.pchain (p := (nd.b, 0)) h2 (h1.lt _ (by simp)) (by simpa using h1.next)⟩
theorem NetAt.pchain {w : World} {bn bm : Nat} {L : List Nd} {K : List (Int × Int)} {lost : Int} (h : NetAt w bn bm L K lost) : PChain w w.heap.size (bn, 1) (L.map (·.b)) :=
  h.chain.pchain (h.lt bn (by simp [blocks])) (by simp [World.cell?, h.head])

set_option maxRecDepth 100000 in
set_option maxHeartbeats 2000000 in
theorem at_in (bn i m : Nat) (N : Int) (L : List Nat) (w : World) (hm : (m : Int) = N) (hN : w.cell? ⟨bn, 5, none⟩ = some (.int .i64 N)) (hL : PChain w w.heap.size (bn, 1) L) (hlen : L.length = m) (hi : i < m) (hmax : m < 9223372036854775807) :
    CallsIn Fence.wide 4 Try.prog 38 #[.pointer (some ⟨bn, 0, none⟩), .int .i64 (i : Int)] w fun e W' => e = .returned (.pointer (some ⟨(pv bn L i).1, (pv bn L i).2, none⟩)) ∧ Below w.heap.size w W' := by
  have hI0 : decide ((i : Int) < 0) = false := by simp
  have hI1 : decide (N ≤ (i : Int)) = false := by simp; omega
  have hI2 : (i : Int) < N := by omega
  have hbn : bn < w.heap.size := World.block_lt_of_cell? w _ hN
  have HM := Lib.hid hm
  have HL := Lib.hid hlen
  clear hm hlen
  refine callsIn_of_wp_marks Try.func38 rfl trivial ?_ rfl
  simp only [Try.ntmps38, List.size_toArray, List.length_cons, List.length_nil, Nat.reduceAdd, Nat.reduceSub, Array.replicate_succ, Array.replicate_zero, List.push_toArray, List.append_toArray, List.nil_append, List.cons_append]
  gi_wp2
  gi_quiet (fail)
  gi_wp2_with (refine ⟨trivial, ?_⟩; gi_at_call 36; refine (all_in Fence.wide (4 - 1) trivial rfl _ _).mono ?_; rintro e w' ⟨rfl, rfl⟩)
  have c0 := cell_new_ w (.int .i64 (i : Int)) 3
  have c1 := cell_new_ (w.alloc (.cells #[.int .i64 (i : Int)] 3)) (.pointer none) 56
  have c2 := cell_new_ (((w.alloc (.cells #[.int .i64 (i : Int)] 3)).alloc (.cells #[.pointer none] 56)).drewN nq) (.pointer (some ⟨bn, 0, none⟩)) 24
  have hB0 : Below w.heap.size w ((((w.alloc (.cells #[.int .i64 (i : Int)] 3)).alloc (.cells #[.pointer none] 56)).drewN nq).alloc (.cells #[.pointer (some ⟨bn, 0, none⟩)] 24)) :=
    Below.alloc (below_drewN (((Below.refl _ w).alloc (Nat.le_refl _) _).alloc (by simp) _) nq) (by simp; omega) _
  simp only [World.size_alloc] at c1
  have hsz : (((w.alloc (.cells #[.int .i64 (i : Int)] 3)).alloc (.cells #[.pointer none] 56)).drewN nq).heap.size = w.heap.size + 1 + 1 := by simp [World.drewN]
  rw [hsz] at c2
  have hbw := hB0.size
  generalize hW0 : (((w.alloc (.cells #[.int .i64 (i : Int)] 3)).alloc (.cells #[.pointer none] 56)).drewN nq).alloc (.cells #[.pointer (some ⟨bn, 0, none⟩)] 24) = W0 at *
  have d0 : W0.cell? ⟨w.heap.size, 0, none⟩ = some (.int .i64 (i : Int)) ∧ W0.frozen? ⟨w.heap.size, 0, none⟩ = false := by
    rw [← hW0]; exact ⟨cell_alloc_ _ (cell_alloc_ (W := w.alloc _) _ c0.1), frozen_alloc_ _ (cell_alloc_ (W := w.alloc _) _ c0.1) (frozen_alloc_ (W := w.alloc _) _ c0.1 c0.2)⟩
  have d1 : W0.cell? ⟨w.heap.size + 1, 0, none⟩ = some (.pointer none) ∧ W0.frozen? ⟨w.heap.size + 1, 0, none⟩ = false := by
    rw [← hW0]; exact ⟨cell_alloc_ (W := World.drewN _ _) _ c1.1, frozen_alloc_ (W := World.drewN _ _) _ c1.1 c1.2⟩
  have hs0 : W0.heap.size = w.heap.size + 3 := by rw [← hW0, World.size_alloc, hsz]
  clear hW0 c0 c1 hsz
  refine wpIn_rangeFunc_ownF (n := 4) rfl (by omega) (gf := 49) (lb := #[.pointer (some ⟨w.heap.size + 1 + 1, 0, none⟩)]) rfl trivial (enters_of Try.func49 (by kernel_rfl) rfl)
    (all_stops Fence.wide (4 - 1) trivial rfl (by omega) (w.heap.size + 1 + 1) w.heap.size bn L _ (by omega) (by omega) c2.1 (hL.below hB0)) belowK_t (belowK_b (by omega)) (Below.refl _ _) (fun _ => rfl)
    (fun pre W => (pre.length ≤ i ∧ W.cell? ⟨w.heap.size, 0, none⟩ = some (.int .i64 ((i : Int) - (pre.length : Int))) ∧ W.frozen? ⟨w.heap.size, 0, none⟩ = false ∧ W.cell? ⟨w.heap.size + 1, 0, none⟩ = some (.pointer none) ∧ W.frozen? ⟨w.heap.size + 1, 0, none⟩ = false) ∧ Below w.heap.size w W)
    (fun c pre W => (c = .ret ∧ ∃ x, pre[i]? = some x ∧ W.cell? ⟨w.heap.size + 1, 0, none⟩ = some (.pointer (some ⟨x.1.1, x.1.2, none⟩))) ∧ Below w.heap.size w W)
    (OwnFrom.and (Own.from (fun s A B row hs hg hr => ⟨hs.1, cell_kept hs.2.1 hg hr, (frozen_kept hs.2.1 hg hr).trans hs.2.2.1, cell_kept hs.2.2.2.1 hg hr, (frozen_kept hs.2.2.2.1 hg hr).trans hs.2.2.2.2⟩) _) (ownFrom_below (Nat.le_refl _) (by omega)))
    (fun c => OwnFrom.and (Own.from (fun s A B row hs hg hr => ⟨hs.1, hs.2.imp fun x hx => ⟨hx.1, cell_kept hx.2 hg hr⟩⟩) _) (ownFrom_below (Nat.le_refl _) (by omega)))
    ⟨⟨by simp, by simpa using d0.1, d0.2, d1.1, d1.2⟩, hB0⟩
    ?a1 ?assign ?body ?done ?stop
  case assign =>
    intro l x W K hK
    simp only [encp, zip2_fold]
    simp only [List.setIfInBounds_toArray, List.set_cons_succ, List.set_cons_zero]
    gi_wp2
    exact hK
  case body =>
    rintro l pre x W ⟨⟨hle, hci, hfi, hcr, hfr⟩, hB⟩ _
    by_cases hp : pre.length = i
    · have hci' : W.cell? ⟨w.heap.size, 0, none⟩ = some (.int .i64 0) := by rw [hci]; congr; omega
      clear hci
      have HP := Lib.hid hp; clear hp
      gi_wp2
      exact ⟨KeepsOthers.setCell _ _ _, ⟨rfl, x, by rw [List.getElem?_append_right (by have := HP.out; omega)]; simp [HP.out], World.cell?_setCell_same' _ _ _ (by rw [hcr]; rfl)⟩, hB.setCell (p := ⟨w.heap.size + 1, 0, none⟩) (by simp) _⟩
    · have hne : ((i : Int) - (pre.length : Int) == 0) = false := by
        rw [beq_eq_false_iff_ne]; omega
      have h1 : (pre.length : Int) < i := by omega
      have h0 : (0 : Int) ≤ (pre.length : Int) := by omega
      clear hp
      gi_wp2
      exact ⟨KeepsOthers.setCell _ _ _, (Below.refl w.heap.size W).setCell (p := ⟨w.heap.size, 0, none⟩) (Nat.le_refl _) _, ⟨by simp; omega, by rw [World.cell?_setCell_same' _ _ _ (by rw [hci]; rfl)]; congr 2; simp; omega, by rw [World.frozen?_setCell]; exact hfi,
        (World.cell?_setCell_other _ _ _ _ (by simp)).trans hcr, by rw [World.frozen?_setCell]; exact hfr⟩, hB.setCell (p := ⟨w.heap.size, 0, none⟩) (Nat.le_refl _) _⟩
  case done =>
    rintro D ys W hD rfl ⟨⟨hle, hci, hfi, hcr, hfr⟩, hB⟩ hK
    rw [items_length, HL.out] at hle
    omega
  case stop =>
    rintro D c pre W hD hpre ⟨⟨rfl, x, hx, hcr⟩, hB⟩ hK
    gi_wp2
    refine ⟨by simp, .inl ⟨_, _, rfl, run_takeDeferred hK, ?_⟩⟩
    have hc5 := cell_kept hcr (grownBy_putObj' _ D (.deferred none)) (fun r e => by cases e; exact ⟨_, hK, rfl⟩)
    refine ⟨.pointer (some ⟨x.1.1, x.1.2, none⟩), ?_, ?_, hB.trans (belowK_b (w := w) (Nat.le_refl _) W D _ _ (by omega) hK rfl rfl)⟩
    · simp [results, Try.f38, go_sem, hc5]
    · have hx2 : (items (bn, 1) L)[i]? = some x := by
        obtain ⟨r, hr⟩ := hpre
        rw [← hr, List.getElem?_append_left (by
          rcases Nat.lt_or_ge i pre.length with h | h
          · exact h
          · rw [List.getElem?_eq_none h] at hx; cases hx)]
        exact hx
      rw [items_get _ _ _ (by rw [HL.out]; exact hi)] at hx2
      injection hx2 with hx2
      rw [← hx2]
      cases i with
      | zero => rfl
      | succ i => rfl
end Go.Proofs.Ytddndmhjkjanlaa
