/- The net's iterator, its datagrams told by their places; First. Conditions: the net holds what its word says; at most 10^6 datagrams. -/
import Derived.Test.YtddndmhjkjanlaaNo
namespace Go.Proofs.Ytddndmhjkjanlaa
open Go.RowKit Go.Shelf
attribute [local go_sem] Oper.semAt_some

def upto (n k : Nat) : List (Fin n) := (List.finRange n).take k
theorem upto_zero (n : Nat) : upto n 0 = [] := rfl
theorem upto_succ (n k : Nat) (h : k < n) : upto n (k + 1) = upto n k ++ [⟨k, h⟩] := by
  unfold upto
  rw [List.take_succ_eq_append_getElem (by simpa using h)]
  simp
theorem upto_all (n : Nat) : upto n n = List.finRange n := by unfold upto; rw [List.take_of_length_le (by simp)]
theorem upto_length (n k : Nat) (h : k ≤ n) : (upto n k).length = k := by simp [upto, h]
theorem prefix_upto {n : Nat} {pre : List (Fin n)} (h : pre <+: List.finRange n) : pre = upto n pre.length := by
  obtain ⟨r, hr⟩ := h
  unfold upto
  rw [← hr, List.take_left']
  rfl
theorem mem_upto (n k j : Nat) (hj : j < k) (hk : k ≤ n) : (⟨j, by omega⟩ : Fin n) ∈ upto n k := by
  unfold upto
  rw [List.mem_take_iff_getElem]
  exact ⟨j, by simp; omega, by simp⟩
def encF (bn : Nat) (L : List Nd) (i : Fin L.length) : Array Value := #[.pointer (some ⟨(pv bn (L.map (·.b)) i.1).1, (pv bn (L.map (·.b)) i.1).2, none⟩), .pointer (some ⟨L[i.1].b, 0, none⟩)]

set_option maxRecDepth 100000 in
set_option maxHeartbeats 1000000 in
theorem all2_in (F : Fence) (n : Nat) (h49 : F.fn 49) (hro : F.round = none) (hn : 1 ≤ n) (l Bn n₀ bn : Nat) (L : List Nd) (J Jx : List (Fin L.length) → World → Prop)
    (hY : ∀ pre x W, J pre W → pre.length < L.length → YieldAt F (n - 1) Try.prog l (encF bn L x) W fun e W' =>
      (e = .returned (.bool true) ∧ J (pre ++ [x]) W' ∧ Below n₀ W W') ∨ (e = .returned (.bool false) ∧ Jx (pre ++ [x]) W'))
    (W : World) (hBn : W.cell? ⟨Bn, 0, none⟩ = some (.pointer (some ⟨bn, 0, none⟩))) (hL : PChain W n₀ (bn, 1) (L.map (·.b))) (h0 : J [] W) :
    CallsIn F n Try.prog 49 #[.func (.yield l) #[] #[], .pointer (some ⟨Bn, 0, none⟩)] W fun e W' => (∃ v, e = .returned v) ∧
      ((∃ ys, ys = List.finRange L.length ∧ J ys W') ∨ (∃ pre, pre <+: List.finRange L.length ∧ Jx pre W')) := by
  refine callsIn_of_wp Try.func49 rfl h49 ?_ hro
  simp only [Try.ntmps49, List.size_toArray, List.length_cons, List.length_nil, Nat.reduceAdd, Nat.reduceSub, Array.replicate_succ, Array.replicate_zero, List.push_toArray, List.append_toArray, List.nil_append, List.cons_append]
  gi_wp2
  gi_loopw [3] (fun p wr => ∃ (k : Nat) (q : Nat × Nat), p = .pointer (some ⟨q.1, q.2, none⟩) ∧ q = pv bn (L.map (·.b)) k ∧ k ≤ L.length ∧ PChain wr n₀ q ((L.map (·.b)).drop k) ∧ J (upto L.length k) wr)
    (fun p wr => pleft n₀ wr p)
  case atStart =>
    exact ⟨0, (bn, 1), rfl, rfl, Nat.zero_le _, hL, h0⟩
  case round =>
    obtain ⟨k, ⟨q1, q2⟩, rfl, hq0, hk, hl, hJs⟩ := hrel
    have HQ := Lib.hid hq0; clear hq0
    by_cases hlt : k < L.length
    · have hdrop : (L.map (·.b)).drop k = L[k].b :: (L.map (·.b)).drop (k + 1) := by
        rw [List.drop_eq_getElem_cons (by simpa using hlt)]; simp
      rw [hdrop] at hl
      have HD := Lib.hid hdrop; clear hdrop
      have hl' := hl
      obtain ⟨hq, hv, hr⟩ := hl
      obtain ⟨fn, tmps, assign, body, hy, hR⟩ := hY (upto L.length k) ⟨k, hlt⟩ wr hJs (by rw [upto_length _ _ hk]; exact hlt)
      dsimp only [encF] at hy
      rw [← HQ.out] at hy
      dsimp only at hy hv
      rw [← upto_succ] at hR
      gi_wp2
      refine hR.mono ?_
      rintro e W3 (⟨rfl, hJ3, hk3⟩ | ⟨rfl, hJx3⟩)
      · have hq3 : W3.cell? ⟨q1, q2 + 3, none⟩ = some (.pointer (some ⟨L[k].b, 0, none⟩)) := (hk3.cell (p := ⟨q1, q2 + 3, none⟩) hq).trans hv
        gi_wp2
        go_roundw
        case rel => exact ⟨k + 1, (L[k].b, 0), rfl, by simp [pv, List.getD_eq_getElem?_getD, List.getElem?_eq_getElem hlt], hlt, hr.below hk3, hJ3⟩
        case measure => rw [pleft_eq (p := (L[k].b, 0)) (hr.below hk3), pleft_eq (p := (q1, q2)) hl']; simp
      · gi_wp2
        refine bodyPost_ret (results_none rfl _ _ _) rfl ?_
        exact ⟨⟨_, rfl⟩, .inr ⟨upto L.length (k + 1), List.take_prefix _ _, hJx3⟩⟩
    · have hke : k = L.length := by omega
      have hdrop : (L.map (·.b)).drop k = [] := List.drop_eq_nil_of_le (by simp; omega)
      rw [hdrop] at hl
      have hl2 := hl.2
      dsimp only at hl2
      have e0 : upto L.length k = List.finRange L.length := by rw [hke, upto_all]
      rw [e0] at hJs
      clear hke hdrop e0
      gi_wp2
      go_end0
      exact ⟨⟨_, rfl⟩, .inl ⟨_, rfl, hJs⟩⟩

theorem all2_stops (F : Fence) (n : Nat) (h49 : F.fn 49) (hro : F.round = none) (hn : 1 ≤ n) (Bn n₀ bn : Nat) (L : List Nd) (w : World) (hBn : Bn < w.heap.size) (hn₀ : n₀ ≤ w.heap.size)
    (hc : w.cell? ⟨Bn, 0, none⟩ = some (.pointer (some ⟨bn, 0, none⟩))) (hL : PChain w n₀ (bn, 1) (L.map (·.b))) :
    SeqStopsK F n Try.prog 49 #[.pointer (some ⟨Bn, 0, none⟩)] (encF bn L) (Below n₀) (fun ys => ys = List.finRange L.length) (fun pre => pre <+: List.finRange L.length) L.length w := fun l J Jx W hW _ _ hY h0 =>
  all2_in F n h49 hro hn l Bn n₀ bn L J Jx hY W ((hW.cell (p := ⟨Bn, 0, none⟩) hBn).trans hc) (hL.below (hW.mono hn₀)) h0

/-- The first one to an end; -1: there is none. -/
def firstD (l : List Dg) (to : Int) : Int := match l.findIdx? (fun d => d.2.1 == to) with
  | none => -1
  | some i => (i : Int)

theorem firstD_none (L : List Nd) (to : Int) (h : ∀ j (hj : j < L.length), (L[j].t == to) = false) : firstD (L.map vw) to = -1 := by
  unfold firstD
  have : (L.map vw).findIdx? (fun d => d.2.1 == to) = none := by
    rw [List.findIdx?_eq_none_iff]
    intro d hd
    obtain ⟨nd, hnd, rfl⟩ := List.mem_map.1 hd
    obtain ⟨j, hj, rfl⟩ := List.getElem_of_mem hnd
    exact h j hj
  rw [this]
theorem firstD_some (L : List Nd) (to : Int) (i : Nat) (hi : i < L.length) (h : ∀ j (hj : j < i), (L[j].t == to) = false) (hx : (L[i].t == to) = true) : firstD (L.map vw) to = (i : Int) := by
  unfold firstD
  have : (L.map vw).findIdx? (fun d => d.2.1 == to) = some i := by
    rw [List.findIdx?_eq_some_iff_getElem]
    refine ⟨by simpa using hi, by simpa [vw] using hx, fun j hj => ?_⟩
    have := h j hj
    simpa [vw] using this
  rw [this]
set_option maxRecDepth 100000 in
set_option maxHeartbeats 2000000 in
theorem first_in {w : World} {bn bm : Nat} {L : List Nd} {K : List (Int × Int)} {lost : Int} (h : NetAt w bn bm L K lost) (to : Int) (hL : L.length ≤ 1000000) :
    CallsIn Fence.wide 4 Try.prog 14 #[.pointer (some ⟨bn, 0, none⟩), .int .i64 to] w fun e W' => e = .returned (.int .i64 (firstD (L.map vw) to)) ∧ Below w.heap.size w W' := by
  have hbn : bn < w.heap.size := h.lt bn (by simp [blocks])
  have hP := h.pchain
  have hB0 : Below w.heap.size w ((w.alloc (.cells #[.int .i64 to] 3)).alloc (.cells #[.int .i64 0] 3)) := ((Below.refl _ w).alloc (Nat.le_refl _) _).alloc (by simp) _
  have c0 := (h.upd (S := fun _ => False) (Upd.of_below hB0) (fun _ _ h => h)).cell0
  refine callsIn_of_wp_marks Try.func14 rfl trivial ?_ rfl
  simp only [Try.ntmps14, List.size_toArray, List.length_cons, List.length_nil, Nat.reduceAdd, Nat.reduceSub, Array.replicate_succ, Array.replicate_zero, List.push_toArray, List.append_toArray, List.nil_append, List.cons_append]
  gi_wp2_with (first | (refine ⟨trivial, ?_⟩; gi_at_call 31; refine (callsIn_wide.2 (none_made _ true _ c0)).mono ?_; rintro e w' ⟨rfl, rfl⟩) | (refine ⟨trivial, ?_⟩; gi_at_call 36; refine (all_in Fence.wide (4 - 1) trivial rfl _ _).mono ?_; rintro e w' ⟨rfl, rfl⟩))
  have hB1 : Below w.heap.size w ((((w.alloc (.cells #[.int .i64 to] 3)).alloc (.cells #[.int .i64 0] 3)).alloc (.cells #[.int .i64 0] 3)).alloc (.cells #[.pointer (some ⟨bn, 0, none⟩)] 24)) := below_new _ (below_new _ hB0)
  have d0 : ((((w.alloc (.cells #[.int .i64 to] 3)).alloc (.cells #[.int .i64 0] 3)).alloc (.cells #[.int .i64 0] 3)).alloc (.cells #[.pointer (some ⟨bn, 0, none⟩)] 24)).cell? ⟨w.heap.size, 0, none⟩ = some (.int .i64 to) := by simp [go_sem]
  have d1 : ((((w.alloc (.cells #[.int .i64 to] 3)).alloc (.cells #[.int .i64 0] 3)).alloc (.cells #[.int .i64 0] 3)).alloc (.cells #[.pointer (some ⟨bn, 0, none⟩)] 24)).cell? ⟨w.heap.size + 1, 0, none⟩ = some (.int .i64 0) := by simp [go_sem]
  have d2 : ((((w.alloc (.cells #[.int .i64 to] 3)).alloc (.cells #[.int .i64 0] 3)).alloc (.cells #[.int .i64 0] 3)).alloc (.cells #[.pointer (some ⟨bn, 0, none⟩)] 24)).cell? ⟨w.heap.size + 1 + 1, 0, none⟩ = some (.int .i64 0) := by simp [go_sem]
  have d3 : ((((w.alloc (.cells #[.int .i64 to] 3)).alloc (.cells #[.int .i64 0] 3)).alloc (.cells #[.int .i64 0] 3)).alloc (.cells #[.pointer (some ⟨bn, 0, none⟩)] 24)).cell? ⟨w.heap.size + 1 + 1 + 1, 0, none⟩ = some (.pointer (some ⟨bn, 0, none⟩)) := by simp [go_sem]
  have f1 : ((((w.alloc (.cells #[.int .i64 to] 3)).alloc (.cells #[.int .i64 0] 3)).alloc (.cells #[.int .i64 0] 3)).alloc (.cells #[.pointer (some ⟨bn, 0, none⟩)] 24)).frozen? ⟨w.heap.size + 1, 0, none⟩ = false := by simp [go_sem]
  have f2 : ((((w.alloc (.cells #[.int .i64 to] 3)).alloc (.cells #[.int .i64 0] 3)).alloc (.cells #[.int .i64 0] 3)).alloc (.cells #[.pointer (some ⟨bn, 0, none⟩)] 24)).frozen? ⟨w.heap.size + 1 + 1, 0, none⟩ = false := by simp [go_sem]
  have hs0 : ((((w.alloc (.cells #[.int .i64 to] 3)).alloc (.cells #[.int .i64 0] 3)).alloc (.cells #[.int .i64 0] 3)).alloc (.cells #[.pointer (some ⟨bn, 0, none⟩)] 24)).heap.size = w.heap.size + 1 + 1 + 1 + 1 := by simp
  generalize hW0 : (((w.alloc (.cells #[.int .i64 to] 3)).alloc (.cells #[.int .i64 0] 3)).alloc (.cells #[.int .i64 0] 3)).alloc (.cells #[.pointer (some ⟨bn, 0, none⟩)] 24) = W0 at *
  clear hW0 c0 hB0
  refine wpIn_rangeFunc_ownF (n := 4) rfl (by omega) (gf := 49) (lb := #[.pointer (some ⟨w.heap.size + 1 + 1 + 1, 0, none⟩)]) rfl trivial (enters_of Try.func49 (by kernel_rfl) rfl)
    (all2_stops Fence.wide (4 - 1) trivial rfl (by omega) (w.heap.size + 1 + 1 + 1) w.heap.size bn L _ (by omega) (by omega) d3 (hP.below hB1)) belowK_t (belowK_b (by omega)) (Below.refl _ _) (fun _ => rfl)
    (fun pre W => ((∀ j ∈ pre, (L[j.1].t == to) = false) ∧ pre.length ≤ L.length ∧ W.cell? ⟨w.heap.size, 0, none⟩ = some (.int .i64 to) ∧ (W.cell? ⟨w.heap.size + 1, 0, none⟩ = some (.int .i64 0) ∧ W.frozen? ⟨w.heap.size + 1, 0, none⟩ = false) ∧ W.cell? ⟨w.heap.size + 1 + 1, 0, none⟩ = some (.int .i64 (pre.length : Int)) ∧ W.frozen? ⟨w.heap.size + 1 + 1, 0, none⟩ = false) ∧ Below w.heap.size w W)
    (fun c pre W => (c = .ret ∧ ∃ (p0 : List (Fin L.length)) (x : Fin L.length), pre = p0 ++ [x] ∧ (∀ j ∈ p0, (L[j.1].t == to) = false) ∧ (L[x.1].t == to) = true ∧ W.cell? ⟨w.heap.size + 1, 0, none⟩ = some (.int .i64 (p0.length : Int))) ∧ Below w.heap.size w W)
    (OwnFrom.and (Own.from (fun s A B row hs hg hr => ⟨hs.1, hs.2.1, cell_kept hs.2.2.1 hg hr, ⟨cell_kept hs.2.2.2.1.1 hg hr, (frozen_kept hs.2.2.2.1.1 hg hr).trans hs.2.2.2.1.2⟩, cell_kept hs.2.2.2.2.1 hg hr, (frozen_kept hs.2.2.2.2.1 hg hr).trans hs.2.2.2.2.2⟩) _) (ownFrom_below (Nat.le_refl _) (by omega)))
    (fun c => OwnFrom.and (Own.from (fun s A B row hs hg hr => ⟨hs.1, hs.2.imp fun p0 h0 => h0.imp fun x hx => ⟨hx.1, hx.2.1, hx.2.2.1, cell_kept hx.2.2.2 hg hr⟩⟩) _) (ownFrom_below (Nat.le_refl _) (by omega)))
    ⟨⟨by simp, by simp, d0, ⟨d1, f1⟩, d2, f2⟩, hB1⟩
    ?a1 ?assign ?body ?done ?stop
  case assign =>
    intro l x W K hK
    simp only [encF, zip2_fold]
    simp only [List.setIfInBounds_toArray, List.set_cons_succ, List.set_cons_zero]
    gi_wp2
    exact hK
  case body =>
    rintro l pre x W ⟨⟨hne, hle, hct, ⟨hcr, hfr⟩, hci, hfi⟩, hB⟩ hlt
    have hnode := NodeAt.kept (w' := W) (nd := L[x.1]) (Chain.node (nd := L[x.1]) (by simp) h.chain).choose_spec (fun k hk => hB.block k (Chain.lt h.chain k (by
      rw [List.mem_flatMap]; exact ⟨L[x.1], by simp, hk⟩)))
    have e1 : W.cell? ⟨L[x.1].b, 1, none⟩ = some (.int .i64 L[x.1].t) := cell_of hnode.1 1 rfl
    have HN := Lib.hid hne
    clear hne hnode
    have b1 : (pre.length : Int) < 1000000 := by omega
    have b0 : (0 : Int) ≤ (pre.length : Int) := by omega
    have hmx : Try.prog.follows .mixedOrders = true := by kernel_rfl
    cases ht : (L[x.1].t == to) with
    | true =>
      gi_wp2
      gi_region_with_o (fail)
      all_goals gi_wp2
      all_goals
        exact ⟨(KeepsOthers.setCell _ _ _).trans (KeepsOthers.drew _), ⟨rfl, pre, x, rfl, HN.out, ht, World.cell?_setCell_same' _ _ _ (by rw [hcr]; rfl)⟩, (hB.setCell (p := ⟨w.heap.size + 1, 0, none⟩) (by simp) _).drew⟩
    | false =>
      gi_wp2
      gi_region_with_o (fail)
      all_goals gi_wp2
      all_goals
        refine ⟨(KeepsOthers.setCell _ _ _).trans (KeepsOthers.drew _), ((Below.refl w.heap.size W).setCell (p := ⟨w.heap.size + 1 + 1, 0, none⟩) (by dsimp only; omega) _).drew, ⟨?_, by rw [List.length_append, List.length_singleton]; omega, (World.cell?_setCell_other _ _ _ _ (by intro e; injection e with e; omega)).trans hct, ⟨(World.cell?_setCell_other _ _ _ _ (by intro e; injection e with e; omega)).trans hcr, by rw [frozen_drew_own, World.frozen?_setCell]; exact hfr⟩, ?_, by rw [frozen_drew_own, World.frozen?_setCell]; exact hfi⟩, (hB.setCell (p := ⟨w.heap.size + 1 + 1, 0, none⟩) (by dsimp only; omega) _).drew⟩
        · intro j hj
          rcases List.mem_append.1 hj with h1 | h1
          · exact HN.out j h1
          · simp at h1; subst h1; exact ht
        · rw [cell_drew_own, World.cell?_setCell_same' _ _ _ (by rw [hci]; rfl)]; simp
  case done =>
    rintro D ys W hD rfl ⟨⟨hne, hle, hct, ⟨hcr, hfr⟩, hci, hfi⟩, hB⟩ hK
    gi_wp2
    have hK' := (KeepsOthers.setCell W ⟨w.heap.size + 1, 0, none⟩ (.int .i64 (-1))).same D _ hK rfl
    refine ⟨by simp, .inl ⟨_, _, rfl, run_takeDeferred hK', ?_⟩⟩
    have hc5 := cell_kept (World.cell?_setCell_same' W ⟨w.heap.size + 1, 0, none⟩ (.int .i64 (-1)) (by rw [hcr]; rfl)) (grownBy_putObj' _ D (.deferred none)) (fun r e => by cases e; exact ⟨_, hK', rfl⟩)
    refine ⟨.int .i64 (-1), ?_, ?_, (hB.setCell (p := ⟨w.heap.size + 1, 0, none⟩) (by simp) _).trans (belowK_b (w := w) (Nat.le_refl _) _ D _ _ (by omega) hK' rfl rfl)⟩
    · simp [results, Try.f14, go_sem, hc5]
    · rw [firstD_none L to (fun j hj => hne ⟨j, hj⟩ (by simp))]
  case stop =>
    rintro D c pre W hD hpre ⟨⟨rfl, p0, x, rfl, hne, hx, hcr⟩, hB⟩ hK
    gi_wp2
    refine ⟨by simp, .inl ⟨_, _, rfl, run_takeDeferred hK, ?_⟩⟩
    have hc5 := cell_kept hcr (grownBy_putObj' _ D (.deferred none)) (fun r e => by cases e; exact ⟨_, hK, rfl⟩)
    refine ⟨.int .i64 (p0.length : Int), ?_, ?_, hB.trans (belowK_b (w := w) (Nat.le_refl _) W D _ _ (by omega) hK rfl rfl)⟩
    · simp [results, Try.f14, go_sem, hc5]
    · have hp := prefix_upto hpre
      have hlen : p0.length < L.length := by
        have := hpre.length_le
        simp at this
        omega
      simp only [List.length_append, List.length_singleton] at hp
      rw [upto_succ _ _ hlen] at hp
      obtain ⟨h1, h2⟩ := List.append_inj' hp rfl
      have hxm : x.1 = p0.length := by
        injection h2 with h2
        rw [h2]
      rw [← hxm, firstD_some L to x.1 x.2 (fun j hj => ?_) hx]
      refine hne ⟨j, by omega⟩ ?_
      have hm := mem_upto L.length p0.length j (by omega) (by omega)
      rw [← h1] at hm
      exact hm
end Go.Proofs.Ytddndmhjkjanlaa
