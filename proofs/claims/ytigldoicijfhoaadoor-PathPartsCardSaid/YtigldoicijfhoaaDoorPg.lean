/- path.Check: what it tells of a text. No condition. -/
import Derived.Test.YtigldoicijfhoaaDoorPf
namespace Go.Proofs.YtigldoicijfhoaaDoor.H
open Go.RowKit Go.Shelf
attribute [local go_sem] Oper.semAt_some

theorem cell_of {w : World} {b : Nat} {cs : Array Value} {t : TypeId} {fr : Nat × Nat} (h : w.heap[b]? = some (.cells cs t fr)) (o : Nat) {v : Value} (hv : cs[o]? = some v) : w.cell? ⟨b, o, none⟩ = some v := by
  simp [World.cell?, h, hv]
theorem frozen_of {w : World} {b : Nat} {cs : Array Value} {t : TypeId} (h : w.heap[b]? = some (.cells cs t (0, 0))) (o : Nat) : w.frozen? ⟨b, o, none⟩ = false := by
  simp [World.frozen?, h]
theorem block_set {w : World} {b o : Nat} {cs : Array Value} {t : TypeId} {fr : Nat × Nat} (h : w.heap[b]? = some (.cells cs t fr)) (v : Value) : (w.setCell ⟨b, o, none⟩ v).heap[b]? = some (.cells (cs.setIfInBounds o v) t fr) := by
  obtain ⟨hlt, he⟩ := Array.getElem?_eq_some_iff.1 h
  show (w.heap.modify b _)[b]? = _
  rw [Array.getElem?_eq_getElem (by rw [Array.size_modify]; exact hlt), Array.getElem_modify_self, he]
  rfl
theorem block_far {w : World} {b k o : Nat} (h : b ≠ k) (v : Value) : (w.setCell ⟨k, o, none⟩ v).heap[b]? = w.heap[b]? := Below.heap_setCell w ⟨k, o, none⟩ v b h
theorem below_drewN {B : Nat} {a w : World} (h : Below B a w) (n : Nat) : Below B a (w.drewN n) := ⟨h.os, h.tape, h.output, h.size, h.block⟩
theorem below_step {w W w1 : World} (k : Below W.heap.size W w1) (h : Below w.heap.size w W) : Below w.heap.size w w1 := h.trans (k.mono h.size)
theorem below_new {w W : World} (o : Obj) (h : Below w.heap.size w W) : Below w.heap.size w (W.alloc o) := h.alloc h.size o
theorem zip2_fold (a b : Tmp) (v u : Value) (t : Array Value) : ((#[a, b] : Array Tmp).zip #[v, u]).foldl (fun t (p, v) => t.setIfInBounds p v) t = (t.setIfInBounds a v).setIfInBounds b u := by simp
/-- Blocks of cells abide the turn of what is no cells. -/
theorem cells_own {β : Type} (B k : Nat) (f : β → Array Value) (t : TypeId) (fr : Nat × Nat) : OwnFrom B (fun s (W : World) => W.heap[k]? = some (.cells (f s) t fr)) := fun s W W' row hs hg hr => by
  refine (hg.block k (Array.getElem?_eq_some_iff.1 hs).1 ?_).trans hs
  intro e
  obtain ⟨_, o, ho, hc⟩ := hr k e.symm
  rw [hs] at ho
  injection ho with ho
  subst ho
  cases hc

/-- The first fault among parts. -/
def chkI : Nat → List (Nat × Bs) → Option (Int × Int)
  | _, [] => none
  | n, (a, p) :: q => if 20 ≤ n then some (3, (a : Int)) else if (stepE p).1 ≠ 0 then some ((stepE p).1, (a : Int) + (stepE p).2) else chkI (n + 1) q
theorem chkL_chkI : ∀ (n a : Nat) (l : List Bs), chkL n a l = (chkI n (itemsS a l)).getD (0, 0)
  | _, _, [] => rfl
  | n, a, p :: q => by
    unfold chkL itemsS chkI
    by_cases h1 : 20 ≤ n
    · rw [if_pos h1, if_pos h1]; rfl
    · rw [if_neg h1, if_neg h1]
      by_cases h2 : (stepE p).1 ≠ 0
      · rw [if_pos h2, if_pos h2]; rfl
      · rw [if_neg h2, if_neg h2]; exact chkL_chkI _ _ _
theorem chkI_app : ∀ (n : Nat) (l m : List (Nat × Bs)), chkI n l = none → chkI n (l ++ m) = chkI (n + l.length) m
  | n, [], m, _ => by simp
  | n, (a, p) :: q, m, h => by
    rw [List.cons_append, chkI]
    rw [chkI] at h
    by_cases h1 : 20 ≤ n
    · rw [if_pos h1] at h; cases h
    · rw [if_neg h1] at h ⊢
      by_cases h2 : (stepE p).1 ≠ 0
      · rw [if_pos h2] at h; cases h
      · rw [if_neg h2] at h ⊢
        rw [chkI_app (n + 1) q m h, List.length_cons, show n + 1 + q.length = n + (q.length + 1) by omega]
theorem chkI_pre : ∀ (n : Nat) (l m : List (Nat × Bs)) (r : Int × Int), chkI n l = some r → chkI n (l ++ m) = some r
  | _, [], _, _, h => by cases h
  | n, (a, p) :: q, m, r, h => by
    rw [List.cons_append]
    unfold chkI at h ⊢
    by_cases h1 : 20 ≤ n
    · rw [if_pos h1] at h ⊢; exact h
    · rw [if_neg h1] at h ⊢
      by_cases h2 : (stepE p).1 ≠ 0
      · rw [if_pos h2] at h ⊢; exact h
      · rw [if_neg h2] at h ⊢; exact chkI_pre _ _ _ _ h

theorem retF {a b c d : Int} (h : a = c) (k : b = d) : Ending.returned (.agg #[.int .i64 a, .int .i64 b]) = .returned (.agg #[.int .i64 c, .int .i64 d]) := by rw [h, k]
def faultV (r : Int × Int) : Array Value := #[.int .i64 r.1, .int .i64 r.2]

set_option maxRecDepth 100000 in
set_option maxHeartbeats 4000000 in
theorem check_in (s : Bs) (w : World) :
    CallsIn Fence.wide 4 Tryd.prog 9 #[.string (mkB s)] w fun e W' => e = .returned (.agg #[.int .i64 (chk s).1, .int .i64 (chk s).2]) ∧ Below w.heap.size w W' := by
  by_cases h0 : s = []
  · subst h0
    refine callsIn_wide.2 ?_
    go_enter Tryd.func9, Tryd.ntmps9
    go_wp2
    exact bodyPost_ret (v := .agg #[.int .i64 2, .int .i64 0]) (by simp [results, Tryd.results9, go_sem]) rfl ⟨rfl, (below_new _ (Below.refl _ _))⟩
  have g0 : List.isEmpty s = false := by cases s with | nil => exact (h0 rfl).elim | cons => rfl
  by_cases h1 : 200 < s.length
  · refine callsIn_wide.2 ?_
    have hc : chk s = (3, 200) := by unfold chk; rw [if_neg h0, if_pos h1]
    rw [hc]
    clear h0 hc
    go_enter Tryd.func9, Tryd.ntmps9
    go_wp2
    exact bodyPost_ret (v := .agg #[.int .i64 3, .int .i64 200]) (by simp [results, Tryd.results9, go_sem]) rfl ⟨rfl, (below_new _ (Below.refl _ _))⟩
  have hc : chk s = (chkI 0 (itemsS 0 (sp s))).getD (0, 0) := by unfold chk; rw [if_neg h0, if_neg h1, chkL_chkI]
  replace hc := Lib.hid hc
  clear h0
  refine callsIn_of_wp_marks Tryd.func9 rfl trivial ?_ rfl
  simp only [Tryd.ntmps9, List.size_toArray, List.length_cons, List.length_nil, Nat.reduceAdd, Nat.reduceSub, Array.replicate_succ, Array.replicate_zero, List.push_toArray, List.append_toArray, List.nil_append, List.cons_append]
  gi_wp2_with (refine ⟨trivial, ?_⟩; gi_at_call 26; refine (steps_in _ _ _).mono ?_; rintro e w' ⟨rfl, rfl⟩)
  have k0 : (((w.alloc (.cells #[.int .i64 0, .int .i64 0] 29)).alloc (.cells #[.int .i64 0] 3)).alloc (.cells #[.string (mkB s)] 9)).heap[w.heap.size]? = some (.cells #[.int .i64 0, .int .i64 0] 29 (0, 0)) :=
    (Below.heap_alloc _ _ _ (by simp; omega)).trans ((Below.heap_alloc _ _ _ (by simp)).trans (World.alloc_heap_new w _))
  have k1 : (((w.alloc (.cells #[.int .i64 0, .int .i64 0] 29)).alloc (.cells #[.int .i64 0] 3)).alloc (.cells #[.string (mkB s)] 9)).heap[w.heap.size + 1]? = some (.cells #[.int .i64 0] 3 (0, 0)) := by
    refine (Below.heap_alloc _ _ _ (by simp)).trans ?_
    have := World.alloc_heap_new (w.alloc (.cells #[.int .i64 0, .int .i64 0] 29)) (.cells #[.int .i64 0] 3)
    rwa [World.size_alloc] at this
  have k2 : Boxed (((w.alloc (.cells #[.int .i64 0, .int .i64 0] 29)).alloc (.cells #[.int .i64 0] 3)).alloc (.cells #[.string (mkB s)] 9)) (w.heap.size + 1 + 1) 9 (.string (mkB s)) := by
    have := Boxed.new ((w.alloc (.cells #[.int .i64 0, .int .i64 0] 29)).alloc (.cells #[.int .i64 0] 3)) 9 (.string (mkB s))
    rwa [World.size_alloc, World.size_alloc] at this
  have hB0 : Below w.heap.size w (((w.alloc (.cells #[.int .i64 0, .int .i64 0] 29)).alloc (.cells #[.int .i64 0] 3)).alloc (.cells #[.string (mkB s)] 9)) :=
    below_new _ (below_new _ (below_new _ (Below.refl _ _)))
  have hs0 : (((w.alloc (.cells #[.int .i64 0, .int .i64 0] 29)).alloc (.cells #[.int .i64 0] 3)).alloc (.cells #[.string (mkB s)] 9)).heap.size = w.heap.size + 3 := by simp
  generalize ((w.alloc (.cells #[.int .i64 0, .int .i64 0] 29)).alloc (.cells #[.int .i64 0] 3)).alloc (.cells #[.string (mkB s)] 9) = W0 at *
  refine range_turns (n := 4) rfl (by omega) (gf := 39) (lb := #[.pointer (some ⟨w.heap.size + 1 + 1, 0, none⟩)]) rfl trivial (enters_of Tryd.func39 (by kernel_rfl) rfl)
    (steps_stops (4 - 1) (by omega) (w.heap.size + 1 + 1) s (by omega) W0 k2)
    (fun h k => k.trans h) (fun W l o o' hl hh _ _ => World.putObj_heap_other (by omega))
    (fun A B k o ht hk ho hc => by
      obtain ⟨hg, v, hv⟩ := ht
      refine (hg.block k (Array.getElem?_eq_some_iff.1 ho).1 ?_).trans ho
      intro e; injection e with e; omega)
    (Below.refl _ _) (fun _ => rfl)
    (fun pre W => (chkI 0 (vals pre) = none) ∧ (W.heap[w.heap.size]? = some (.cells #[.int .i64 0, .int .i64 0] 29 (0, 0)) ∧ W.heap[w.heap.size + 1]? = some (.cells #[.int .i64 (pre.length : Int)] 3 (0, 0)) ∧ Below w.heap.size w W))
    (fun c pre W => (c = .ret ∧ ∃ r, chkI 0 (vals pre) = some r ∧ W.heap[w.heap.size]? = some (.cells (faultV r) 29 (0, 0))) ∧ Below w.heap.size w W)
    ?hI ?hIx ?hIT ?hIxT ⟨rfl, k0, k1, hB0⟩ ?a1 ?assign ?body ?done ?stop
  case hI =>
    exact OwnFrom.and (ownFrom_pure _ _) (OwnFrom.and (cells_own _ _ (fun _ => _) _ _) (OwnFrom.and (cells_own _ _ (fun pre : List It => #[.int .i64 (pre.length : Int)]) _ _) (ownFrom_below (Nat.le_refl _) (by omega))))
  case hIx =>
    intro c
    refine OwnFrom.and ?_ (ownFrom_below (Nat.le_refl _) (by omega))
    rintro pre A B row ⟨hc, r, h1, h2⟩ hg hr
    exact ⟨hc, r, h1, cells_own W0.heap.size _ (fun _ : List It => faultV r) _ _ pre A B row h2 hg hr⟩
  case hIT =>
    rintro pre A B ⟨h1, h2, h3, h4⟩ ⟨hg, v, hv⟩
    exact ⟨h1, (hg.block _ (Array.getElem?_eq_some_iff.1 h2).1 (by simp; omega)).trans h2, (hg.block _ (Array.getElem?_eq_some_iff.1 h3).1 (by simp)).trans h3, h4.grown hg h4.size (fun k e => by injection e with e; omega)⟩
  case hIxT =>
    rintro c pre A B ⟨⟨hc, r, h1, h2⟩, h4⟩ ⟨hg, v, hv⟩
    exact ⟨⟨hc, r, h1, (hg.block _ (Array.getElem?_eq_some_iff.1 h2).1 (by simp; omega)).trans h2⟩, h4.grown hg h4.size (fun k e => by injection e with e; omega)⟩
  case assign =>
    intro l x W K hK
    simp only [encS, zip2_fold]
    simp only [List.setIfInBounds_toArray, List.set_cons_succ, List.set_cons_zero]
    gi_wp2
    exact hK
  case body =>
    rintro l pre ⟨⟨at', p⟩, ha, hp⟩ W ⟨hn, r0, r1, hB⟩ hlen
    have hspl : (sp s).length ≤ 201 := by
      have h := jn_length (sp_ne s)
      rw [jn_sp] at h
      have h2 : ∀ l : List Bs, l.length ≤ (l.map (fun p => p.length + 1)).sum := fun l => by
        induction l with
        | nil => simp
        | cons a b ih => simp only [List.length_cons, List.map_cons, List.sum_cons]; omega
      have := h2 (sp s)
      omega
    have hn21 : pre.length ≤ 200 := by omega
    have c0 := cell_of r0 0 rfl; have c1 := cell_of r0 1 rfl; have c2 := cell_of r1 0 rfl
    have f0 := frozen_of r0 0; have f1 := frozen_of r0 1; have f2 := frozen_of r1 0
    have R0 := Lib.hid r0; have R1 := Lib.hid r1; have HN := Lib.hid hn
    dsimp only at ha hp
    clear hlen hspl r0 r1 hn
    have hone : chkI 0 (vals (pre ++ [⟨(at', p), ha, hp⟩])) = chkI pre.length [(at', p)] := by
      have := chkI_app 0 (vals pre) [(at', p)] HN.out
      rw [List.length_map, Nat.zero_add] at this
      rw [← this]; simp [vals]
    replace hone := Lib.hid hone
    by_cases h20 : 20 ≤ pre.length
    · have hres : chkI 0 (vals (pre ++ [⟨(at', p), ha, hp⟩])) = some (3, (at' : Int)) := by rw [hone.out, chkI, if_pos h20]
      replace hres := Lib.hid hres
      gi_wp2
      refine ⟨((KeepsOthers.setCell _ _ _).trans ((KeepsOthers.setCell _ _ _).trans (KeepsOthers.setCell _ _ _))).from _, ⟨rfl, _, hres.out, ?_⟩, ((hB.setCell (p := ⟨w.heap.size + 1, 0, none⟩) (by simp) _).setCell (p := ⟨w.heap.size, 0, none⟩) (Nat.le_refl _) _).setCell (p := ⟨w.heap.size, 1, none⟩) (Nat.le_refl _) _⟩
      exact block_set (block_set ((block_far (by omega) _).trans R0.out) _) _
    · by_cases he : (stepE p).1 = 0
      · have hres : chkI 0 (vals (pre ++ [⟨(at', p), ha, hp⟩])) = none := by rw [hone.out, chkI, if_neg h20, if_neg (by simpa using he)]; rfl
        replace hres := Lib.hid hres
        have hb : ((stepE p).1 != 0) = false := by simp [he]
        have hE := stepE_range p
        clear he hone
        generalize hst : stepE p = st at *
        replace hst := Lib.hid hst
        gi_wp2_with (refine ⟨trivial, ?_⟩; gi_at_call 27; refine (CallsIn.inRound l (callsIn_wide.2 (step_any _ _ hp))).mono ?_; rintro e w' ⟨rfl, rfl⟩; rw [hst.out])
        refine ⟨(KeepsOthers.setCell _ _ _).from _, block_far (by omega) _, hres.out, (block_far (by omega) _).trans R0.out, ?_, hB.setCell (p := ⟨w.heap.size + 1, 0, none⟩) (by simp) _⟩
        have := block_set (o := 0) R1.out (.int .i64 (↑pre.length + 1))
        simpa using this
      · have hres : chkI 0 (vals (pre ++ [⟨(at', p), ha, hp⟩])) = some ((stepE p).1, (at' : Int) + (stepE p).2) := by rw [hone.out, chkI, if_neg h20, if_pos he]
        replace hres := Lib.hid hres
        have hb : ((stepE p).1 != 0) = true := by simp [he]
        have hE := stepE_range p
        clear he hone
        generalize hst : stepE p = st at *
        replace hst := Lib.hid hst
        gi_wp2_with (refine ⟨trivial, ?_⟩; gi_at_call 27; refine (CallsIn.inRound l (callsIn_wide.2 (step_any _ _ hp))).mono ?_; rintro e w' ⟨rfl, rfl⟩; rw [hst.out])
        refine ⟨((KeepsOthers.setCell _ _ _).trans ((KeepsOthers.setCell _ _ _).trans (KeepsOthers.setCell _ _ _))).from _, ⟨rfl, _, hres.out, ?_⟩, ((hB.setCell (p := ⟨w.heap.size + 1, 0, none⟩) (by simp) _).setCell (p := ⟨w.heap.size, 0, none⟩) (Nat.le_refl _) _).setCell (p := ⟨w.heap.size, 1, none⟩) (Nat.le_refl _) _⟩
        exact block_set (block_set ((block_far (by omega) _).trans R0.out) _) _
  case done =>
    rintro D ys W hD hys ⟨hn, r0, r1, hB⟩ hK
    have hch : chk s = (0, 0) := by rw [hc.out, ← hys, hn]; rfl
    replace hch := Lib.hid hch
    have c0 := cell_of r0 0 rfl; have c1 := cell_of r0 1 rfl
    have f0 := frozen_of r0 0; have f1 := frozen_of r0 1
    have R0 := Lib.hid r0; have HK := Lib.hid hK
    clear hys hn r1 r0 hK
    gi_wp2
    have hK2 := ((KeepsOthers.setCell W ⟨w.heap.size, 0, none⟩ (.int .i64 0)).trans (KeepsOthers.setCell _ ⟨w.heap.size, 1, none⟩ (.int .i64 0))).same D _ HK.out rfl
    refine ⟨by simp, .inl ⟨_, _, rfl, run_takeDeferred hK2, ?_⟩⟩
    have hr2 := block_set (o := 1) (block_set (o := 0) R0.out (.int .i64 0)) (.int .i64 0)
    have hr3 : (((W.setCell ⟨w.heap.size, 0, none⟩ (.int .i64 0)).setCell ⟨w.heap.size, 1, none⟩ (.int .i64 0)).putObj D (.deferred none)).heap[w.heap.size]? = _ := (World.putObj_heap_other (by omega)).trans hr2
    have c5 := cell_of hr3 0 rfl; have c6 := cell_of hr3 1 rfl
    refine ⟨.agg #[.int .i64 0, .int .i64 0], ?_, by rw [hch.out], ?_⟩
    · simp [results, Tryd.f9, go_sem, c5, c6]
    · exact ((hB.setCell (p := ⟨w.heap.size, 0, none⟩) (Nat.le_refl _) _).setCell (p := ⟨w.heap.size, 1, none⟩) (Nat.le_refl _) _).trans (belowK_b (w := w) (Nat.le_refl _) _ D _ _ (by omega) hK2 rfl rfl)
  case stop =>
    rintro D c pre W hD hpre ⟨⟨rfl, r, hr, r0⟩, hB⟩ hK
    have hch : chk s = r := by
      obtain ⟨t, ht⟩ := hpre
      rw [hc.out, ← ht, chkI_pre 0 _ _ _ hr]; rfl
    replace hch := Lib.hid hch
    have R0 := Lib.hid r0; have HK := Lib.hid hK
    clear hr hpre r0 hK
    gi_wp2
    refine ⟨by simp, .inl ⟨_, _, rfl, run_takeDeferred HK.out, ?_⟩⟩
    have hr3 : (W.putObj D (.deferred none)).heap[w.heap.size]? = _ := (World.putObj_heap_other (by omega)).trans R0.out
    have c5 := cell_of hr3 0 rfl; have c6 := cell_of hr3 1 rfl
    refine ⟨.agg #[.int .i64 r.1, .int .i64 r.2], ?_, by rw [hch.out], hB.trans (belowK_b (w := w) (Nat.le_refl _) _ D _ _ (by omega) HK.out rfl rfl)⟩
    simp [results, Tryd.f9, go_sem, c5, c6, faultV]
theorem check_any (s : Bs) (w : World) :
    Calls Tryd.prog 9 #[.string (mkB s)] w fun e W' => e = .returned (.agg #[.int .i64 (chk s).1, .int .i64 (chk s).2]) ∧ Below w.heap.size w W' :=
  callsIn_wide.1 (check_in s w)
end Go.Proofs.YtigldoicijfhoaaDoor.H
