/- Slices of bytes: what they read as; SameBytes, Clone. Conditions: the slices read as bytes; what is cloned has at most 2^40 of them. -/
import Derived.Test.YtddndmhjkjanlaaNc
namespace Go.Proofs.Ytddndmhjkjanlaa
open Go.RowKit Go.Shelf

/-- The slice v reads as the bytes xs. -/
def RB (w : World) (v : Value) (xs : List UInt8) : Prop :=
  ∃ A c, v = .slice A xs.length c ∧ (A = none → xs = [] ∧ c = 0) ∧ ∀ ad, A = some ad → ∀ j (hj : j < xs.length), w.cell? (ad.add j) = some (.int .u8 (xs[j].toNat : Int))
theorem RB.nil (w : World) : RB w (.slice none 0 0) [] := ⟨none, 0, rfl, fun _ => ⟨rfl, rfl⟩, fun _ h => by cases h⟩
theorem add_plain (g j : Nat) : (⟨g, 0, none⟩ : Addr).add j = ⟨g, j, none⟩ := by unfold Addr.add; split <;> simp_all
theorem RB.of_own {w : World} {base : Nat} {v : Value} {xs : List UInt8} (h : w.ownsRow base 5 1 v xs.length (byv xs)) : RB w v xs := by
  rcases h.2 with ⟨rfl, h0⟩ | ⟨g, cap, cur, rfl, _⟩
  · have : xs = [] := by cases xs with
      | nil => rfl
      | cons a r => simp [byv] at h0
    subst this
    exact RB.nil w
  · refine ⟨_, cap, rfl, fun e => absurd e (by simp), fun ad e j hj => ?_⟩
    injection e with e
    subst e
    exact h.cells (g := g) rfl j (.int .u8 (xs[j].toNat : Int)) (by simp [byv, List.getElem?_eq_getElem hj])
/-- The block that it lies in. -/
def inB (v : Value) (k : Nat) : Prop := ∃ ad n c, v = .slice (some ad) n c ∧ ad.block = k
theorem RB.kept {w w' : World} {v : Value} {xs : List UInt8} (h : RB w v xs) (hb : ∀ k, inB v k → w'.heap[k]? = w.heap[k]?) : RB w' v xs := by
  obtain ⟨A, c, hv, h0, hc⟩ := h
  refine ⟨A, c, hv, h0, fun ad e j hj => ?_⟩
  rw [← hc ad e j hj]
  refine World.cell?_of_block ?_
  have : (ad.add j).block = ad.block := by unfold Addr.add; split <;> rfl
  rw [this]
  exact hb _ ⟨ad, _, c, by rw [hv, e], rfl⟩
theorem RB.lt {w : World} {v : Value} {xs : List UInt8} (h : RB w v xs) (h0 : xs ≠ []) : ∀ k, inB v k → k < w.heap.size := by
  obtain ⟨A, c, rfl, _, hc⟩ := h
  rintro k ⟨ad, n, c', e, rfl⟩
  injection e with e1 e2 e3
  have hj : 0 < xs.length := List.length_pos_iff.2 h0
  have := World.block_lt_of_cell? w _ (hc ad e1 0 hj)
  have h2 : (ad.add 0).block = ad.block := by unfold Addr.add; split <;> rfl
  rwa [h2] at this
theorem RB.upd {w w' : World} {v : Value} {xs : List UInt8} {S : Nat → Prop} (h : RB w v xs) (hu : Upd S w w') (hs : ∀ k, inB v k → ¬ S k) : RB w' v xs := by
  rcases xs with _ | ⟨x, r⟩
  · obtain ⟨A, c, hv, h0, hc⟩ := h
    exact ⟨A, c, hv, h0, fun ad e j hj => by simp at hj⟩
  · exact h.kept (fun k hk => hu.block k (h.lt (by simp) k hk) (hs k hk))
theorem RB.below {w w' : World} {v : Value} {xs : List UInt8} (h : RB w v xs) (hb : Below w.heap.size w w') : RB w' v xs :=
  h.upd (S := fun _ => False) (Upd.of_below hb) (fun _ _ h => h)
theorem RB.drewN {w : World} {v : Value} {xs : List UInt8} (h : RB w v xs) (n : Nat) : RB (w.drewN n) v xs := h
theorem RB.alloc {w : World} {v : Value} {xs : List UInt8} (h : RB w v xs) (o : Obj) : RB (w.alloc o) v xs := h.below ((Below.refl _ _).alloc (Nat.le_refl _) _)

def strB (xs : List UInt8) : ByteArray := ⟨xs.toArray⟩
theorem strB_eq (xs ys : List UInt8) : (strB xs).toList = (strB ys).toList ↔ xs = ys := by
  have h : ∀ l : List UInt8, (strB l).toList = l := fun l => by simp [strB, ByteArray.toList_eq]
  rw [h, h]

theorem RB.string {w : World} {v : Value} {xs : List UInt8} (h : RB w v xs) : (convert 26 9 v).run Try.prog w = .ok (.string (strB xs)) w := by
  obtain ⟨A, c, rfl, h0, hc⟩ := h
  cases A with
  | none =>
    rw [(h0 rfl).1]
    exact run_convert_bytes_nil w 26 5 Try.underlying26 Try.underlying5 0 c 9 Try.underlying9
  | some ad => exact run_convert_bytes_back w 26 9 5 ad c xs Try.underlying26 Try.underlying5 Try.underlying9 (hc ad rfl)

set_option maxHeartbeats 400000 in
theorem sameBytes_any (v u : Value) (xs ys : List UInt8) (w : World) (hv : RB w v xs) (hu : RB w u ys) :
    Calls Try.prog 35 #[v, u] w fun e w' => e = .returned (.bool (decide (xs = ys))) ∧ w = w' := by
  have h1 := hv.string
  have h2 := hu.string
  clear hv hu
  go_enter Try.func35, Try.ntmps35
  go_wp2
  go_ret
  have e : ((strB xs).toList == (strB ys).toList) = decide (xs = ys) := by rw [Bool.eq_iff_iff]; simp [strB_eq]
  rw [e]
  exact ⟨rfl, rfl⟩

theorem info5 : (Try.prog.info? 5).map (fun i => (i.zero, i.size, i.bytes)) = some (some (.int .u8 0), 1, 1) := by kernel_rfl
theorem allU8_byv (xs : List UInt8) : ∀ u ∈ byv xs, ∃ x : UInt8, u = .int .u8 (x.toNat : Int) := by
  intro u hu
  simp only [byv, List.mem_map] at hu
  obtain ⟨x, _, rfl⟩ := hu
  exact ⟨x, rfl⟩
theorem allU8_zero (n : Nat) : ∀ u ∈ (Builtin.zeroCells #[.int .u8 0] n).toList, ∃ x : UInt8, u = .int .u8 (x.toNat : Int) := by
  intro u hu
  simp only [Builtin.zeroCells, Array.toList_map, List.mem_map] at hu
  obtain ⟨i, _, rfl⟩ := hu
  refine ⟨0, ?_⟩
  have : i % (#[(Value.int .u8 0)] : Array Value).size = 0 := by simp [Nat.mod_one]
  rw [this]
  rfl
theorem byv_append (xs ys : List UInt8) : byv (xs ++ ys) = byv xs ++ byv ys := by simp [byv]

/-- append(v, ys...) of bytes: v owned, ys read. -/
theorem run_append_bytes (w : World) (base : Nat) (ty : TypeId) (v : Value) (xs ys : List UInt8) (h : OB w base v xs) (a : Addr) (c : Nat) (hys : ∀ j (hj : j < ys.length), w.cell? (a.add j) = some (.int .u8 (ys[j].toNat : Int)))
    (hsm : xs.length + ys.length ≤ 140737488355328) (hbase : base ≤ w.heap.size) :
    ∃ A cap w', (Builtin.append_ #[26, 26] ty #[v, .slice (some a) ys.length c]).run Try.prog w = .ok (.slice A (xs ++ ys).length cap) w' ∧ OB w' base (.slice A (xs ++ ys).length cap) (xs ++ ys) ∧ w.grownBy w' v.ownBlock ∧
      ((Value.slice A (xs ++ ys).length cap).ownBlock = v.ownBlock ∨ (Value.slice A (xs ++ ys).length cap).ownBlock = some w.heap.size) := by
  obtain ⟨i, hi, hz0, hz1, hz2⟩ := info_parts info5
  have hn : ∀ j u, (byv ys)[j]? = some u → w.cell? (a.add j) = some u := by
    intro j u hj
    have hjl : j < ys.length := by have := (List.getElem?_eq_some_iff.1 hj).1; simpa using this
    rw [hys j hjl, ← hj]
    simp [byv, List.getElem?_eq_getElem hjl]
  have h1 : ∀ u ∈ byv ys, u.oneCell' = true := by
    intro u hu
    obtain ⟨x, rfl⟩ := allU8_byv ys u hu
    rfl
  have hl : (byv ys).length = ys.length * i.size := by rw [hz1]; simp
  have hlen : (byv (xs ++ ys)).length = (xs.length + ys.length) * 1 := by simp
  have h63 : xs.length + ys.length ≤ maxLen := by simp only [maxLen]; omega
  have hbytes : (xs.length + ys.length) * i.bytes ≤ 140737488355328 := by rw [hz2]; omega
  have hzc : ∀ n, (Builtin.zeroCells (Value.int .u8 0).cells n).size = n * 1 := fun n => size_zeroCells (Value.int .u8 0).cells n
  have grown : ∀ (old : Nat), old < xs.length + ys.length → ∀ (row : Option Nat),
      OB (w.drew.alloc (.cells ((byv xs).toArray ++ (byv ys).toArray ++ Builtin.zeroCells (Value.int .u8 0).cells (grownCap w (xs.length + ys.length) old 5 - (xs.length + ys.length))) 5)) base
        (.slice (some ⟨w.heap.size, 0, none⟩) (xs ++ ys).length (grownCap w (xs.length + ys.length) old 5)) (xs ++ ys) ∧
      w.grownBy (w.drew.alloc (.cells ((byv xs).toArray ++ (byv ys).toArray ++ Builtin.zeroCells (Value.int .u8 0).cells (grownCap w (xs.length + ys.length) old 5 - (xs.length + ys.length))) 5)) row := by
    intro old ho row
    have hge := grownCap_ge w (xs.length + ys.length) old 5
    have hcm : grownCap w (xs.length + ys.length) old 5 ≤ maxLen := grownCap_le_maxLen w (xs.length + ys.length) old 5 h63
    refine ⟨⟨⟨by simp, .inr ⟨w.heap.size, _, _, rfl, hbase, heap_alloc_new w.drew _, by simpa using hge, hcm, ?_, ?_⟩⟩, ?_⟩, ⟨rfl, rfl, rfl, by simp, fun k hk _ => heap_alloc_old w.drew _ k hk⟩⟩
    · simp only [Array.size_append, List.size_toArray, hzc, byv_length]
      omega
    · simp only [Array.toList_append, List.append_assoc]
      rw [← List.append_assoc, ← byv_append, show (xs ++ ys).length * 1 = (byv (xs ++ ys)).length by simp]
      exact List.take_left
    · intro g hg
      simp only [Value.ownBlock, Option.some.injEq] at hg
      subst hg
      refine ⟨_, heap_alloc_new w.drew _, ?_⟩
      intro u hu
      simp only [Array.toList_append, List.mem_append] at hu
      rcases hu with (hu | hu) | hu
      · exact allU8_byv xs u hu
      · exact allU8_byv ys u hu
      · exact allU8_zero _ u hu
  rcases h.own.2 with ⟨rfl, hx⟩ | ⟨g, cap, cur, rfl, hbg, hg, hnc, hcm, hcs, htake⟩
  · have hx : xs = [] := by
      cases xs with
      | nil => rfl
      | cons b r => simp [byv] at hx
    subst hx
    by_cases hm : ys = []
    · subst hm
      refine ⟨none, 0, w, ?_, ⟨⟨rfl, .inl ⟨rfl, rfl⟩⟩, fun g hg => by simp [Value.ownBlock] at hg⟩, ⟨rfl, rfl, rfl, Nat.le_refl _, fun _ _ _ => rfl⟩, Or.inl rfl⟩
      simp [Builtin.append_, run_underlying Try.underlying26, sizeOf, typeInfo, hi, Builtin.lenOf, Builtin.firstCells, loadCells, loadCellsFrom]
    · have hpos : 0 < ys.length := List.length_pos_iff.2 hm
      have hr := run_append_nil (P := Try.prog) w 26 ty 5 i (.int .u8 0) Try.underlying26 hi hz0 a ys.length c (byv ys) hl hn (by omega) (by simp only [maxLen] at h63; omega) (by rw [hz2]; simp at hsm; omega)
      have hgr := grown 0 (by simp; omega) (Value.ownBlock (.slice none 0 0))
      simp only [List.length_nil, Nat.zero_add, List.nil_append, byv, List.map_nil, Array.empty_append] at hgr hr ⊢
      exact ⟨_, _, _, hr, hgr.1, hgr.2, Or.inr rfl⟩
  · by_cases hroom : xs.length + ys.length ≤ cap
    · have hfit : xs.length * i.size + (byv ys).length ≤ cur.size := by rw [hl, hcs, hz1]; omega
      have hr := run_append_room (P := Try.prog) w 26 ty 5 i Try.underlying26 hi g xs.length cap cur hg a ys.length c (byv ys) hl hn h1 hroom hfit
      have hll : (xs ++ ys).length = xs.length + ys.length := by simp
      rw [hll]
      refine ⟨_, _, _, hr, ⟨⟨by simp, .inr ⟨g, cap, _, by rw [hll], hbg, setRow_heap w g cur _ 5 _ hg, by rw [hll]; exact hroom, hcm, ?_, ?_⟩⟩, ?_⟩, ⟨rfl, rfl, rfl, by simp, fun k _ hk => setRow_other w g k _ (fun e => hk (by simp [Value.ownBlock, e]))⟩, Or.inl rfl⟩
      · simp only [List.size_toArray, List.length_append, List.length_take, List.length_drop, Array.length_toList, byv_length]
        rw [hz1]
        omega
      · rw [hz1, htake, ← byv_append, show (xs ++ ys).length * 1 = (byv (xs ++ ys)).length by simp]
        exact List.take_left
      · intro g' hg'
        simp only [Value.ownBlock, Option.some.injEq] at hg'
        subst hg'
        obtain ⟨cur', hc1, hc2⟩ := h.typ g rfl
        rw [hg] at hc1
        injection hc1 with hc1
        injection hc1 with hc1
        subst hc1
        refine ⟨_, setRow_heap w g cur _ 5 _ hg, ?_⟩
        intro u hu
        simp only [List.mem_append] at hu
        rcases hu with (hu | hu) | hu
        · exact hc2 u (List.mem_of_mem_take hu)
        · exact allU8_byv ys u hu
        · exact hc2 u (List.mem_of_mem_drop hu)
    · have holds : ∀ j u, (byv xs)[j]? = some u → w.cell? ((⟨g, 0, none⟩ : Addr).add j) = some u := h.own.cells (g := g) rfl
      have hr := run_append_grow (P := Try.prog) w 26 ty 5 i (.int .u8 0) Try.underlying26 hi hz0 ⟨g, 0, none⟩ xs.length cap (byv xs) (by rw [hz1]; simp) holds a ys.length c (byv ys) hl hn (by omega) (by simp only [maxLen] at h63; omega) (growslice_fits (by omega) hbytes)
      have hgr := grown cap (by omega) (Value.ownBlock (.slice (some ⟨g, 0, none⟩) xs.length cap))
      have hll : (xs ++ ys).length = xs.length + ys.length := by simp
      rw [hll] at hgr ⊢
      exact ⟨_, _, _, hr, hgr.1, hgr.2, Or.inr rfl⟩
theorem wpList_append_bytes {w : World} {ops : Array Oper} {rest : List Oper} {o : Oper} {a : Act} {Q : Exit → Act → World → Prop} (hgd : o.guard = none) (s x : Operand)
    (ho : o.op = .call { callee := .builtin .append, args := #[s, x], argTypes := #[26, 26] }) (base : Nat) (v : Value) (xs ys : List UInt8) (hs : a.eval s = v) (h : OB w base v xs) (ad : Addr) (c : Nat) (hx : a.eval x = .slice (some ad) ys.length c)
    (hys : ∀ j (hj : j < ys.length), w.cell? (ad.add j) = some (.int .u8 (ys[j].toNat : Int))) (hsm : xs.length + ys.length ≤ 140737488355328) (hbase : base ≤ w.heap.size)
    (k : ∀ A cap w', OB w' base (.slice A (xs ++ ys).length cap) (xs ++ ys) → w.grownBy w' v.ownBlock → ((Value.slice A (xs ++ ys).length cap).ownBlock = v.ownBlock ∨ (Value.slice A (xs ++ ys).length cap).ownBlock = some w.heap.size) → wpList Try.prog ops Q rest (a.put o.dst (.slice A (xs ++ ys).length cap)) w') :
    wpList Try.prog ops Q (o :: rest) a w := by
  refine wpList_plain hgd fun K hK => ?_
  obtain ⟨A, cap, w', hr, h2, h3, h4⟩ := run_append_bytes w base o.type v xs ys h ad c hys hsm hbase
  unfold Oper.wp execOp
  simp only [ho, resolve, invoke, builtin, Sem.run_bind, Sem.run_pure, Result.andThen_ok, List.map_toArray, List.map_cons, List.map_nil, hs, hx, hr]
  exact hK _ _ (k A cap w' h2 h3 h4)

/-- slices.Clone: nil of nil; else bytes of its own. -/
theorem own_empty (w : World) : OB (w.alloc (.cells #[] 5)) w.heap.size (.slice (some ⟨w.heap.size, 0, none⟩) 0 0) [] :=
  ⟨⟨rfl, .inr ⟨_, 0, #[], rfl, Nat.le_refl _, heap_alloc_new w _, Nat.le_refl _, by simp [maxLen], rfl, by simp [byv]⟩⟩, fun g hg => by
    simp only [Value.ownBlock, Option.some.injEq] at hg
    subst hg
    exact ⟨#[], heap_alloc_new w _, fun u hu => by simp at hu⟩⟩
theorem OB.nil (w : World) (base : Nat) : OB w base (.slice none 0 0) [] := ⟨⟨rfl, .inl ⟨rfl, rfl⟩⟩, fun g hg => by simp [Value.ownBlock] at hg⟩
theorem OB.rb {w : World} {base : Nat} {v : Value} {xs : List UInt8} (h : OB w base v xs) : RB w v xs := RB.of_own h.own
theorem OB.form {w : World} {base : Nat} {v : Value} {xs : List UInt8} (h : OB w base v xs) : ∃ A c, v = .slice A xs.length c := by
  rcases h.own.2 with ⟨rfl, h0⟩ | ⟨g, cap, cur, rfl, _⟩
  · have : xs = [] := by cases xs with
      | nil => rfl
      | cons a r => simp [byv] at h0
    subst this
    exact ⟨_, _, rfl⟩
  · exact ⟨_, _, rfl⟩
theorem OB.block {w : World} {base : Nat} {v : Value} {xs : List UInt8} (h : OB w base v xs) : ∀ k ∈ v.ownBlock.toList, base ≤ k ∧ k < w.heap.size := by
  intro k hk
  rcases h.own.2 with ⟨rfl, _⟩ | ⟨g, cap, cur, rfl, hg, hh, _⟩
  · simp [Value.ownBlock] at hk
  · simp [Value.ownBlock] at hk
    subst hk
    exact ⟨hg, (Array.getElem?_eq_some_iff.1 hh).1⟩
theorem OB.mono {w : World} {base base' : Nat} {v : Value} {xs : List UInt8} (h : OB w base v xs) (hb : base' ≤ base) : OB w base' v xs := by
  refine ⟨⟨h.own.1, ?_⟩, h.typ⟩
  rcases h.own.2 with h2 | ⟨g, cap, cur, hv, hg, r⟩
  · exact .inl h2
  · exact .inr ⟨g, cap, cur, hv, Nat.le_trans hb hg, r⟩

set_option maxHeartbeats 400000 in
theorem clone_nil (w : World) : Calls Try.prog 37 #[.slice none 0 0] w fun e w' => e = .returned (.slice none 0 0) ∧ w = w' := by
  have hq := fun w => @Lib.run_eql_slice_nil Try.prog w 26 5
  go_enter Try.func37, Try.ntmps37
  go_wp2
  go_ret
  exact ⟨rfl, rfl⟩
set_option maxHeartbeats 400000 in
theorem clone_any (ad : Addr) (c : Nat) (xs : List UInt8) (w : World) (h : RB w (.slice (some ad) xs.length c) xs) (hl : xs.length ≤ 1000000) :
    Calls Try.prog 37 #[.slice (some ad) xs.length c] w fun e w' => ∃ A c', e = .returned (.slice A xs.length c') ∧ OB w' w.heap.size (.slice A xs.length c') xs ∧ Below w.heap.size w w' := by
  have hown0 := own_empty w
  have hys : ∀ j (hj : j < xs.length), (w.alloc (.cells #[] 5)).cell? (ad.add j) = some (.int .u8 (xs[j].toNat : Int)) := by
    intro j hj
    obtain ⟨A, c', e, _, hc⟩ := h.alloc (.cells #[] 5)
    injection e with e1 _ _
    exact hc ad e1.symm j hj
  clear h
  have HN := Lib.hid hys; clear hys
  have hq := fun w => @Lib.run_eql_slice_nil Try.prog w 26 5
  go_enter Try.func37, Try.ntmps37
  go_wp2_with (at_builtin; refine wpList_append_bytes rfl _ _ rfl w.heap.size (.slice (some ⟨w.heap.size, 0, none⟩) 0 0) [] xs (by rfl) hown0 ad c rfl HN.out (by simp; omega) (by simp) ?_; intro A1 cap1 w1 hown1 hg1 _; rw [List.nil_append] at hown1 ⊢)
  go_ret
  exact ⟨A1, cap1, rfl, hown1, ((Below.refl _ _).alloc (Nat.le_refl _) _).grown hg1 (by simp) (by intro k e; simp [Value.ownBlock] at e; omega)⟩
theorem clone_all (v : Value) (xs : List UInt8) (w : World) (h : RB w v xs) (hl : xs.length ≤ 1000000) :
    Calls Try.prog 37 #[v] w fun e w' => ∃ A c, e = .returned (.slice A xs.length c) ∧ OB w' w.heap.size (.slice A xs.length c) xs ∧ Below w.heap.size w w' := by
  have h' := h
  obtain ⟨A, c, rfl, h0, hc⟩ := h
  cases A with
  | none =>
    obtain ⟨rfl, rfl⟩ := h0 rfl
    refine (clone_nil w).mono ?_
    rintro e w' ⟨rfl, rfl⟩
    exact ⟨_, _, rfl, OB.nil _ _, Below.refl _ _⟩
  | some ad => exact clone_any ad c xs w h' hl
end Go.Proofs.Ytddndmhjkjanlaa
