/- The map of cut links: what is looked up in it, deleted from it, laid into it. No condition but what the map holds. -/
import Derived.Test.YtddndmhjkjanlaaNf
namespace Go.Proofs.Ytddndmhjkjanlaa
open Go.RowKit Go.Shelf

theorem part3_0 (a b : Int) (w : World) : (part 3 #[.int .i64 a, .int .i64 b] 0).run Try.prog w = .ok (.int .i64 a) w := by kernel_rfl
theorem part3_1 (a b : Int) (w : World) : (part 3 #[.int .i64 a, .int .i64 b] 1).run Try.prog w = .ok (.int .i64 b) w := by kernel_rfl
theorem eq3 (d : Nat) (a c : Int) (w : World) : (Op.equalIn (d + 1) 3 (.int .i64 a) (.int .i64 c)).run Try.prog w = .ok (a == c) w := by
  simp [Op.equalIn, run_underlying Try.underlying3, Sem.run_bind, Result.andThen]
theorem sizeOf3 (w : World) : (sizeOf 3).run Try.prog w = .ok 1 w := by kernel_rfl
theorem eq74 (d : Nat) (a b c e : Int) (w : World) : (Op.equalIn (d + 1 + 1) 74 (.agg #[.int .i64 a, .int .i64 b]) (.agg #[.int .i64 c, .int .i64 e])).run Try.prog w = .ok (a == c && b == e) w := by
  rw [Op.equalIn]
  by_cases h : a = c
  · by_cases h2 : b = e
    · simp [run_underlying Try.underlying74, Sem.run_bind, Result.andThen, sizeOf3, Std.Legacy.Range.forIn_eq_forIn_range', List.range', part3_0, part3_1, eq3, h, h2]
    · simp [run_underlying Try.underlying74, Sem.run_bind, Result.andThen, sizeOf3, Std.Legacy.Range.forIn_eq_forIn_range', List.range', part3_0, part3_1, eq3, h, h2]
  · simp [run_underlying Try.underlying74, Sem.run_bind, Result.andThen, sizeOf3, Std.Legacy.Range.forIn_eq_forIn_range', List.range', part3_0, part3_1, eq3, h]
theorem eqKey (k l : Int × Int) (w : World) : (Op.equal 74 (cutKey k) (cutKey l)).run Try.prog w = .ok (decide (k = l)) w := by
  have h := eq74 9998 k.1 k.2 l.1 l.2 w
  have e : (k.1 == l.1 && k.2 == l.2) = decide (k = l) := by
    rw [Bool.eq_iff_iff]; simp [Prod.ext_iff]
  rw [e] at h
  exact h

theorem check3 (n : Nat) (a : Int) (em : Bool) (w : World) : (Instr.checkKey em (n + 1) 3 (.int .i64 a)).run Try.prog w = .ok () w := by
  simp [Instr.checkKey, run_underlying Try.underlying3, Sem.run_bind, Result.andThen]
theorem check74 (k : Int × Int) (em : Bool) (w : World) : (Instr.checkKey em 10000 74 (cutKey k)).run Try.prog w = .ok () w := by
  rw [show (10000 : Nat) = 9998 + 1 + 1 from rfl, Instr.checkKey]
  simp [cutKey, run_underlying Try.underlying74, Sem.run_bind, Result.andThen, sizeOf3, Std.Legacy.Range.forIn_eq_forIn_range', List.range', part3_0, part3_1, check3]

theorem find_cuts (k : Int × Int) (w : World) : ∀ (es : List MapEntry) (K : List (Int × Int)) (i : Nat), es.map (·.key) = K.map cutKey → (∀ e ∈ es, e.val = .agg #[]) →
    (Instr.findAsking 74 (cutKey k) es i).run Try.prog w = .ok ((K.idxOf? k).map fun j => (i + j, .agg #[])) w
  | [], [], i, _, _ => by simp [Instr.findAsking]
  | [], _ :: _, _, h, _ => by simp at h
  | _ :: _, [], _, h, _ => by simp at h
  | e :: es, l :: K, i, h, hv => by
    simp only [List.map_cons, List.cons.injEq] at h
    obtain ⟨h1, h2⟩ := h
    have hv1 := hv e (by simp)
    have ih := find_cuts k w es K (i + 1) h2 (fun x hx => hv x (by simp [hx]))
    simp only [Instr.findAsking, Sem.run_bind, h1, eqKey, Result.andThen_ok]
    by_cases hk : k = l
    · subst hk
      simp [List.idxOf?_cons, hv1]
    · have hk2 : (l == k) = false := by rw [beq_eq_false_iff_ne]; exact fun e => hk e.symm
      simp only [hk, decide_false, Bool.false_eq_true, if_false, ih, List.idxOf?_cons, hk2]
      congr 1
      cases List.idxOf? k K with
      | none => rfl
      | some j => simp; omega
theorem findKey_cuts (k : Int × Int) (w : World) (es : List MapEntry) (K : List (Int × Int)) (h : es.map (·.key) = K.map cutKey) (hv : ∀ e ∈ es, e.val = .agg #[]) :
    (Instr.findKey 74 (cutKey k) es).run Try.prog w = .ok ((K.idxOf? k).map fun j => (j, .agg #[])) w := by
  have hf := find_cuts k w es K 0 h hv
  simp only [Nat.zero_add] at hf
  unfold Instr.findKey
  simp only [Sem.run_bind, run_underlying Try.underlying74, Result.andThen_ok]
  cases es with
  | nil =>
    cases K with
    | nil => simp [Instr.findNow]
    | cons a r => simp at h
  | cons e r =>
    have : Instr.findNow (.array 2 3) (cutKey k) (e :: r) 0 = none := by simp [Instr.findNow, Instr.sameNow]
    rw [this]
    exact hf

theorem zero76 (w : World) : (zeroValue 76).run Try.prog w = .ok (.agg #[]) w := by kernel_rfl
theorem lookup_cuts {w : World} {bm : Nat} {K : List (Int × Int)} (h : CutsAt w bm K) (k : Int × Int) :
    (Instr.lookup 59 (.map (some bm)) (cutKey k) true).run Try.prog w = .ok (.tuple #[.agg #[], .bool (decide (k ∈ K))]) w := by
  obtain ⟨es, clock, hm, hk, hv, hnd⟩ := h
  unfold Instr.lookup
  simp only [Sem.run_bind, run_underlying Try.underlying59, Result.andThen_ok, getObj, Sem.run, hm]
  have hf := findKey_cuts k w es.toList K hk hv
  simp only [Sem.run_pure, Result.andThen_ok, check74, hf]
  cases hi : K.idxOf? k with
  | none =>
    have : ¬ k ∈ K := List.idxOf?_eq_none_iff.1 hi
    simp [this, zero76]
  | some j =>
    have : k ∈ K := by
      rcases Decidable.em (k ∈ K) with h | h
      · exact h
      · rw [List.idxOf?_eq_none_iff.2 h] at hi; cases hi
    simp [this]

theorem eraseIdx_map {α β : Type} (f : α → β) : ∀ (l : List α) (i : Nat), (l.eraseIdx i).map f = (l.map f).eraseIdx i
  | [], _ => by simp
  | a :: r, 0 => by simp
  | a :: r, i + 1 => by simp [eraseIdx_map f r i]
/-- What delete lays in the map's place, in whatever world in which the map lies as it lay. -/
theorem delete_all {w : World} {bm : Nat} {K : List (Int × Int)} (h : CutsAt w bm K) (k : Int × Int) :
    ∃ o, ∀ (w' : World) (ty : TypeId), w'.heap[bm]? = w.heap[bm]? → (Builtin.delete_ #[59, 74] ty #[.map (some bm), cutKey k]).run Try.prog w' = .ok (.tuple #[]) (w'.putObj bm o) ∧ CutsAt (w'.putObj bm o) bm (K.filter (· != k)) := by
  obtain ⟨es, clock, hm, hk, hv, hnd⟩ := h
  have key : ∀ w' : World, w'.heap[bm]? = w.heap[bm]? → CutsAt w' bm K := fun w' e => ⟨es, clock, e.trans hm, hk, hv, hnd⟩
  have hrun : ∀ (w' : World), w'.heap[bm]? = w.heap[bm]? → ∀ (es' : Array MapEntry), (Sem.run Try.prog (setObj bm (.map es' clock)) w') = .ok () (w'.putObj bm (.map es' clock)) := by
    intro w' e es'
    simp [setObj, Sem.run, e.trans hm, World.putObj]
  cases hi : K.idxOf? k with
  | none =>
    have hn : ¬ k ∈ K := List.idxOf?_eq_none_iff.1 hi
    refine ⟨.map es clock, fun w' ty e => ⟨?_, es, clock, World.putObj_heap_same ?_, ?_, hv, hnd.filter _⟩⟩
    · have hf := findKey_cuts k w' es.toList K hk hv
      unfold Builtin.delete_
      rw [hi] at hf
      simp [Sem.run_bind, run_underlying Try.underlying59, getObj, Sem.run, e.trans hm, check74, hf, hrun w' e]
    · exact (Array.getElem?_eq_some_iff.1 (e.trans hm)).1
    · rw [← hnd.erase_eq_filter, List.erase_of_not_mem hn]; exact hk
  | some j =>
    have hj := List.idxOf?_eq_some_iff.1 hi
    refine ⟨.map (es.eraseIdxIfInBounds j) clock, fun w' ty e => ⟨?_, es.eraseIdxIfInBounds j, clock, World.putObj_heap_same ?_, ?_, ?_, hnd.filter _⟩⟩
    · have hf := findKey_cuts k w' es.toList K hk hv
      unfold Builtin.delete_
      rw [hi] at hf
      simp [Sem.run_bind, run_underlying Try.underlying59, getObj, Sem.run, e.trans hm, check74, hf, hrun w' e]
    · exact (Array.getElem?_eq_some_iff.1 (e.trans hm)).1
    · rw [← hnd.erase_eq_filter, List.erase_eq_eraseIdx, List.idxOf?_eq_some_iff.2 hj]
      simp only [Array.toList_eraseIdxIfInBounds, eraseIdx_map, hk]
    · intro e he
      rw [Array.toList_eraseIdxIfInBounds] at he
      exact hv e (List.mem_of_mem_eraseIdx he)
theorem update_all {w : World} {bm : Nat} {K : List (Int × Int)} (h : CutsAt w bm K) (k : Int × Int) (hn : ¬ k ∈ K) :
    ∃ o, ∀ (w' : World), w'.heap[bm]? = w.heap[bm]? → (Instr.mapUpdate 59 (.map (some bm)) (cutKey k) (.agg #[])).run Try.prog w' = .ok () (w'.putObj bm o) ∧ CutsAt (w'.putObj bm o) bm (K ++ [k]) := by
  obtain ⟨es, clock, hm, hk, hv, hnd⟩ := h
  refine ⟨.map (es.push { key := cutKey k, val := .agg #[], born := clock }) (clock + 1), fun w' e => ⟨?_, _, _, World.putObj_heap_same ?_, ?_, ?_, ?_⟩⟩
  · have hf := findKey_cuts k w' es.toList K hk hv
    rw [List.idxOf?_eq_none_iff.2 hn] at hf
    have hrun : ∀ (es' : Array MapEntry) (c : Nat), (Sem.run Try.prog (setObj bm (.map es' c)) w') = .ok () (w'.putObj bm (.map es' c)) := by
      intro es' c
      simp [setObj, Sem.run, e.trans hm, World.putObj]
    unfold Instr.mapUpdate
    simp [Sem.run_bind, run_underlying Try.underlying59, getObj, Sem.run, e.trans hm, check74, hf, hrun]
  · exact (Array.getElem?_eq_some_iff.1 (e.trans hm)).1
  · simp [hk]
  · intro e he
    simp at he
    rcases he with he | rfl
    · exact hv e (by simpa using he)
    · rfl
  · rw [List.nodup_append]
    exact ⟨hnd, by simp, fun a ha b hb e => hn (by simp at hb; rw [← hb, ← e]; exact ha)⟩
end Go.Proofs.Ytddndmhjkjanlaa
