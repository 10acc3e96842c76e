/- What the law asks of satchelkit: OverBytes, LentBytes, KeptBytes. Conditions: at most 10^6 bytes. -/
import Derived.Test.YtddndmhjkjanlaaRk
import Derived.Laws.CopyOwn
import Derived.Deep.OwnRows
import Derived.LoopN
namespace Go.Proofs.Ytddndmhjkjanlaa
open Go.RowKit Go.Shelf
variable {w : World}

theorem over_nil (w : World) : Calls Try.prog 28 #[.slice none 0 0] w fun e w' => e = .returned (.tuple #[]) ∧ Upd (fun _ => False) w w' := by
  go_enter Try.func28, Try.ntmps28
  go_wp2
  refine wp_loop_rounds 1 ?_
  rw [rounds_succ]
  go_wp2
  go_end0
  exact ⟨rfl, Upd.refl _ _⟩
set_option maxHeartbeats 2000000 in
theorem over_row (g n cap : Nat) (cur : Array Value) (w : World) (hn : n ≤ cap) (hc : cap ≤ 9223372036854775807) (hs : cur.size = cap) (hu : AllU8 cur) (hh : w.heap[g]? = some (.cells cur 5 (0, 0))) :
    Calls Try.prog 28 #[.slice (some ⟨g, 0, none⟩) n cap] w fun e w' => e = .returned (.tuple #[]) ∧ Upd (fun k => k = g) w w' := by
  go_enter Try.func28, Try.ntmps28
  go_wp2
  go_loopw [3] (fun p wr => ∃ (j : Nat) (cs : Array Value), j ≤ cap ∧ p = .int .i64 (j : Int) ∧ cs.size = cap ∧ AllU8 cs ∧ wr.heap[g]? = some (.cells cs 5 (0, 0)) ∧ Upd (fun k => k = g) w wr) (fun p wr => cap - (intOf p).toNat)
  case atStart => exact ⟨0, cur, by omega, rfl, hs, hu, hh, Upd.refl _ _⟩
  case round =>
    obtain ⟨j, cs, hj, rfl, hcs, hcu, hw, hU⟩ := hrel
    by_cases hlt : j < cap
    · have hjs : j < cs.size := by omega
      obtain ⟨x, hx⟩ := hcu cs[j] (by simp)
      have hc0 : wr.cell? ⟨g, j, none⟩ = some (.int .u8 (x.toNat : Int)) := cell_of hw j (by rw [Array.getElem?_eq_getElem hjs, hx])
      have hf : wr.frozen? ⟨g, j, none⟩ = false := frozen_of hw j
      have hxor := xor_u8 x 90
      have e90 : (((90 : UInt8).toNat : Nat) : Int) = 90 := rfl
      rw [e90] at hxor
      have HW := Lib.hid hw
      have HU := Lib.hid hU
      have HCU := Lib.hid hcu
      have HCS := Lib.hid hcs
      clear hw hU hcu hcs hx hu hs hh
      go_wp2
      go_roundw
      case rel =>
        refine ⟨j + 1, cs.setIfInBounds j (.int .u8 ((x ^^^ 90).toNat : Int)), by omega, by go_num, by simp [HCS.out], ?_, by first | exact heap_set HW.out j _ | (rw [hxor]; exact heap_set HW.out j _), HU.out.setCell (p := ⟨g, j, none⟩) (.inl rfl) _⟩
        intro u hu
        simp only [Array.toList_setIfInBounds] at hu
        rcases List.mem_or_eq_of_mem_set hu with hu | rfl
        · exact HCU.out u hu
        · exact ⟨_, rfl⟩
      case measure => simp [intOf]; omega
    · obtain rfl : j = cap := by omega
      have HU := Lib.hid hU
      clear hw hU hcu hcs hu hs hh
      go_wp2
      go_end0
      exact ⟨rfl, HU.out⟩
theorem over_ob {base : Nat} {v : Value} {xs : List UInt8} (h : OB w base v xs) : Calls Try.prog 28 #[v] w fun e w' => e = .returned (.tuple #[]) ∧ Upd (fun k => v.ownBlock = some k) w w' := by
  rcases h.own.2 with ⟨rfl, _⟩ | ⟨g, cap, cur, rfl, hg, hh, hnc, hcm, hcs, htake⟩
  · exact (over_nil w).mono fun e w' ⟨he, hU⟩ => ⟨he, hU.mono (fun _ _ h => h.elim)⟩
  · obtain ⟨cur', h1, h2⟩ := h.typ g rfl
    rw [hh] at h1
    injection h1 with h1
    injection h1 with h1
    subst h1
    refine (over_row g xs.length cap cur w hnc (by simp only [maxLen] at hcm; omega) (by omega) h2 hh).mono fun e w' ⟨he, hU⟩ => ⟨he, hU.mono (fun k _ h => by simp [Value.ownBlock, h])⟩

def mark8 (i : Nat) : UInt8 := UInt8.ofNat (160 + i % 90)
def marksB (n : Nat) : List UInt8 := [mark8 n, mark8 (n + 1), mark8 (n + 2)]
theorem mark8_val (i : Nat) : ((mark8 i).toNat : Int) = 160 + (i : Int) % 90 := by
  unfold mark8
  rw [UInt8.toNat_ofNat']
  omega
theorem copyB (xs : List UInt8) (n : Nat) (hn : n = xs.length) : splice (List.replicate (n + 3) (Value.int .u8 0)) 0 (byv xs) = byv xs ++ [.int .u8 0, .int .u8 0, .int .u8 0] := by
  subst hn
  unfold splice
  rw [List.take_zero, List.nil_append, Nat.zero_add, byv_length, List.drop_replicate, Nat.add_sub_cancel_left]
  rfl
theorem set_at0 (l : List Value) (a b c u : Value) (i : Nat) (hi : i = l.length) : (l ++ [a, b, c]).set i u = l ++ [u, b, c] := by subst hi; simp
theorem set_at1 (l : List Value) (a b c u : Value) (i : Nat) (hi : i = l.length + 1) : (l ++ [a, b, c]).set i u = l ++ [a, u, c] := by
  subst hi
  rw [List.set_append_right _ _ (by omega)]; simp
theorem set_at2 (l : List Value) (a b c u : Value) (i : Nat) (hi : i = l.length + 2) : (l ++ [a, b, c]).set i u = l ++ [a, b, u] := by
  subst hi
  rw [List.set_append_right _ _ (by omega)]; simp
set_option maxHeartbeats 4000000 in
theorem lent_any (v : Value) (xs : List UInt8) (w : World) (h : RB w v xs) (hl : xs.length ≤ 1000000) :
    Calls Try.prog 46 #[v] w fun e w' => e = .returned (.slice (some ⟨w.heap.size, 0, none⟩) xs.length (xs.length + 3)) ∧ w'.heap[w.heap.size]? = some (.cells (byv (xs ++ marksB xs.length)).toArray 5 (0, 0)) ∧ Below w.heap.size w w' := by
  obtain ⟨A, c, rfl, h0, hA⟩ := id h
  have hmk : (Instr.makeSlice 26 (.int .i64 ((xs.length : Int) + 3)) (.int .i64 ((xs.length : Int) + 3))).run Try.prog w = .ok (.slice (some ⟨w.heap.size, 0, none⟩) (xs.length + 3) (xs.length + 3)) (w.alloc (.cells (madeCells #[.int .u8 0] (xs.length + 3)) 5)) := by
    have := run_make_row' (P := Try.prog) 26 5 (.int .u8 0) 1 Try.underlying26 info5 rfl .i64 .i64 (xs.length + 3) (by omega) (by omega) w
    simpa using this
  have hmc : (madeCells #[Value.int .u8 0] (xs.length + 3)) = (Array.replicate (xs.length + 3) (Value.int .u8 0)) := by
    apply Array.ext'
    simp [madeCells, Nat.mod_one, List.map_const']
  rw [hmc] at hmk
  have hsz5 : (Try.prog.info? 5).map (·.size) = some 1 := by kernel_rfl
  have hb := below_new (.cells (Array.replicate (xs.length + 3) (Value.int .u8 0)) 5) (Below.refl _ w)
  have hnew : (w.alloc (.cells (Array.replicate (xs.length + 3) (Value.int .u8 0)) 5)).heap[w.heap.size]? = some (.cells (Array.replicate (xs.length + 3) (Value.int .u8 0)).toList.toArray 5 (0, 0)) := by
    rw [Array.toArray_toList]; exact heap_alloc_new w _
  have hrb := h.below hb
  have h1 : ∀ u ∈ byv xs, u.oneCell' = true := fun u hu => by
    obtain ⟨x, rfl⟩ := allU8_byv xs u hu
    rfl
  have hsrc : ∀ ad, A = some ad → ∀ j u, (byv xs)[j]? = some u → (w.alloc (.cells (Array.replicate (xs.length + 3) (Value.int .u8 0)) 5)).cell? (ad.add j) = some u := fun ad e j u hu => by
    obtain ⟨A', c', e', _, hc⟩ := hrb
    injection e' with e1 _ _
    have hj : j < xs.length := by have := (List.getElem?_eq_some_iff.1 hu).1; simpa using this
    rw [hc ad (by rw [← e1, e]) j hj, ← hu]
    simp [byv, List.getElem?_eq_getElem hj]
  have hsome : xs ≠ [] → ∃ ad, A = some ad := fun hx => by
    rcases A with _ | ad
    · exact absurd (h0 rfl).1 hx
    · exact ⟨ad, rfl⟩
  have HB := Lib.hid hb; have HN := Lib.hid hnew; have HS := Lib.hid hsrc; have HO := Lib.hid h1; have HE := Lib.hid hsome
  have hmin : Nat.min xs.length (xs.length + 3) = xs.length := Nat.min_eq_left (by omega)
  have HM : Hid ((byv xs).length = Nat.min xs.length (xs.length + 3)) := Lib.hid (by rw [hmin, byv_length])
  have HP : Hid (0 < (byv xs).length → ∃ ad, A = some ad ∧ ∀ j u, (byv xs)[j]? = some u → (w.alloc (.cells (Array.replicate (xs.length + 3) (Value.int .u8 0)) 5)).cell? (ad.add j) = some u) :=
    Lib.hid (fun hp => by
      obtain ⟨ad, e⟩ := hsome (fun e => by rw [e] at hp; simp [byv] at hp)
      exact ⟨ad, e, hsrc ad e⟩)
  have HF : Hid (0 + (byv xs).length ≤ (Array.replicate (xs.length + 3) (Value.int .u8 0)).toList.length) := Lib.hid (by simp)
  clear hb hnew hsrc h1 hrb h h0 hA hmc hsome hmin
  go_enter Try.func46, Try.ntmps46
  go_wp2_with (refine wpList_copy_splice rfl _ _ 26 26 rfl 5 Try.underlying26 hsz5 (some ⟨w.heap.size, 0, none⟩) A (xs.length + 3) (xs.length + 3) xs.length c rfl rfl w.heap.size 0 (Array.replicate (xs.length + 3) (Value.int .u8 0)).toList 5 HN.out (byv xs) HM.out (fun hp => ⟨rfl, HP.out hp⟩) HF.out HO.out w.heap.size w HB.out (Nat.le_refl _) ?_; intro w1 hw1 hb1)
  have hw := hw1.out
  rw [Array.toList_replicate, copyB xs xs.length rfl] at hw
  have e0 := cell_of hw xs.length (v := .int .u8 0) (by simp [List.getElem?_append_right])
  have e1 := cell_of hw (xs.length + 1) (v := .int .u8 0) (by simp [List.getElem?_append_right])
  have e2 := cell_of hw (xs.length + 2) (v := .int .u8 0) (by simp [List.getElem?_append_right])
  have f0 := frozen_of hw xs.length
  have f1 := frozen_of hw (xs.length + 1)
  have f2 := frozen_of hw (xs.length + 2)
  have HW := Lib.hid hw
  have HB1 := Lib.hid hb1
  clear hw hw1 hb1
  refine wp_loop_rounds 4 ?_
  rw [rounds_succ]
  go_wp2
  rw [rounds_succ]
  go_wp2
  rw [rounds_succ]
  go_wp2
  rw [rounds_succ]
  go_wp2
  go_ret
  refine ⟨rfl, ?_, ((HB1.out.setCell (p := ⟨w.heap.size, xs.length, none⟩) (Nat.le_refl _) _).setCell (p := ⟨w.heap.size, xs.length + 1, none⟩) (Nat.le_refl _) _).setCell (p := ⟨w.heap.size, xs.length + 1 + 1, none⟩) (Nat.le_refl _) _⟩
  have h3 := heap_set (heap_set (heap_set HW.out xs.length (.int .u8 (160 + (xs.length : Int) % 90))) (xs.length + 1) (.int .u8 (160 + ((xs.length : Int) + 1) % 90))) (xs.length + 1 + 1) (.int .u8 (160 + ((xs.length : Int) + 1 + 1) % 90))
  refine h3.trans ?_
  rw [List.setIfInBounds_toArray, List.setIfInBounds_toArray, List.setIfInBounds_toArray, set_at0 _ _ _ _ _ _ (by simp), set_at1 _ _ _ _ _ _ (by simp), set_at2 _ _ _ _ _ _ (by simp)]
  have e0 := mark8_val xs.length
  have e1 := mark8_val (xs.length + 1)
  have e2 := mark8_val (xs.length + 2)
  have e3 : byv (xs ++ marksB xs.length) = byv xs ++ [.int .u8 (160 + (xs.length : Int) % 90), .int .u8 (160 + ((xs.length : Int) + 1) % 90), .int .u8 (160 + ((xs.length : Int) + 1 + 1) % 90)] := by
    have h2 : ((xs.length + 2 : Nat) : Int) = (xs.length : Int) + 1 + 1 := by omega
    rw [h2] at e2
    rw [byv_append]
    simp only [byv, marksB, List.map_cons, List.map_nil, e0, e1, e2, Int.natCast_add, Int.natCast_one]
  rw [e3]
theorem lent_ob {xs : List UInt8} {g base : Nat} (hb : base ≤ g) (hl : xs.length ≤ 1000000) (hh : w.heap[g]? = some (.cells (byv (xs ++ marksB xs.length)).toArray 5 (0, 0))) : OB w base (.slice (some ⟨g, 0, none⟩) xs.length (xs.length + 3)) xs := by
  refine ⟨⟨by simp, .inr ⟨g, xs.length + 3, _, rfl, hb, hh, by omega, by simp only [maxLen]; omega, by simp [marksB], by simp [byv]⟩⟩, fun k hk => ?_⟩
  simp only [Value.ownBlock, Option.some.injEq] at hk
  subst hk
  exact ⟨_, hh, fun u hu => allU8_byv _ u (by simpa using hu)⟩
theorem lent_rb {xs : List UInt8} {g m c : Nat} (hm : m = xs.length + 3) (hh : w.heap[g]? = some (.cells (byv (xs ++ marksB xs.length)).toArray 5 (0, 0))) : RB w (.slice (some ⟨g, 0, none⟩) m c) (xs ++ marksB xs.length) := by
  have := RB.of_block (xs := xs ++ marksB xs.length) (c := c) hh (by simp)
  have e : (xs ++ marksB xs.length).length = m := by rw [hm]; simp [marksB]
  rwa [e] at this
end Go.Proofs.Ytddndmhjkjanlaa
