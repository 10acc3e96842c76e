/- The laws' arguments opened: bytes, datagrams. -/
import Derived.Test.YtddndmhjkjanlaaNx
import Derived.Test.YtddndmhjkjanlaaNv
import Derived.Deep.Slices
import Derived.Deep.Fields
import Derived.ChangeSame
import Derived.SizedLaws
namespace Go.Proofs.Ytddndmhjkjanlaa
open Go.ChangeShapes Go.WideShapes Go.Deep Go.RowKit

section
variable {H : Type} {enc : TypeId × Value → H} {P : Program} {w : World} {base : Nat} {spare : Nat → Bool} {held : Bool}
theorem open_slice_fields {t e : TypeId} {fs : Array Field} {fuel : Nat} {cs : List Value} {x : DataW H × List MemPlace} (ht : P.underlying t = some (.slice e)) (he : P.underlying e = some (.struct fs))
    (hone : oneCellFields P fs = true) (hC : P.cellsOf e = fs.size) (h : DataW.trod enc P w base spare held fuel t cs = some x) :
    (cs = [.slice none 0 0] ∧ x = (.nil, [])) ∨
    ∃ (a : Addr) (len cap m : Nat) (D : Nat → DataW H) (Pl : Nat → List MemPlace), cs = [.slice (some a) len cap] ∧ base ≤ a.block ∧ len ≤ cap ∧ cap ≤ maxLen ∧ m = (if spare a.block then cap else len) ∧
      x = (.slice ((List.range len).map D) ((List.range (m - len)).map fun j => D (len + j)), MemPlace.row a (m * fs.size) ++ (List.range m).flatMap Pl) ∧
      ∀ i, i < m → ∃ (ys : List (DataW H × List MemPlace)) (n : Nat), D i = .agg (ys.map (·.1)) ∧ Pl i = ys.flatMap (·.2) ∧ ys.length = fs.size ∧
        ∀ (j : Nat) (f : Field), fs[j]? = some f → ∃ (v : Value) (y : DataW H × List MemPlace), w.cell? (a.add (i * fs.size + j)) = some v ∧ ys[j]? = some y ∧ DataW.trod enc P w base spare held n f.type [v] = some y := by
  rcases open_slice ht h with h0 | ⟨a, len, cap, m, n, D, Pl, hcs, hb, hl, hm, hmm, hx, hi⟩
  · exact .inl h0
  · refine .inr ⟨a, len, cap, m, D, Pl, hcs, hb, hl, hm, hmm, by rw [hC] at hx; exact hx, fun i him => ?_⟩
    obtain ⟨cs', hc, ht'⟩ := hi i him
    rw [hC] at hc
    obtain ⟨ys, n', hn', hy, hlen, hyl, hf⟩ := DataW.trod_struct he ht'
    obtain ⟨_, hcl, hat⟩ := World.cells?_some hc
    simp only [Prod.mk.injEq] at hy
    refine ⟨ys, n', hy.1, hy.2, hyl, fun j f hj => ?_⟩
    obtain ⟨ho, hk⟩ := hone_of hone j f hj
    have hjl : j < fs.size := (Array.getElem?_eq_some_iff.1 hj).1
    have hcell := hat j hjl
    have hv : cs'[j]? = some (cs'[j]'(by omega)) := List.getElem?_eq_getElem (by omega)
    have h1 := hf j f hj
    rw [ho, hk] at h1
    have hone' : (cs'.drop j).take 1 = [cs'[j]'(by omega)] := by
      rw [List.drop_eq_getElem_cons (by omega)]
      rfl
    rw [hone'] at h1
    have hys : ys[j]? = some (ys[j]'(by omega)) := List.getElem?_eq_getElem (by omega)
    refine ⟨_, _, ?_, hys, h1.trans hys⟩
    rw [← Go.Deep.add_add, hcell, hv]
end

section
variable {H : Type} {enc : TypeId × Value → H} {w : World} {sp : Nat → Bool} {held : Bool}
theorem wf_u8 {n : Int} (h : (Lit.int .u8 n).wf = true) : ∃ x : UInt8, n = (x.toNat : Int) := by
  simp only [Lit.wf, Bool.and_eq_true, decide_eq_true_eq] at h
  have h1 : IntKind.u8.min = 0 := by decide
  have h2 : IntKind.u8.max = 255 := by decide
  rw [h1, h2] at h
  exact ⟨UInt8.ofNat n.toNat, by simp [UInt8.toNat_ofNat']; omega⟩
theorem wf_i64 {n : Int} (h : (Lit.int .i64 n).wf = true) : -9223372036854775808 ≤ n ∧ n ≤ 9223372036854775807 := by
  simp only [Lit.wf, Bool.and_eq_true, decide_eq_true_eq] at h
  have h1 : IntKind.i64.min = -9223372036854775808 := by decide
  rw [h1] at h
  simpa using h
theorem weightsAll_mem {P : Program} {e : TypeId} : ∀ {l : List (DataW H)} {d : DataW H}, d ∈ l → ∀ n ∈ d.weights P e, n ∈ DataW.weightsAll P e l
  | d0 :: r, d, hd, n, hn => by
    simp only [DataW.weightsAll, List.mem_append]
    rcases List.mem_cons.1 hd with rfl | hd
    · exact .inl hn
    · exact .inr (weightsAll_mem hd n hn)
theorem open_bytes {n : Nat} {v : Value} {x : DataW H × List MemPlace} (h : DataW.trod enc Try.prog w 0 (fun _ => true) held n 26 [v] = some x) (hz : ∀ k ∈ x.1.weights Try.prog 26, k ≤ reachBytes) : ∃ A xs c, v = .slice A xs.length c ∧ xs.length ≤ c ∧ c ≤ 140737488351232 ∧ RB w v xs := by
  rcases open_slice1 Try.underlying26 (by kernel_rfl) h with ⟨h1, rfl⟩ | ⟨a, len, cap, m, n', V, D, Pl, h1, _, hlc, hcm, hm, rfl, hi⟩
  · injection h1 with h1
    subst h1
    exact ⟨none, [], 0, rfl, by simp, by simp, RB.nil w⟩
  · injection h1 with h1
    subst h1
    have hlm : len ≤ m := by rw [hm]; split <;> omega
    have hx : ∀ i, i < len → ∃ x : UInt8, V i = .int .u8 (x.toNat : Int) := fun i hil => by
      obtain ⟨_, h2⟩ := hi i (by omega)
      obtain ⟨k, h3, _, h4⟩ := DataW.trod_int Try.underlying5 h2
      injection h3 with h3
      obtain ⟨x, hx⟩ := wf_u8 h4
      exact ⟨x, by rw [h3, hx]⟩
    obtain ⟨X, hX⟩ := choose_lt (α := UInt8) (p := fun i x => V i = .int .u8 (x.toNat : Int)) hx
    have hc : cap ≤ 140737488351232 := by
      have h5 : Try.prog.bytesOf 5 = 1 := by kernel_rfl
      have := hz ((((List.range len).map D).length + ((List.range (m - len)).map fun j => D (len + j)).length) * Try.prog.bytesOf 5) (by simp [DataW.weights, Try.underlying26])
      rw [h5] at this
      simp only [List.length_map, List.length_range, reachBytes] at this
      simp only [if_true] at hm
      omega
    refine ⟨some a, (List.range len).map X, cap, by simp, by simpa using hlc, hc, some a, cap, by simp, fun e => (by cases e), fun ad e j hj => ?_⟩
    injection e with e
    subst e
    simp at hj
    rw [(hi j (by omega)).1, hX j hj]
    simp

/-- A datagram's ints and bytes are in their kinds' bounds. -/
structure Ed.In (d : Ed) : Prop where
  f : -9223372036854775808 ≤ d.f ∧ d.f ≤ 9223372036854775807
  t : -9223372036854775808 ≤ d.t ∧ d.t ≤ 9223372036854775807
  v : ∃ A c, d.v = .slice A d.xs.length c ∧ d.xs.length ≤ c ∧ c ≤ 140737488351232
theorem open_dgs {n : Nat} {v : Value} {x : DataW H × List MemPlace} (h : DataW.trod enc Try.prog w 0 (fun _ => true) held n 22 [v] = some x) (hz : ∀ k ∈ x.1.weights Try.prog 22, k ≤ reachBytes) : ∃ A l c, v = .slice A l.length c ∧ l.length ≤ c ∧ c ≤ 140737488351232 ∧ RD w v l ∧ ∀ d ∈ l, d.In := by
  rcases open_slice_fields Try.underlying22 Try.underlying28 (by kernel_rfl) (by kernel_rfl) h with ⟨h1, rfl⟩ | ⟨a, len, cap, m, D, Pl, h1, _, hlc, hcm, hm, rfl, hi⟩
  · injection h1 with h1
    subst h1
    exact ⟨none, [], 0, rfl, by simp, by simp, ⟨none, 0, rfl, fun h => (h rfl).elim⟩, fun d hd => by simp at hd⟩
  · injection h1 with h1
    subst h1
    have hlm : len ≤ m := by rw [hm]; split <;> omega
    have hc : cap ≤ 140737488351232 := by
      have h5 : Try.prog.bytesOf 28 = 40 := by kernel_rfl
      have := hz ((((List.range len).map D).length + ((List.range (m - len)).map fun j => D (len + j)).length) * Try.prog.bytesOf 28) (by simp [DataW.weights, Try.underlying22])
      rw [h5] at this
      simp only [List.length_map, List.length_range, reachBytes] at this
      simp only [if_true] at hm
      omega
    have hx : ∀ i, i < len → ∃ d : Ed, w.cell? (a.add (i * 3)) = some (.int .i64 d.f) ∧ w.cell? (a.add (i * 3 + 1)) = some (.int .i64 d.t) ∧ w.cell? (a.add (i * 3 + 2)) = some d.v ∧ RB w d.v d.xs ∧ d.In := fun i hil => by
      obtain ⟨ys, n', hD, _, hyl, hf⟩ := hi i (by omega)
      obtain ⟨v0, y0, c0, _, t0⟩ := hf 0 _ rfl
      obtain ⟨v1, y1, c1, _, t1⟩ := hf 1 _ rfl
      obtain ⟨v2, y2, c2, hy2, t2⟩ := hf 2 _ rfl
      obtain ⟨k0, e0, _, b0⟩ := DataW.trod_int Try.underlying3 t0
      obtain ⟨k1, e1, _, b1⟩ := DataW.trod_int Try.underlying3 t1
      obtain ⟨A, xs, c, rfl, h2, h3, h4⟩ := open_bytes t2 (fun k hk => hz k (by
        have hk2 : k ∈ (D i).weights Try.prog 28 := by
          rw [hD]
          simp only [DataW.weights, Try.underlying28]
          exact DataW.weights_mem_each (j := 2) (t := 26) (d := y2.1) rfl (by simp [hy2]) k hk
        simp only [DataW.weights, Try.underlying22, List.mem_cons, List.mem_append]
        exact .inr (.inl (weightsAll_mem (d := D i) (by simp; exact ⟨i, hil, rfl⟩) k hk2))))
      injection e0 with e0
      injection e1 with e1
      subst e0 e1
      exact ⟨⟨k0, k1, .slice A xs.length c, xs⟩, c0, c1, c2, h4, wf_i64 b0, wf_i64 b1, ⟨A, c, rfl, h2, h3⟩⟩
    have : Inhabited Ed := ⟨⟨0, 0, .bool true, []⟩⟩
    obtain ⟨X, hX⟩ := choose_lt hx
    refine ⟨some a, (List.range len).map X, cap, by simp, by simpa using hlc, hc, ⟨some a, cap, by simp, fun h0 => ?_⟩, fun d hd => ?_⟩
    · have hl0 : 0 < len := by
        rcases Nat.eq_zero_or_pos len with e | e
        · subst e; simp at h0
        · exact e
      have hsp := World.cell?_spot (hX 0 hl0).1
      obtain ⟨b, o, s⟩ := a
      obtain rfl : s = none := by simpa [Addr.add] using hsp
      refine ⟨b, o, rfl, fun j hj => ?_⟩
      simp only [List.length_map, List.length_range] at hj
      have ha : ∀ i, (⟨b, o, none⟩ : Addr).add i = ⟨b, o + i, none⟩ := fun i => by unfold Addr.add; split <;> simp_all
      obtain ⟨h1, h2, h3, h4, _⟩ := hX j hj
      rw [ha] at h1 h2 h3
      simp only [List.getElem_map, List.getElem_range]
      exact ⟨h1, by rw [Nat.add_assoc]; exact h2, by rw [Nat.add_assoc]; exact h3, h4⟩
    · simp only [List.mem_map, List.mem_range] at hd
      obtain ⟨i, hi', rfl⟩ := hd
      exact (hX i hi').2.2.2.2
end
end Go.Proofs.Ytddndmhjkjanlaa
