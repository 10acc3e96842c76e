/- The laws' arguments opened: a datagram by value; a slice of calls. -/
import Derived.Test.YtddndmhjkjanlaaOa
namespace Go.Proofs.Ytddndmhjkjanlaa
open Go.ChangeShapes Go.WideShapes Go.Deep Go.RowKit
section
variable {H : Type} {enc : TypeId × Value → H} {w : World} {held : Bool}
theorem list3 {α : Type} {l : List α} (h : l.length = 3) : ∃ a b c, l = [a, b, c] := by
  rcases l with _ | ⟨a, _ | ⟨b, _ | ⟨c, _ | ⟨d, r⟩⟩⟩⟩ <;> simp at h
  exact ⟨a, b, c, rfl⟩
theorem open_dg {n : Nat} {cs : List Value} {x : DataW H × List MemPlace} (h : DataW.trod enc Try.prog w 0 (fun _ => true) held n 28 cs = some x) (hz : ∀ k ∈ x.1.weights Try.prog 28, k ≤ reachBytes) :
    ∃ d : Ed, cs = [.int .i64 d.f, .int .i64 d.t, d.v] ∧ RB w d.v d.xs ∧ d.In := by
  obtain ⟨xs, n', _, hx, hlen, hl, hf⟩ := DataW.trod_struct Try.underlying28 h
  have hc : Try.prog.cellsOf 28 = 3 := by kernel_rfl
  rw [hc] at hlen
  obtain ⟨v0, v1, v2, rfl⟩ := list3 hlen
  obtain ⟨y0, y1, y2, rfl⟩ := list3 (l := xs) (by rw [hl]; rfl)
  have c3 : Try.prog.cellsOf 3 = 1 := by kernel_rfl
  have c26 : Try.prog.cellsOf 26 = 1 := by kernel_rfl
  have t0 : DataW.trod enc Try.prog w 0 (fun _ => true) held n' 3 [v0] = some y0 := by simpa [c3] using hf 0 _ rfl
  have t1 : DataW.trod enc Try.prog w 0 (fun _ => true) held n' 3 [v1] = some y1 := by simpa [c3] using hf 1 _ rfl
  have t2 : DataW.trod enc Try.prog w 0 (fun _ => true) held n' 26 [v2] = some y2 := by simpa [c26] using hf 2 _ rfl
  obtain ⟨k0, e0, _, b0⟩ := DataW.trod_int (x := y0) (cs := [v0]) Try.underlying3 t0
  obtain ⟨k1, e1, _, b1⟩ := DataW.trod_int (x := y1) (cs := [v1]) Try.underlying3 t1
  obtain ⟨A, bs, c, rfl, h2, h3, h4⟩ := open_bytes (v := v2) (x := y2) t2 (fun k hk => hz k (by
    rw [hx]
    simp only [DataW.weights, Try.underlying28]
    exact DataW.weights_mem_each (j := 2) (t := 26) (d := y2.1) rfl rfl k hk))
  injection e0 with e0
  injection e1 with e1
  subst e0 e1
  exact ⟨⟨k0, k1, .slice A bs.length c, bs⟩, rfl, h4, wf_i64 b0, wf_i64 b1, ⟨A, c, rfl, h2, h3⟩⟩

/-- A call: its kind, its numbers, its datagram. -/
structure Ac where
  kind : Int
  i : Int
  k : Int
  is : Bool
  x : Ed
structure Ac.In (a : Ac) : Prop where
  kind : -9223372036854775808 ≤ a.kind ∧ a.kind ≤ 9223372036854775807
  i : -9223372036854775808 ≤ a.i ∧ a.i ≤ 9223372036854775807
  k : -9223372036854775808 ≤ a.k ∧ a.k ≤ 9223372036854775807
  x : a.x.In
/-- A slice reads as calls. -/
def RA (w : World) (v : Value) (l : List Ac) : Prop :=
  ∃ A c, v = .slice A l.length c ∧ (l ≠ [] → ∃ g o, A = some ⟨g, o, none⟩ ∧ ∀ j (hj : j < l.length),
    w.cell? ⟨g, o + j * 7, none⟩ = some (.int .i64 l[j].kind) ∧ w.cell? ⟨g, o + j * 7 + 1, none⟩ = some (.int .i64 l[j].i) ∧ w.cell? ⟨g, o + j * 7 + 2, none⟩ = some (.int .i64 l[j].k) ∧ w.cell? ⟨g, o + j * 7 + 3, none⟩ = some (.bool l[j].is) ∧
    w.cell? ⟨g, o + j * 7 + 4, none⟩ = some (.int .i64 l[j].x.f) ∧ w.cell? ⟨g, o + j * 7 + 5, none⟩ = some (.int .i64 l[j].x.t) ∧ w.cell? ⟨g, o + j * 7 + 6, none⟩ = some l[j].x.v ∧ RB w l[j].x.v l[j].x.xs)
theorem list7 {α : Type} {l : List α} (h : l.length = 7) : ∃ a b c d e f g, l = [a, b, c, d, e, f, g] := by
  rcases l with _ | ⟨a, _ | ⟨b, _ | ⟨c, _ | ⟨d, _ | ⟨e, _ | ⟨f, _ | ⟨g, _ | ⟨i, r⟩⟩⟩⟩⟩⟩⟩⟩ <;> simp at h
  exact ⟨a, b, c, d, e, f, g, rfl⟩
theorem list5 {α : Type} {l : List α} (h : l.length = 5) : ∃ a b c d e, l = [a, b, c, d, e] := by
  rcases l with _ | ⟨a, _ | ⟨b, _ | ⟨c, _ | ⟨d, _ | ⟨e, _ | ⟨f, r⟩⟩⟩⟩⟩⟩ <;> simp at h
  exact ⟨a, b, c, d, e, rfl⟩
theorem open_ac {n : Nat} {cs : List Value} {x : DataW H × List MemPlace} (h : DataW.trod enc Try.prog w 0 (fun _ => true) held n 53 cs = some x) (hz : ∀ k ∈ x.1.weights Try.prog 53, k ≤ reachBytes) :
    ∃ a : Ac, cs = [.int .i64 a.kind, .int .i64 a.i, .int .i64 a.k, .bool a.is, .int .i64 a.x.f, .int .i64 a.x.t, a.x.v] ∧ RB w a.x.v a.x.xs ∧ a.In := by
  obtain ⟨xs, n', _, hx, hlen, hl, hf⟩ := DataW.trod_struct Try.underlying53 h
  have hc : Try.prog.cellsOf 53 = 7 := by kernel_rfl
  rw [hc] at hlen
  obtain ⟨v0, v1, v2, v3, v4, v5, v6, rfl⟩ := list7 hlen
  obtain ⟨y0, y1, y2, y3, y4, rfl⟩ := list5 (l := xs) (by rw [hl]; rfl)
  have c3 : Try.prog.cellsOf 3 = 1 := by kernel_rfl
  have c4 : Try.prog.cellsOf 4 = 1 := by kernel_rfl
  have c28 : Try.prog.cellsOf 28 = 3 := by kernel_rfl
  have t0 : DataW.trod enc Try.prog w 0 (fun _ => true) held n' 3 [v0] = some y0 := by simpa [c3] using hf 0 _ rfl
  have t1 : DataW.trod enc Try.prog w 0 (fun _ => true) held n' 3 [v1] = some y1 := by simpa [c3] using hf 1 _ rfl
  have t2 : DataW.trod enc Try.prog w 0 (fun _ => true) held n' 3 [v2] = some y2 := by simpa [c3] using hf 2 _ rfl
  have t3 : DataW.trod enc Try.prog w 0 (fun _ => true) held n' 4 [v3] = some y3 := by simpa [c4] using hf 3 _ rfl
  have t4 : DataW.trod enc Try.prog w 0 (fun _ => true) held n' 28 [v4, v5, v6] = some y4 := by simpa [c28] using hf 4 _ rfl
  obtain ⟨k0, e0, _, b0⟩ := DataW.trod_int (x := y0) (cs := [v0]) Try.underlying3 t0
  obtain ⟨k1, e1, _, b1⟩ := DataW.trod_int (x := y1) (cs := [v1]) Try.underlying3 t1
  obtain ⟨k2, e2, _, b2⟩ := DataW.trod_int (x := y2) (cs := [v2]) Try.underlying3 t2
  obtain ⟨k3, e3, _⟩ := DataW.trod_bool (x := y3) (cs := [v3]) Try.underlying4 t3
  obtain ⟨d, e4, hd, hin⟩ := open_dg (cs := [v4, v5, v6]) (x := y4) t4 (fun k hk => hz k (by
    rw [hx]
    simp only [DataW.weights, Try.underlying53]
    exact DataW.weights_mem_each (j := 4) (t := 28) (d := y4.1) rfl rfl k hk))
  injection e0 with e0
  injection e1 with e1
  injection e2 with e2
  injection e3 with e3
  injection e4 with e4 e5
  injection e5 with e5 e6
  injection e6 with e6
  subst e0 e1 e2 e3 e4 e5 e6
  exact ⟨⟨k0, k1, k2, k3, d⟩, rfl, hd, wf_i64 b0, wf_i64 b1, wf_i64 b2, hin⟩
theorem open_acs {n : Nat} {v : Value} {x : DataW H × List MemPlace} (h : DataW.trod enc Try.prog w 0 (fun _ => true) held n 45 [v] = some x) (hz : ∀ k ∈ x.1.weights Try.prog 45, k ≤ reachBytes) : ∃ A l c, v = .slice A l.length c ∧ l.length ≤ c ∧ c ≤ 140737488351232 ∧ RA w v l ∧ ∀ d ∈ l, d.In := by
  have c7 : Try.prog.cellsOf 53 = 7 := by kernel_rfl
  rcases open_slice Try.underlying45 h with ⟨h1, rfl⟩ | ⟨a, len, cap, m, n', D, Pl, h1, _, hlc, hcm, hm, rfl, hi⟩
  · injection h1 with h1
    subst h1
    exact ⟨none, [], 0, rfl, by simp, by simp, ⟨none, 0, rfl, fun h => (h rfl).elim⟩, fun d hd => by simp at hd⟩
  · injection h1 with h1
    subst h1
    rw [c7] at hi
    have hlm : len ≤ m := by rw [hm]; split <;> omega
    have hc : cap ≤ 140737488351232 := by
      have h5 : Try.prog.bytesOf 53 = 72 := by kernel_rfl
      have := hz ((((List.range len).map D).length + ((List.range (m - len)).map fun j => D (len + j)).length) * Try.prog.bytesOf 53) (by simp [DataW.weights, Try.underlying45])
      rw [h5] at this
      simp only [List.length_map, List.length_range, reachBytes] at this
      simp only [if_true] at hm
      omega
    have hx : ∀ i, i < len → ∃ d : Ac, (w.cell? (a.add (i * 7)) = some (.int .i64 d.kind) ∧ w.cell? (a.add (i * 7 + 1)) = some (.int .i64 d.i) ∧ w.cell? (a.add (i * 7 + 2)) = some (.int .i64 d.k) ∧ w.cell? (a.add (i * 7 + 3)) = some (.bool d.is) ∧
        w.cell? (a.add (i * 7 + 4)) = some (.int .i64 d.x.f) ∧ w.cell? (a.add (i * 7 + 5)) = some (.int .i64 d.x.t) ∧ w.cell? (a.add (i * 7 + 6)) = some d.x.v) ∧ RB w d.x.v d.x.xs ∧ d.In := fun i hil => by
      obtain ⟨cs, hcs, ht⟩ := hi i (by omega)
      obtain ⟨d, rfl, h2, h3⟩ := open_ac (x := (D i, Pl i)) ht (fun k hk => hz k (by
        simp only [DataW.weights, Try.underlying45, List.mem_cons, List.mem_append]
        exact .inr (.inl (weightsAll_mem (d := D i) (by simp; exact ⟨i, hil, rfl⟩) k hk))))
      obtain ⟨_, _, hat⟩ := World.cells?_some hcs
      have hh : ∀ j, j < 7 → w.cell? (a.add (i * 7 + j)) = ([.int .i64 d.kind, .int .i64 d.i, .int .i64 d.k, .bool d.is, .int .i64 d.x.f, .int .i64 d.x.t, d.x.v] : List Value)[j]? := fun j hj => by
        rw [← Go.Deep.add_add]; exact hat j hj
      exact ⟨d, ⟨hh 0 (by omega), hh 1 (by omega), hh 2 (by omega), hh 3 (by omega), hh 4 (by omega), hh 5 (by omega), hh 6 (by omega)⟩, h2, h3⟩
    have : Inhabited Ac := ⟨⟨0, 0, 0, true, ⟨0, 0, .bool true, []⟩⟩⟩
    obtain ⟨X, hX⟩ := choose_lt hx
    refine ⟨some a, (List.range len).map X, cap, by simp, by simpa using hlc, hc, ⟨some a, cap, by simp, fun h0 => ?_⟩, fun d hd => ?_⟩
    · have hl0 : 0 < len := by
        rcases Nat.eq_zero_or_pos len with e | e
        · subst e; simp at h0
        · exact e
      have hsp := World.cell?_spot (hX 0 hl0).1.1
      obtain ⟨b, o, s⟩ := a
      obtain rfl : s = none := by simpa [Addr.add] using hsp
      refine ⟨b, o, rfl, fun j hj => ?_⟩
      simp only [List.length_map, List.length_range] at hj
      have ha : ∀ i, (⟨b, o, none⟩ : Addr).add i = ⟨b, o + i, none⟩ := fun i => by unfold Addr.add; split <;> simp_all
      obtain ⟨⟨h1, h2, h3, h4, h5, h6, h7⟩, h8, _⟩ := hX j hj
      rw [ha] at h1 h2 h3 h4 h5 h6 h7
      simp only [List.getElem_map, List.getElem_range, Nat.add_assoc]
      exact ⟨h1, h2, h3, h4, h5, h6, h7, h8⟩
    · simp only [List.mem_map, List.mem_range] at hd
      obtain ⟨i, hi', rfl⟩ := hd
      exact (hX i hi').2.2
end
end Go.Proofs.Ytddndmhjkjanlaa
