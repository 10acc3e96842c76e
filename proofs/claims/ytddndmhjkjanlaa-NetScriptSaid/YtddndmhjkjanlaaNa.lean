/- What a net holds in memory: the words and small lemmas that the net's contracts use. No condition. -/
import Derived.Test.YtddndmhjkjanlaaProg
import Derived.RangeFuncNested
import Derived.RangeFuncBound
import Derived.RangeFuncCalls
import Derived.RangeFuncLeaves
import Derived.RangeFuncBox
import Derived.Shelf.Abstract
import Derived.Shelf.RegionOpen
import Derived.WalkKit
import Derived.WalkSpells
import Derived.WalkLawsBesides
import Derived.OwnWalkIn
import Derived.TacticsInMore
import Derived.LoopNIn
import Derived.LoopIn
import Derived.Maps.AppendAt
import Derived.Deep.AppendLies
import Derived.Sort.QuietIn
import Derived.Sort.CutIn
import Derived.Maps.OwnIn
import Derived.Deep.RegionHeld3
import Derived.Deep.RegionLaw
import Derived.Deep.RegionWith
import Derived.Deep.QuietTactic
import Derived.BigQuiet
import Derived.Lib.Hide
import Derived.Deep.DeepFit
namespace Go.Proofs.Ytddndmhjkjanlaa
open Go.RowKit

/-- w' is w but for the blocks of S, and for new ones. -/
structure Upd (S : Nat → Prop) (w w' : World) : Prop where
  os : w'.os = w.os
  tape : w'.tape = w.tape
  output : w'.output = w.output
  size : w.heap.size ≤ w'.heap.size
  block : ∀ k, k < w.heap.size → ¬ S k → w'.heap[k]? = w.heap[k]?

theorem Upd.refl (S : Nat → Prop) (w : World) : Upd S w w := ⟨rfl, rfl, rfl, Nat.le_refl _, fun _ _ _ => rfl⟩
theorem Upd.trans {S : Nat → Prop} {a b c : World} (h : Upd S a b) (k : Upd (fun x => S x ∨ a.heap.size ≤ x) b c) : Upd S a c :=
  ⟨k.os.trans h.os, k.tape.trans h.tape, k.output.trans h.output, Nat.le_trans h.size k.size,
   fun i hi hn => (k.block i (Nat.lt_of_lt_of_le hi h.size) (fun hs => hs.elim hn (fun e => by omega))).trans (h.block i hi hn)⟩
theorem Upd.mono {S T : Nat → Prop} {a b : World} (h : Upd S a b) (hs : ∀ k, k < a.heap.size → S k → T k) : Upd T a b :=
  ⟨h.os, h.tape, h.output, h.size, fun i hi hn => h.block i hi (fun hS => hn (hs i hi hS))⟩
theorem Upd.drew {S : Nat → Prop} {a b : World} (h : Upd S a b) : Upd S a b.drew := ⟨h.os, h.tape, h.output, h.size, h.block⟩
theorem Upd.drewN {S : Nat → Prop} {a b : World} (h : Upd S a b) (n : Nat) : Upd S a (b.drewN n) := ⟨h.os, h.tape, h.output, h.size, h.block⟩
theorem Upd.alloc {S : Nat → Prop} {a b : World} (h : Upd S a b) (o : Obj) : Upd S a (b.alloc o) :=
  ⟨h.os, h.tape, h.output, by have := h.size; simp; omega, fun i hi hn => (Below.heap_alloc b o i (Nat.lt_of_lt_of_le hi h.size)).trans (h.block i hi hn)⟩
theorem Upd.setCell {S : Nat → Prop} {a b : World} (h : Upd S a b) {p : Addr} (hp : S p.block ∨ a.heap.size ≤ p.block) (u : Value) : Upd S a (b.setCell p u) :=
  ⟨h.os, h.tape, h.output, by have := h.size; simpa [World.setCell] using this, fun i hi hn => (Below.heap_setCell b p u i (by
    rintro rfl
    exact hp.elim hn (fun e => by omega))).trans (h.block i hi hn)⟩
theorem Upd.putObj {S : Nat → Prop} {a b : World} (h : Upd S a b) {l : Nat} (hp : S l ∨ a.heap.size ≤ l) (o : Obj) : Upd S a (b.putObj l o) :=
  ⟨h.os, h.tape, h.output, by have := h.size; simpa [World.putObj] using this, fun i hi hn => by
    have : l ≠ i := by rintro rfl; exact hp.elim hn (fun e => by omega)
    have h2 : (b.putObj l o).heap[i]? = b.heap[i]? := by simp [World.putObj, Array.getElem?_setIfInBounds, this]
    exact h2.trans (h.block i hi hn)⟩
theorem Upd.below {S : Nat → Prop} {a b : World} (h : Upd S a b) {B : Nat} (hB : B ≤ a.heap.size) (hs : ∀ k, S k → B ≤ k) : Below B a b :=
  ⟨h.os, h.tape, h.output, h.size, fun k hk => h.block k (by omega) (fun e => by have := hs k e; omega)⟩
theorem Upd.of_below {S : Nat → Prop} {a b : World} (h : Below a.heap.size a b) : Upd S a b := ⟨h.os, h.tape, h.output, h.size, fun k hk _ => h.block k hk⟩
theorem Upd.cell {S : Nat → Prop} {a b : World} (h : Upd S a b) {p : Addr} (hp : p.block < a.heap.size) (hn : ¬ S p.block) : b.cell? p = a.cell? p :=
  World.cell?_of_block (w := a) (h.block p.block hp hn)
theorem Upd.frozen {S : Nat → Prop} {a b : World} (h : Upd S a b) {p : Addr} (hp : p.block < a.heap.size) (hn : ¬ S p.block) : b.frozen? p = a.frozen? p :=
  World.frozen?_of_block (w := a) (h.block p.block hp hn)

theorem below_drewN {B : Nat} {a w : World} (h : Below B a w) (n : Nat) : Below B a (w.drewN n) := ⟨h.os, h.tape, h.output, h.size, h.block⟩

theorem below_step {w W w1 : World} (k : Below W.heap.size W w1) (h : Below w.heap.size w W) : Below w.heap.size w w1 := h.trans (k.mono h.size)
theorem below_new {w W : World} (o : Obj) (h : Below w.heap.size w W) : Below w.heap.size w (W.alloc o) := h.alloc h.size o

/-- Bytes as the cells of a slice. -/
def byv (xs : List UInt8) : List Value := xs.map fun x => .int .u8 (x.toNat : Int)
@[simp] theorem byv_length (xs : List UInt8) : (byv xs).length = xs.length := by simp [byv]

/-- A datagram on its way: its block, its ends, the slice of its bytes, the bytes. -/
structure Nd where
  b : Nat
  f : Int
  t : Int
  v : Value
  xs : List UInt8

/-- Where a list begins. -/
def nx : List Nd → Option Addr
  | [] => none
  | nd :: _ => some ⟨nd.b, 0, none⟩

/-- All cells are bytes. -/
def AllU8 (cur : Array Value) : Prop := ∀ u ∈ cur.toList, ∃ x : UInt8, u = .int .u8 (x.toNat : Int)
/-- The row of a slice of bytes holds bytes alone, its room too. -/
def Typ (w : World) (v : Value) : Prop := ∀ g, v.ownBlock = some g → ∃ cur, w.heap[g]? = some (.cells cur 5 (0, 0)) ∧ AllU8 cur
/-- A slice that owns its bytes. -/
structure OB (w : World) (base : Nat) (v : Value) (xs : List UInt8) : Prop where
  own : w.ownsRow base 5 1 v xs.length (byv xs)
  typ : Typ w v
theorem Typ.kept {w w' : World} {v : Value} (h : Typ w v) (hb : ∀ k ∈ v.ownBlock.toList, w'.heap[k]? = w.heap[k]?) : Typ w' v := by
  intro g hg
  obtain ⟨cur, h1, h2⟩ := h g hg
  exact ⟨cur, (hb g (by simp [hg])).trans h1, h2⟩
theorem OB.kept {w w' : World} {base : Nat} {v : Value} {xs : List UInt8} (h : OB w base v xs) (hb : ∀ k ∈ v.ownBlock.toList, w'.heap[k]? = w.heap[k]?) : OB w' base v xs := by
  refine ⟨?_, h.typ.kept hb⟩
  obtain ⟨h2, h3⟩ := h.own
  refine ⟨h2, ?_⟩
  rcases h3 with h3 | ⟨g, cap, cur, hv, hg, hh, r⟩
  · exact .inl h3
  · exact .inr ⟨g, cap, cur, hv, hg, (hb g (by simp [hv, Value.ownBlock])).trans hh, r⟩

def NodeAt (w : World) (nd : Nd) (q : Option Addr) : Prop :=
  w.heap[nd.b]? = some (.cells #[.int .i64 nd.f, .int .i64 nd.t, nd.v, .pointer q] 58 (0, 0)) ∧ OB w 0 nd.v nd.xs

def Chain (w : World) : List Nd → Prop
  | [] => True
  | nd :: r => NodeAt w nd (nx r) ∧ Chain w r

/-- The cut links, as the map's entries. -/
def cutKey (k : Int × Int) : Value := .agg #[.int .i64 k.1, .int .i64 k.2]
def CutsAt (w : World) (bm : Nat) (K : List (Int × Int)) : Prop :=
  ∃ es clock, w.heap[bm]? = some (.map es clock) ∧ es.toList.map (·.key) = K.map cutKey ∧ (∀ e ∈ es.toList, e.val = .agg #[]) ∧ K.Nodup

/-- The blocks of a net. -/
def blocks (bn bm : Nat) (L : List Nd) : List Nat := bn :: bm :: L.flatMap fun nd => nd.b :: nd.v.ownBlock.toList

structure NetAt (w : World) (bn bm : Nat) (L : List Nd) (K : List (Int × Int)) (lost : Int) : Prop where
  head : w.heap[bn]? = some (.cells #[.bool true, .int .i64 0, .int .i64 0, .slice none 0 0, .pointer (nx L), .int .i64 (L.length : Int), .map (some bm), .int .i64 lost] 61 (0, 0))
  chain : Chain w L
  cuts : CutsAt w bm K
  apart : (blocks bn bm L).Nodup

theorem NodeAt.kept {w w' : World} {nd : Nd} {q : Option Addr} (h : NodeAt w nd q) (hb : ∀ k ∈ nd.b :: nd.v.ownBlock.toList, w'.heap[k]? = w.heap[k]?) : NodeAt w' nd q :=
  ⟨(hb _ (by simp)).trans h.1, h.2.kept (fun k hk => hb k (by simp only [List.mem_cons]; exact .inr hk))⟩
theorem Chain.kept {w w' : World} : ∀ {L : List Nd}, Chain w L → (∀ k ∈ L.flatMap (fun nd => nd.b :: nd.v.ownBlock.toList), w'.heap[k]? = w.heap[k]?) → Chain w' L
  | [], _, _ => trivial
  | nd :: r, ⟨h1, h2⟩, hb => ⟨h1.kept (fun k hk => hb k (by simp only [List.flatMap_cons, List.mem_append]; exact .inl hk)), Chain.kept h2 (fun k hk => hb k (by simp only [List.flatMap_cons, List.mem_append]; exact .inr hk))⟩
theorem CutsAt.kept {w w' : World} {bm : Nat} {K : List (Int × Int)} (h : CutsAt w bm K) (hb : w'.heap[bm]? = w.heap[bm]?) : CutsAt w' bm K := by
  obtain ⟨es, c, h1, h2⟩ := h
  exact ⟨es, c, hb.trans h1, h2⟩
theorem NetAt.kept {w w' : World} {bn bm : Nat} {L : List Nd} {K : List (Int × Int)} {lost : Int} (h : NetAt w bn bm L K lost) (hb : ∀ k ∈ blocks bn bm L, w'.heap[k]? = w.heap[k]?) : NetAt w' bn bm L K lost :=
  ⟨(hb _ (by simp [blocks])).trans h.head, h.chain.kept (fun k hk => hb k (by simp only [blocks, List.mem_cons]; exact .inr (.inr hk))), h.cuts.kept (hb _ (by simp [blocks])), h.apart⟩
theorem NodeAt.lt {w : World} {nd : Nd} {q : Option Addr} (h : NodeAt w nd q) : ∀ k ∈ nd.b :: nd.v.ownBlock.toList, k < w.heap.size := by
  obtain ⟨h1, ⟨h2, h3⟩, _⟩ := h
  intro k hk
  rcases List.mem_cons.1 hk with rfl | hk
  · exact (Array.getElem?_eq_some_iff.1 h1).1
  · rcases h3 with ⟨hv, _⟩ | ⟨g, cap, cur, hv, hg, hh, r⟩
    · simp [hv, Value.ownBlock] at hk
    · simp [hv, Value.ownBlock] at hk
      subst hk
      exact (Array.getElem?_eq_some_iff.1 hh).1
theorem Chain.lt {w : World} : ∀ {L : List Nd}, Chain w L → ∀ k ∈ L.flatMap (fun nd => nd.b :: nd.v.ownBlock.toList), k < w.heap.size
  | [], _, _, hk => by simp at hk
  | nd :: r, ⟨h1, h2⟩, k, hk => by
    simp only [List.flatMap_cons, List.mem_append] at hk
    exact hk.elim (h1.lt k) (Chain.lt h2 k)
theorem NetAt.lt {w : World} {bn bm : Nat} {L : List Nd} {K : List (Int × Int)} {lost : Int} (h : NetAt w bn bm L K lost) : ∀ k ∈ blocks bn bm L, k < w.heap.size := by
  intro k hk
  simp only [blocks, List.mem_cons] at hk
  rcases hk with rfl | rfl | hk
  · exact (Array.getElem?_eq_some_iff.1 h.head).1
  · obtain ⟨es, c, h1, _⟩ := h.cuts
    exact (Array.getElem?_eq_some_iff.1 h1).1
  · exact h.chain.lt k hk
/-- A net lies on wherever its own blocks do. -/
theorem NetAt.upd {w w' : World} {bn bm : Nat} {L : List Nd} {K : List (Int × Int)} {lost : Int} {S : Nat → Prop} (h : NetAt w bn bm L K lost) (hu : Upd S w w') (hs : ∀ k ∈ blocks bn bm L, ¬ S k) : NetAt w' bn bm L K lost :=
  h.kept (fun k hk => hu.block k (h.lt k hk) (hs k hk))

end Go.Proofs.Ytddndmhjkjanlaa
