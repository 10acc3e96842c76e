/- path.Check: what it tells of a text. No condition. -/
import Derived.Test.YtigldoicijfhoaaDoorPd
import Derived.Test.YtigldoicijfhoaaDoorRf
import Derived.Shelf.Abstract
import Derived.Shelf.RegionOpen
import Derived.OwnWalkIn
import Derived.TacticsInMore
import Derived.LoopNIn
import Derived.LoopIn
import Derived.Sort.QuietIn
import Derived.Sort.CutIn
namespace Go.Proofs.YtigldoicijfhoaaDoor.H
open Go.RowKit Go.Shelf
attribute [local go_sem] Oper.semAt_some

/-- What the iterator hands to a round: where a part begins, the part. -/
def itemsS : Nat → List Bs → List (Nat × Bs)
  | _, [] => []
  | a, p :: q => (a, p) :: itemsS (a + p.length + 1) q
theorem itemsS_length : ∀ (a : Nat) (l : List Bs), (itemsS a l).length = l.length
  | _, [] => rfl
  | a, p :: q => by simp [itemsS, itemsS_length (a + p.length + 1) q]
/-- What may be handed to a round. -/
abbrev It := { x : Nat × Bs // x.1 ≤ 2000000 ∧ x.2.length ≤ 2000000 }
def encS (x : It) : Array Value := #[.int .i64 (x.1.1 : Int), .string (mkB x.1.2)]
abbrev vals (l : List It) : List (Nat × Bs) := l.map (·.1)

theorem only_drewN {a w : World} {row : Option Nat} (h : a.grownBy w row) (n : Nat) : a.grownBy (w.drewN n) row := ⟨h.os, h.tape, h.output, h.size, h.block⟩
/-- The iterator's own steps: it turns its own cell. -/
def TurnS (B : Nat) (A A' : World) : Prop := A.grownBy A' (some B) ∧ ∃ v, A.heap[B]? = some (.cells #[v] 9 (0, 0))
/-- What a round keeps: the iterator's cell. -/
def KeepS (B : Nat) (A A' : World) : Prop := A'.heap[B]? = A.heap[B]?

/-- How long the text is that is left. -/
def leftS (B : Nat) (W : World) : Nat := match W.cell? ⟨B, 0, none⟩ with
  | some (.string s) => s.size
  | _ => 0
def moreS (B : Nat) (W : World) (v : Value) : Nat := match v with
  | .bool true => leftS B W + 1
  | _ => 0

set_option maxRecDepth 100000 in
set_option maxHeartbeats 2000000 in
theorem steps1_in (n : Nat) (hn : 1 ≤ n) (l B : Nat) (s : Bs) (hs : s.length ≤ 1000000) (J Jx : List It → World → Prop)
    (hJ : ∀ x A A', J x A → TurnS B A A' → J x A')
    (hY : ∀ pre x W, J pre W → pre.length < (sp s).length → YieldAt Fence.wide (n - 1) Tryd.prog l (encS x) W fun e W' =>
      (e = .returned (.bool true) ∧ J (pre ++ [x]) W' ∧ KeepS B W W') ∨ (e = .returned (.bool false) ∧ Jx (pre ++ [x]) W'))
    (W : World) (hB : Boxed W B 9 (.string (mkB s))) (h0 : J [] W) :
    CallsIn Fence.wide n Tryd.prog 39 #[.func (.yield l) #[] #[], .pointer (some ⟨B, 0, none⟩)] W fun e W' => (∃ v, e = .returned v) ∧
      ((∃ ys, vals ys = itemsS 0 (sp s) ∧ J ys W') ∨ (∃ pre, vals pre <+: itemsS 0 (sp s) ∧ Jx pre W')) := by
  have hJ' := Lib.hid hJ
  clear hJ
  refine callsIn_of_wp Tryd.func39 rfl trivial ?_ rfl
  simp only [Tryd.ntmps39, List.size_toArray, List.length_cons, List.length_nil, Nat.reduceAdd, Nat.reduceSub, Array.replicate_succ, Array.replicate_zero, List.push_toArray, List.append_toArray, List.nil_append, List.cons_append]
  gi_wp2
  gi_loopw [3, 4] (fun a m wr => (∃ (pre : List It) (at' : Nat) (r : Bs), a = .int .i64 (at' : Int) ∧ m = .bool true ∧ itemsS 0 (sp s) = vals pre ++ itemsS at' (sp r) ∧ at' + r.length ≤ s.length ∧ Boxed wr B 9 (.string (mkB r)) ∧ J pre wr)
      ∨ (m = .bool false ∧ ∃ ys, vals ys = itemsS 0 (sp s) ∧ J ys wr)) (fun _ m wr => moreS B wr m)
  case atStart => exact .inl ⟨[], 0, s, rfl, rfl, rfl, by omega, hB, h0⟩
  case round =>
    rcases hrel with ⟨pre, at', r, rfl, rfl, hx, hal, hBr, hJs⟩ | ⟨rfl, ys, hys, hJs⟩
    · have hHX := Lib.hid hx
      have hc0 := hBr.cell; have hf0 := hBr.frozen
      have hlen : pre.length < (sp s).length := by
        have := congrArg List.length hx
        rw [List.length_append, itemsS_length, itemsS_length, List.length_map] at this
        have h2 : 0 < (sp r).length := List.length_pos_iff.2 (sp_ne r)
        omega
      have hm0 : moreS B wr (.bool true) = r.length + 1 := by simp [moreS, leftS, hc0]
      replace hm0 := Lib.hid hm0
      clear hx
      rcases hb : (brk r).2 with _ | r'
      · have HB' := Lib.hid hb
        have hsp : sp r = [r] := by rw [sp_brk, hb, (brk_none hb).1]
        replace hsp := Lib.hid hsp
        clear hb
        gi_wp2_with (refine ⟨trivial, ?_⟩; gi_at_call 40; refine (callsIn_wide.2 (cut_none r _ HB'.out)).mono ?_; rintro e w' ⟨rfl, rfl⟩)
        have hJ1 : J pre (wr.setCell ⟨B, 0, none⟩ (.string ⟨#[]⟩)) := hJ'.out _ _ _ hJs ⟨grownBy_setCell' wr B _, _, hBr⟩
        have hB1 := hBr.set (.string ⟨#[]⟩)
        obtain ⟨fn, tmps, assign, body, hy, hR⟩ := hY pre ⟨(at', r), by dsimp only; omega⟩ _ hJ1 hlen
        dsimp only [encS] at hy
        rw [hy]
        gi_wp2
        refine hR.mono ?_
        rintro e W3 (⟨rfl, hJ3, hk3⟩ | ⟨rfl, hJx3⟩)
        · gi_wp2
          go_roundw
          case rel =>
            refine .inr ⟨rfl, _, ?_, hJ3⟩
            rw [hHX.out, hsp.out]
            simp [itemsS]
          case measure =>
            have e1 : moreS B W3 (.bool false) = 0 := rfl
            rw [hm0.out, e1]; omega
        · gi_wp2
          refine bodyPost_ret (results_none rfl _ _ _) rfl ?_
          exact ⟨⟨_, rfl⟩, .inr ⟨_, ⟨[], by rw [hHX.out, hsp.out]; simp [itemsS]⟩, hJx3⟩⟩
      · have HB' := Lib.hid hb
        have hsp : sp r = (brk r).1 :: sp r' := by rw [sp_brk, hb]
        have hlr : (brk r).1.length + 1 + r'.length = r.length := by
          have := congrArg List.length (brk_some hb).1
          simp at this; omega
        replace hsp := Lib.hid hsp
        clear hb
        generalize hp : (brk r).1 = p at *
        replace hp := Lib.hid hp
        gi_wp2_with (refine ⟨trivial, ?_⟩; gi_at_call 40; refine (callsIn_wide.2 (cut_some r r' _ HB'.out (by omega))).mono ?_; rintro e w' ⟨rfl, m, rfl⟩; rw [hp.out])
        have hJ1 : J pre ((wr.drewN m).setCell ⟨B, 0, none⟩ (.string (mkB r'))) := hJ'.out _ _ _ hJs ⟨only_drewN (grownBy_setCell' wr B _) m, _, hBr⟩
        have hB1 : Boxed ((wr.drewN m).setCell ⟨B, 0, none⟩ (.string (mkB r'))) B 9 (.string (mkB r')) := hBr.set (.string (mkB r'))
        obtain ⟨fn, tmps, assign, body, hy, hR⟩ := hY pre ⟨(at', p), by dsimp only; omega⟩ _ hJ1 hlen
        dsimp only [encS] at hy
        rw [hy]
        gi_wp2
        refine hR.mono ?_
        rintro e W3 (⟨rfl, hJ3, hk3⟩ | ⟨rfl, hJx3⟩)
        · have hB3 : Boxed W3 B 9 (.string (mkB r')) := hk3.trans hB1
          have e1 : moreS B W3 (.bool true) = r'.length + 1 := by simp [moreS, leftS, hB3.cell]
          replace e1 := Lib.hid e1
          gi_wp2
          go_roundw
          case rel =>
            refine .inl ⟨_, at' + p.length + 1, r', by go_num, rfl, ?_, by omega, hB3, hJ3⟩
            rw [hHX.out, hsp.out]
            simp [itemsS]
          case measure =>
            rw [hm0.out, e1.out]; omega
        · gi_wp2
          refine bodyPost_ret (results_none rfl _ _ _) rfl ?_
          exact ⟨⟨_, rfl⟩, .inr ⟨_, ⟨itemsS (at' + p.length + 1) (sp r'), by rw [hHX.out, hsp.out]; simp [itemsS]⟩, hJx3⟩⟩
    · replace hys := Lib.hid hys
      gi_wp2
      go_end0
      exact ⟨⟨_, rfl⟩, .inl ⟨ys, hys.out, hJs⟩⟩
theorem steps_stops (n : Nat) (hn : 1 ≤ n) (B : Nat) (s : Bs) (hs : s.length ≤ 1000000) (w : World) (hB : Boxed w B 9 (.string (mkB s))) :
    SeqTurns Fence.wide n Tryd.prog 39 #[.pointer (some ⟨B, 0, none⟩)] encS (KeepS B) (TurnS B) (fun ys => vals ys = itemsS 0 (sp s)) (fun pre => vals pre <+: itemsS 0 (sp s)) (sp s).length w := fun l J Jx W hW hJ _ hY h0 =>
  steps1_in n hn l B s hs J Jx hJ hY W ((hW.block B hB.lt).trans hB) h0
set_option maxHeartbeats 400000 in
theorem steps_in (n : Nat) (s : Bs) (w : World) :
    CallsIn Fence.wide n Tryd.prog 26 #[.string (mkB s)] w fun e w' => e = .returned (.func (.func 39) #[] #[.pointer (some ⟨w.heap.size, 0, none⟩)]) ∧ w' = w.alloc (.cells #[.string (mkB s)] 9) := by
  refine callsIn_of_wp Tryd.func26 rfl trivial ?_ rfl
  simp only [Tryd.ntmps26, List.size_toArray, List.length_cons, List.length_nil, Nat.reduceAdd, Nat.reduceSub, Array.replicate_succ, Array.replicate_zero, List.push_toArray, List.append_toArray, List.nil_append, List.cons_append]
  gi_wp2
  go_ret
  exact ⟨rfl, rfl⟩
end Go.Proofs.YtigldoicijfhoaaDoor.H
