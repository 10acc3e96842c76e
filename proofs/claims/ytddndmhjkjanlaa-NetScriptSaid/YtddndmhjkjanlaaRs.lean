/- NetScript: the walk. Condition: the calls are as their types say. -/
import Derived.Test.YtddndmhjkjanlaaRr
import Derived.Test.YtddndmhjkjanlaaNv
namespace Go.Proofs.Ytddndmhjkjanlaa
open Go.RowKit Go.Shelf

/-- At a round's head: both hold the same. -/
def SRel (l : List Ac) (base bn r : Nat) (w0 : World) (p : Value) (wr : World) : Prop :=
  ∃ (j : Nat) (M : St) (Kp : List Nat), p = .int .i64 (j : Int) ∧ j ≤ l.length ∧ Pair wr bn r M base Kp ∧ Below base w0 wr ∧ M.lost ≤ j ∧ M.K.length ≤ j

/-- What was told, from place k on as it was told. -/
structure XRow (w : World) (base : Nat) (A : Option Addr) (l : List Ed) (k : Nat) : Prop where
  row : l ≠ [] → ∃ gx cx, A = some ⟨gx, 0, none⟩ ∧ base ≤ gx ∧ w.heap[gx]? = some (.cells cx 28 (0, 0)) ∧ l.length * 3 ≤ cx.size ∧ ∀ j (hj : j < l.length), k ≤ j → cx[j * 3 + 2]? = some l[j].v
  ovr : ∀ d ∈ l, Ovr w base d.v
theorem DRow.xrow {w w' : World} {base : Nat} {A : Option Addr} {n c : Nat} {l : List Ed} (h : DRow w base (.slice A n c) l) (hb : Below w.heap.size w w') : XRow w' base A l 0 := by
  refine ⟨fun hne => ?_, fun d hd => (h.bytes d hd).ovr.below hb⟩
  rcases h.row.2 with ⟨_, h0⟩ | ⟨g, cap, cur, e, hg, hh, hnc, hcm, hcs, htake⟩
  · exact absurd (List.eq_nil_of_length_eq_zero h0) hne
  · injection e with e1 e2 e3
    refine ⟨g, cur, e1, hg, (hb.block g (Array.getElem?_eq_some_iff.1 hh).1).trans hh, by omega, fun j hj _ => ?_⟩
    have := (cellsE_get l j hj).2.2
    rw [← htake, List.getElem?_take_of_lt (by omega)] at this
    simpa using this
theorem wipe_row {w : World} {base gx k : Nat} {cx : Array Value} {l : List Ed} (hh : w.heap[gx]? = some (.cells cx 28 (0, 0))) (hg : base ≤ gx) (hcs : l.length * 3 ≤ cx.size) (hv : ∀ j (hj : j < l.length), k ≤ j → cx[j * 3 + 2]? = some l[j].v) (ho : ∀ d ∈ l, Ovr w base d.v) :
    XRow (((w.setCell ⟨gx, k * 3, none⟩ (.int .i64 (-7))).setCell ⟨gx, k * 3 + 1, none⟩ (.int .i64 0)).setCell ⟨gx, k * 3 + 2, none⟩ (.slice none 0 0)) base (some ⟨gx, 0, none⟩) l (k + 1) := by
  refine ⟨fun _ => ⟨gx, _, rfl, hg, heap_set (heap_set (heap_set hh _ _) _ _) _ _, by simpa using hcs, fun j hj hkj => ?_⟩, fun d hd => ?_⟩
  · rw [Array.getElem?_setIfInBounds_ne (by omega), Array.getElem?_setIfInBounds_ne (by omega), Array.getElem?_setIfInBounds_ne (by omega)]
    exact hv j hj (by omega)
  · exact (ho d hd).far hh (((Upd.refl (fun q => q = gx) w).setCell (p := ⟨gx, k * 3, none⟩) (.inl rfl) _).setCell (p := ⟨gx, k * 3 + 1, none⟩) (.inl rfl) _ |>.setCell (p := ⟨gx, k * 3 + 2, none⟩) (.inl rfl) _)
theorem rr_of {w5 : World} {r : Nat} {M : St} {A B : Option Addr} {c d : Nat} {l : List Ed} (h : RRead w5 r M A c l B d) {w' : World} (hb : Below w5.heap.size w5 w') :
    w'.cell? ⟨r, 0, none⟩ = some (.slice A l.length c) ∧ w'.cell? ⟨r, 2, none⟩ = some (.int .i64 M.lost) ∧ Below w5.heap.size w5 w' := ⟨(h.below hb).c0, (h.below hb).c2, hb⟩
set_option maxRecDepth 100000 in
set_option maxHeartbeats 2000000 in
theorem script_any (A : Option Addr) (c : Nat) (l : List Ac) (to : Int) (w : World) (hl' : l.length ≤ 140737488351232) (hRA : RA w (.slice A l.length c) l) (hin : ∀ d ∈ l, d.In) :
    Calls Try.prog 6 #[.slice A l.length c, .int .i64 to] w fun e w' => e = .returned (.bool true) ∧ Below w.heap.size w w' := by
  have hIn := Lib.hid hin; have HRA := Lib.hid hRA
  clear hin hRA
  go_enter Try.func6, Try.ntmps6
  go_wp2_with fail
  refine (new_ns _).mono ?_
  rintro e w1 ⟨rfl, h1, b1⟩
  replace h1 := Lib.hid h1; replace b1 := Lib.hid b1
  generalize w.heap.size + 1 = bn at *
  go_wp2_with fail
  refine (large_any A c l _ hl' (HRA.out.below b1.out) hIn.out).mono ?_
  rintro e w2 ⟨big, rfl, hbig, rfl⟩
  replace hbig := Lib.hid hbig
  cases big
  case true =>
    go_wp2_with fail
    refine (awake_any _).mono ?_
    rintro e w9 ⟨rfl, b9⟩
    have B := Lib.hid (below_step b9 b1.out)
    clear b9
    go_wp2
    go_ret
    exact ⟨rfl, B.out⟩
  case false =>
    obtain ⟨hl60, hx8⟩ := hbig.out rfl
    replace hx8 := Lib.hid hx8
    obtain ⟨W, hW⟩ : ∃ W, w1.alloc (.cells #[.slice none 0 0, .slice none 0 0, .int .i64 0] 50) = W := ⟨_, rfl⟩
    have hp : Pair W bn w1.heap.size St.new w.heap.size [w1.heap.size] := by
      have hb := below_new (.cells #[.slice none 0 0, .slice none 0 0, .int .i64 0] 50) (Below.refl _ w1)
      refine ⟨?_, ⟨h1.out.ok, by simp [St.new], by simp, .slice none 0 0, .slice none 0 0, [], rfl, by rw [← hW]; exact heap_alloc_new w1 _, ⟨rfl, .inl ⟨rfl, rfl⟩⟩, ⟨rfl, .inl ⟨rfl, rfl⟩⟩, fun d hd => by simp at hd, fun k hk => by simp [Value.ownBlock] at hk, fun k hk => by simp [Value.ownBlock] at hk, fun d hd => by simp at hd⟩, fun k hk => ?_⟩
      · rw [← hW]
        have := h1.out.more hb [w1.heap.size] (by simp)
        simpa using this
      · simp only [List.mem_cons, List.not_mem_nil, or_false] at hk
        subst hk
        exact b1.out.size
    have bW : Below w.heap.size w W := by rw [← hW]; exact below_new _ b1.out
    obtain ⟨r, hr⟩ : ∃ r, w1.heap.size = r := ⟨_, rfl⟩
    rw [hr] at hp
    have HP := Lib.hid hp; have BW := Lib.hid bW
    clear hp bW
    go_wp2
    go_loopw [7] (fun p wr => SRel l w.heap.size bn r w p wr) (fun p wr => l.length - (intOf p).toNat)
    case atStart => exact ⟨0, St.new, [r], rfl, by omega, HP.out, BW.out, by simp [St.new], by simp [St.new]⟩
    case round =>
      obtain ⟨j, M, Kp, rfl, hj, hp, hB, hlo, hkl⟩ := hrel
      replace hp := Lib.hid hp; replace hB := Lib.hid hB
      by_cases he : j < l.length
      · obtain ⟨ga, oa, rfl⟩ := HRA.out.addr (fun e => by rw [e] at he; simp at he)
        obtain ⟨⟨kind, ai, ak, is, ⟨f, t, v, xs⟩⟩, hd, a0, a1, a2, a3, a4, a5, a6, arb⟩ := (HRA.out.below hB.out).atE j he
        dsimp only [] at a0 a1 a2 a3 a4 a5 a6 arb
        obtain ⟨Ax, cx, rfl, -⟩ := id arb
        have hmem := List.mem_of_getElem? hd
        have hxl : xs.length ≤ 8000 := hx8.out _ hmem
        have hak : ak ≤ 9223372036854775807 := (hIn.out _ hmem).k.2
        have harg := Lib.hid (fun W (hW : Below w.heap.size wr W) => (HRA.out.bytes _ hmem).below (hB.out.trans hW))
        clear hd hmem arb
        go_wp2_with fail
        refine (both_any hp.out kind ai ak is f t Ax xs cx hak (by omega) (by omega) hxl harg.out).mono ?_
        rintro e w4 ⟨rfl, M', ⟨Kp', hp4, b4⟩, hl4, hk4⟩
        replace hp4 := Lib.hid hp4; have B4 := Lib.hid (hB.out.trans b4)
        clear b4 a0 a1 a2 a3 a4 a5 a6
        go_wp2_with fail
        refine hp4.out.ns.waiting.mono ?_
        rintro e w5 ⟨A5, c5, l5, rfl, hl5, hr5, b5⟩
        obtain ⟨AL, cL, lL, BL, dL, hrr⟩ := (hp4.out.rn.below b5).read
        have hl5l : l5.length = M'.l.length := by have := congrArg List.length hl5; simpa using this
        have hlLl : lL.length = M'.l.length := hrr.len
        have hok := hp4.out.ns.ok
        have h5k : l5.length ≤ 2000 := by have := hok.len; omega
        have hLk : lL.length ≤ 2000 := by have := hok.len; omega
        have C12 : ∀ W, Below w5.heap.size w5 W → Calls Try.prog 12 #[.slice A5 l5.length c5, .slice AL lL.length cL] W fun e w' => e = .returned (.bool true) ∧ Below W.heap.size W w' := fun W hW => by
          have := same_any (.slice A5 l5.length c5) (.slice AL lL.length cL) l5 lL W ((ownsRow_rd hr5.row (fun d hd => (hr5.bytes d hd).rb)).below hW) (hrr.rd.below hW) (by omega) (by omega)
          rw [hl5, hrr.map, decide_eq_true rfl] at this
          exact this
        have C20 : ∀ W, Below w5.heap.size w5 W → Calls Try.prog 20 #[.pointer (some ⟨bn, 0, none⟩)] W fun e w' => e = .returned (.int .i64 M'.lost) ∧ W = w' := fun W hW => ((hp4.out.ns.below b5).below hW).lost
        have C14 : ∀ W, Below w5.heap.size w5 W → Calls Try.prog 14 #[.pointer (some ⟨bn, 0, none⟩), .int .i64 to] W fun e w' => e = .returned (.int .i64 (firstD M'.l to)) ∧ Below W.heap.size W w' := fun W hW => ((hp4.out.ns.below b5).below hW).first to
        have C27 : ∀ W, Below w5.heap.size w5 W → Calls Try.prog 27 #[.pointer (some ⟨r, 0, none⟩), .int .i64 to] W fun e w' => e = .returned (.int .i64 (firstD M'.l to)) ∧ W = w' := fun W hW => rfirst_any ((hp4.out.rn.below b5).below hW) to
        have HC12 := Lib.hid C12; have HC20 := Lib.hid C20; have HC14 := Lib.hid C14; have HC27 := Lib.hid C27; have HRR := Lib.hid hrr; have HR5 := Lib.hid hr5; have HB5 := Lib.hid b5
        have hB0 := Below.refl w5.heap.size w5
        clear C12 C20 C14 C27 hrr hr5 b5 hl5 hok hl5l hlLl
        obtain ⟨fd, hfd⟩ : ∃ fd, firstD M'.l to = fd := ⟨_, rfl⟩
        rw [hfd] at HC14 HC27
        clear hfd
        go_wp2_with fail
        go_region_held3 (fun w' => w'.cell? ⟨r, 0, none⟩ = some (.slice AL lL.length cL) ∧ w'.cell? ⟨r, 2, none⟩ = some (.int .i64 M'.lost) ∧ Below w5.heap.size w5 w')
          ((refine rr_of HRR.out ?_; first | assumption | exact hB0.drew | (obtain ⟨_, _, hB⟩ := ‹_ ∧ _ ∧ Below w5.heap.size w5 _›; first | exact hB | exact hB.drew | exact below_step (by assumption) hB)))
          (first
            | (go_at_call 12; refine (HC12.out _ (by first | exact hB0.drew | exact (‹_ ∧ _ ∧ Below w5.heap.size w5 _›).2.2)).mono ?_; rintro e w6 ⟨rfl, b6⟩)
            | (go_at_call 20; refine (HC20.out _ (‹_ ∧ _ ∧ Below w5.heap.size w5 _›).2.2).mono ?_; rintro e w6 ⟨rfl, rfl⟩)
            | (go_at_call 14; refine (HC14.out _ (‹_ ∧ _ ∧ Below w5.heap.size w5 _›).2.2).mono ?_; rintro e w7 ⟨rfl, b7⟩)
            | (go_at_call 27; refine (HC27.out _ (‹_ ∧ _ ∧ Below w5.heap.size w5 _›).2.2).mono ?_; rintro e w8 ⟨rfl, rfl⟩))
        all_goals
          have hB7 := (‹_ ∧ _ ∧ Below w5.heap.size w5 _›).2.2
          have hx7 := Lib.hid (HR5.out.xrow hB7)
          have B47 := Lib.hid (below_step hB7 HB5.out)
          clear hB0 hB7
          go_wp2
          go_loopw [9] (fun p wr => ∃ k : Nat, k ≤ l5.length ∧ p = .int .i64 (k : Int) ∧ XRow wr w4.heap.size A5 l5 k ∧ Below w4.heap.size w4 wr) (fun p wr => l5.length - (intOf p).toNat)
          case atStart => exact ⟨0, by omega, rfl, hx7.out, B47.out⟩
          case round =>
            obtain ⟨k, hk, rfl, hx, hBk⟩ := hrel
            have HX := Lib.hid hx; have HBK := Lib.hid hBk
            by_cases hkl2 : k < l5.length
            · obtain ⟨gx, cx', rfl, hgx, hh, hcs, hv⟩ := hx.row (fun e => by rw [e] at hkl2; simp at hkl2)
              have e2 := cell_of hh (k * 3 + 2) (hv k hkl2 (Nat.le_refl _))
              obtain ⟨v, hvv⟩ : ∃ v, l5[k].v = v := ⟨_, rfl⟩
              have hov := hx.ovr l5[k] (List.getElem_mem hkl2)
              rw [hvv] at e2 hov
              have HOV := Lib.hid hov; have HH := Lib.hid hh; have HV := Lib.hid hv
              clear hov hh hv hvv hx hBk
              go_wp2_with fail
              refine (over_ovr HOV.out HBK.out.size).mono ?_
              rintro e w9 ⟨rfl, b9, hov9, hkeep⟩
              have h9 := hkeep gx cx' 28 _ (by decide) HH.out
              have t0 := cell_of h9 (k * 3) (Array.getElem?_eq_getElem (by omega))
              have t1 := cell_of h9 (k * 3 + 1) (Array.getElem?_eq_getElem (by omega))
              have t2 := cell_of h9 (k * 3 + 2) (Array.getElem?_eq_getElem (by omega))
              have s0 := frozen_of h9 (k * 3)
              have s1 := frozen_of h9 (k * 3 + 1)
              have s2 := frozen_of h9 (k * 3 + 2)
              have HX9 := Lib.hid (wipe_row h9 hgx hcs HV.out (fun d hd => hov9 _ (HX.out.ovr d hd)))
              have HB9 := Lib.hid (HBK.out.trans b9)
              clear hkeep hov9 b9 h9 e2
              go_wp2
              go_roundw
              case rel => exact ⟨k + 1, by omega, by go_num, HX9.out, ((HB9.out.setCell (p := ⟨gx, k * 3, none⟩) hgx _).setCell (p := ⟨gx, k * 3 + 1, none⟩) hgx _).setCell (p := ⟨gx, k * 3 + 2, none⟩) hgx _⟩
              case measure => simp [intOf]; omega
            · obtain rfl : k = l5.length := by omega
              clear hx hBk
              go_wp2
              go_roundw
              case rel => exact ⟨j + 1, M', Kp', by go_num, by omega, hp4.out.below HBK.out, B4.out.trans (HBK.out.mono B4.out.size), by omega, by omega⟩
              case measure => simp [intOf]; omega
      · obtain rfl : j = l.length := by omega
        clear he
        go_wp2_with fail
        refine (awake_any _).mono ?_
        rintro e w9 ⟨rfl, b9⟩
        have B := Lib.hid (below_step b9 hB.out)
        clear b9
        go_wp2
        go_ret
        exact ⟨rfl, B.out⟩
end Go.Proofs.Ytddndmhjkjanlaa
