/- NetKeeps: the walk. Condition: the calls are as their types say. -/
import Derived.Test.YtddndmhjkjanlaaOg
import Derived.Test.YtddndmhjkjanlaaOc
import Derived.Test.YtddndmhjkjanlaaNw
namespace Go.Proofs.Ytddndmhjkjanlaa
open Go.RowKit Go.Shelf

structure KIn (l : List Ac) (base bn : Nat) (s c t u p : Value) (w0 wr : World) (j : Nat) (A' : Option Addr) (c' : Nat) (sent : List Ed) (M : St) (come taken : Int) (turned : Bool) : Prop where
  hp : p = .int .i64 (j : Int)
  hj : j ≤ l.length
  hs : s = .slice A' sent.length c'
  hc : c = .int .i64 come
  ht : t = .int .i64 taken
  hu : u = .bool turned
  hcome : come = taken + M.lost + (M.l.length : Int)
  htk : 0 ≤ taken ∧ taken ≤ j
  hlost : M.lost ≤ j
  hsl : sent.length ≤ j
  hsent : ∀ s ∈ sent, ∃ a ∈ l, s = a.x
  hfrom : From turned sent M.l
  row : wr.ownsRow base 28 3 (.slice A' sent.length c') sent.length (cellsE sent)
  net : NS wr bn M base ((Value.slice A' sent.length c').ownBlock.toList)
  below : Below base w0 wr
def KRel (l : List Ac) (base bn : Nat) (w0 : World) (s c t u p : Value) (wr : World) : Prop :=
  ∃ j A' c' sent M come taken turned, KIn l base bn s c t u p w0 wr j A' c' sent M come taken turned
theorem KIn.rel {l : List Ac} {base bn : Nat} {s c t u p : Value} {w0 wr : World} {j : Nat} {A' : Option Addr} {c' : Nat} {sent : List Ed} {M : St} {come taken : Int} {turned : Bool} (h : KIn l base bn s c t u p w0 wr j A' c' sent M come taken turned) : KRel l base bn w0 s c t u p wr :=
  ⟨_, _, _, _, _, _, _, _, h⟩

set_option maxRecDepth 100000 in
set_option maxHeartbeats 8000000 in
theorem keeps_any (A : Option Addr) (c : Nat) (l : List Ac) (w : World) (hl' : l.length ≤ 140737488351232) (hRA : RA w (.slice A l.length c) l) (hin : ∀ d ∈ l, d.In) :
    Calls Try.prog 8 #[.slice A l.length c] w fun e w' => e = .returned (.bool true) ∧ Below w.heap.size w w' := by
  have hIn := Lib.hid hin; have HRA := Lib.hid hRA
  clear hin hRA
  go_enter Try.func8, Try.ntmps8
  go_wp2_with fail
  refine (known_any _).mono ?_
  rintro e w1 ⟨rfl, b1⟩
  replace b1 := Lib.hid b1
  go_wp2_with fail
  refine (new_ns _).mono ?_
  rintro e w2 ⟨rfl, h2, b2⟩
  replace h2 := Lib.hid (NS.old b1.out.size h2); replace b2 := Lib.hid (below_step b2 b1.out)
  clear b1
  generalize w1.heap.size + 1 = bn at *
  go_wp2_with fail
  refine (large_any A c l _ hl' (HRA.out.below b2.out) hIn.out).mono ?_
  rintro e w2' ⟨big, rfl, hbig, rfl⟩
  replace hbig := Lib.hid hbig
  cases big
  case true =>
    go_wp2
    go_ret
    exact ⟨rfl, b2.out⟩
  obtain ⟨hl60, hx8⟩ := hbig.out rfl
  replace hx8 := Lib.hid hx8
  clear hbig
  go_wp2
  go_loopw [5, 6, 7, 8, 9] (KRel l w.heap.size bn w) (fun s c t u p wr => l.length - (intOf p).toNat)
  case atStart =>
    exact KIn.rel (j := 0) (A' := none) (c' := 0) (sent := []) (M := St.new) (come := 0) (taken := 0) (turned := false) ⟨rfl, by omega, rfl, rfl, rfl, rfl, rfl, by omega, by simp [St.new], by simp, fun s hs => by simp at hs, fun d hd => by simp [St.new] at hd, ⟨rfl, .inl ⟨rfl, rfl⟩⟩, h2.out, b2.out⟩
  case round =>
    obtain ⟨j, A', c', sent, M, come, taken, turned, K⟩ := hrel
    obtain ⟨rfl, hj, rfl, rfl, rfl, rfl, hcome, htk, hlost, hsl, hsent, hfrom, hrow, hns, hbel⟩ := K
    replace hsent := Lib.hid hsent; replace hfrom := Lib.hid hfrom; replace hrow := Lib.hid hrow; replace hns := Lib.hid hns; replace hbel := Lib.hid hbel
    have hok := hns.out.ok
    have hlow := hok.low
    have hlen := hok.len
    replace hok := Lib.hid hok
    have hcb : 0 ≤ come ∧ come ≤ 2200 := by omega
    replace hcome := Lib.hid hcome
    by_cases he : j < l.length
    · obtain ⟨ga, oa, rfl⟩ := HRA.out.addr (fun e => by rw [e] at he; simp at he)
      obtain ⟨⟨kind, ai, ak, is, ⟨f, t, v, xs⟩⟩, hd, a0, a1, a2, a3, a4, a5, a6, arb⟩ := (HRA.out.below hbel.out).atE j he
      dsimp only [] at a0 a1 a2 a3 a4 a5 a6 arb
      obtain ⟨Ax, cx, rfl, -⟩ := id arb
      have hxl : xs.length ≤ 8000 := hx8.out _ (List.mem_of_getElem? hd)
      have hak : ak ≤ 9223372036854775807 := (hIn.out _ (List.mem_of_getElem? hd)).k.2
      have hmem := List.mem_of_getElem? hd
      replace arb := Lib.hid arb; replace hmem := Lib.hid hmem
      clear hd
      have N0 := Lib.hid (hns.out.below (below_new (.cells #[.int .i64 kind, .int .i64 ai, .int .i64 ak, .bool is, .int .i64 f, .int .i64 t, .slice Ax xs.length cx] 53) (Below.refl _ wr))); have B0 := Lib.hid (hbel.out.trans (below_new (.cells #[.int .i64 kind, .int .i64 ai, .int .i64 ak, .bool is, .int .i64 f, .int .i64 t, .slice Ax xs.length cx] 53) (Below.refl _ wr) |>.mono hbel.out.size)); have R0 := Lib.hid (row_on hrow.out (below_new (.cells #[.int .i64 kind, .int .i64 ai, .int .i64 ak, .bool is, .int .i64 f, .int .i64 t, .slice Ax xs.length cx] 53) (Below.refl _ wr)))
      have N00 := Lib.hid (hns.out.more (below_new (.cells #[.int .i64 kind, .int .i64 ai, .int .i64 ak, .bool is, .int .i64 f, .int .i64 t, .slice Ax xs.length cx] 53) (Below.refl _ wr)) [wr.heap.size] (by simp))
      have K0 := Lib.hid (heap_alloc_new wr (.cells #[.int .i64 kind, .int .i64 ai, .int .i64 ak, .bool is, .int .i64 f, .int .i64 t, .slice Ax xs.length cx] 53))
      clear hns hrow
      have hbytes : ∀ W', Below w.heap.size w W' → ∀ s ∈ sent, RB W' s.v s.xs := fun W' hb s hs => by
        obtain ⟨a, ha, rfl⟩ := hsent.out s hs
        exact (HRA.out.bytes a ha).below hb
      replace hbytes := Lib.hid hbytes
      have hsb : ∀ s ∈ sent, s.xs.length ≤ 8000 := fun s hs => by
        obtain ⟨a, ha, rfl⟩ := hsent.out s hs
        exact hx8.out a ha
      replace hsb := Lib.hid hsb
      by_cases hk3 : kind = 3
      · subst hk3
        rcases take_is M ai with ⟨d, M1, hM, hd, hl1, hls, hsub⟩ | hM
        · obtain ⟨df, dt, dxs⟩ := d
          go_wp2_with fail
          refine (N0.out.take' ai hM).mono ?_
          rintro e wt ⟨A1, c1, rfl, hob, h1, u1⟩
          dsimp only [] at hob
          replace h1 := h1.unmore
          have B1 := Lib.hid (B0.out.trans (u1.far B0.out.size)); replace h1 := Lib.hid h1; have row1 := Lib.hid (row_far R0.out u1)
          clear u1 N0 B0 R0 N00 K0
          have hfrom1 := Lib.hid (hfrom.out.mono hsub (fun s h => h))
          have hdin := Lib.hid (hfrom.out _ hd)
          have hdl : dxs.length ≤ 1500 := hok.out.each _ hd
          replace hob := Lib.hid hob
          clear hM hd hsub
          go_wp2_with fail
          have hbA := below_new (.cells #[.int .i64 df, .int .i64 dt, .slice A1 dxs.length c1] 28) (Below.refl _ wt)
          have h2 := Lib.hid (h1.out.below hbA); have B2 := Lib.hid (below_step hbA B1.out); have row2 := Lib.hid (row_on row1.out hbA)
          refine (among_any _ sent df dt A1 c1 dxs turned _ (RD.of_own row2.out (hbytes.out _ B2.out)) (hob.out.rb.below hbA) (by omega) (by omega) (fun s hs => by have := hsb.out s hs; omega) hdin.out).mono ?_
          rintro e wu ⟨rfl, bu⟩
          have h3 := Lib.hid (h2.out.below bu); have B3 := Lib.hid (below_step bu B2.out); have row3 := Lib.hid (row_on row2.out bu)
          clear hbA bu h1 B1 row1 h2 B2 row2 hob
          go_wp2_with fail
          refine h3.out.lost.mono ?_
          rintro e wl ⟨rfl, rfl⟩
          go_wp2_with fail
          refine h3.out.waiting.mono ?_
          rintro e w9 ⟨A9, c9, l9, rfl, hl9, -, b9⟩
          have hl9l : l9.length = M1.l.length := by have := congrArg List.length hl9; simpa using this
          have h9 := Lib.hid (h3.out.below b9); have B9 := Lib.hid (below_step b9 B3.out); have row9 := Lib.hid (row_on row3.out b9)
          rw [hl9l]
          clear hl9 hl9l b9 h3 B3 row3
          have hcm : come = (taken + 1) + M1.lost + (M1.l.length : Int) := by have := hcome.out; omega
          have hbb : (come != (taken + 1) + M1.lost + (M1.l.length : Int)) = false := by simp; exact hcm
          have hM1 : M1.l.length ≤ 2000 ∧ 0 ≤ M1.lost := ⟨h9.out.ok.len, h9.out.ok.low⟩
          replace hcm := Lib.hid hcm
          go_wp2
          go_roundw
          case rel =>
            exact KIn.rel (j := j + 1) (A' := A') (c' := c') (sent := sent) (M := M1) (come := come) (taken := (taken + 1)) (turned := turned) ⟨by simp, by omega, rfl, rfl, rfl, rfl, hcm.out, by omega, by omega, by first | omega | (simp; omega), hsent.out, hfrom1.out, row9.out, h9.out, B9.out⟩
          case measure => simp [intOf]; omega
        · obtain ⟨M1, rfl⟩ : ∃ M1, M1 = M := ⟨M, rfl⟩
          unfold zD at hM
          go_wp2_with fail
          refine (N0.out.take' ai hM).mono ?_
          rintro e wt ⟨A1, c1, rfl, hob, h1, u1⟩
          dsimp only [] at hob
          replace h1 := h1.unmore
          have B1 := Lib.hid (B0.out.trans (u1.far B0.out.size)); replace h1 := Lib.hid h1; have row1 := Lib.hid (row_far R0.out u1)
          clear u1 N0 B0 R0 N00 K0
          have hfrom1 := Lib.hid (hfrom.out.mono (fun x h => h) (fun s h => h))
          clear hM hob
          have hbA := below_new (.cells #[.int .i64 0, .int .i64 0, .slice A1 ([] : List UInt8).length c1] 28) (Below.refl _ wt)
          have h3 := Lib.hid (h1.out.below hbA); have B3 := Lib.hid (below_step hbA B1.out); have row3 := Lib.hid (row_on row1.out hbA)
          clear hbA h1 B1 row1
          go_wp2_with fail
          refine h3.out.lost.mono ?_
          rintro e wl ⟨rfl, rfl⟩
          go_wp2_with fail
          refine h3.out.waiting.mono ?_
          rintro e w9 ⟨A9, c9, l9, rfl, hl9, -, b9⟩
          have hl9l : l9.length = M1.l.length := by have := congrArg List.length hl9; simpa using this
          have h9 := Lib.hid (h3.out.below b9); have B9 := Lib.hid (below_step b9 B3.out); have row9 := Lib.hid (row_on row3.out b9)
          rw [hl9l]
          clear hl9 hl9l b9 h3 B3 row3
          have hcm : come = taken + M1.lost + (M1.l.length : Int) := by have := hcome.out; omega
          have hbb : (come != taken + M1.lost + (M1.l.length : Int)) = false := by simp; exact hcm
          have hM1 : M1.l.length ≤ 2000 ∧ 0 ≤ M1.lost := ⟨h9.out.ok.len, h9.out.ok.low⟩
          replace hcm := Lib.hid hcm
          go_wp2
          go_roundw
          case rel =>
            exact KIn.rel (j := j + 1) (A' := A') (c' := c') (sent := sent) (M := M1) (come := come) (taken := taken) (turned := turned) ⟨by simp, by omega, rfl, rfl, rfl, rfl, hcm.out, by omega, by omega, by first | omega | (simp; omega), hsent.out, hfrom1.out, row9.out, h9.out, B9.out⟩
          case measure => simp [intOf]; omega
      by_cases hk4 : kind = 4
      · subst hk4
        obtain ⟨r, M1, hM, hl1, hlo1, hlo2, hsub⟩ := drop_is M ai
        go_wp2_with fail
        refine (N0.out.drop' ai (by omega) hM).mono ?_
        rintro e wt ⟨rfl, h1, u1⟩
        have B1 := Lib.hid (B0.out.trans (u1.far B0.out.size)); replace h1 := Lib.hid h1; have row1 := Lib.hid (row_far R0.out u1)
        clear u1 N0 B0 R0 N00 K0
        have hfrom1 := Lib.hid (hfrom.out.mono hsub (fun s h => h))
        clear hM hsub
        go_wp2_with fail
        refine h1.out.lost.mono ?_
        rintro e wl ⟨rfl, rfl⟩
        go_wp2_with fail
        refine h1.out.waiting.mono ?_
        rintro e w9 ⟨A9, c9, l9, rfl, hl9, -, b9⟩
        have hl9l : l9.length = M1.l.length := by have := congrArg List.length hl9; simpa using this
        have h9 := Lib.hid (h1.out.below b9); have B9 := Lib.hid (below_step b9 B1.out); have row9 := Lib.hid (row_on row1.out b9)
        rw [hl9l]
        clear hl9 hl9l b9 h1 B1 row1
        have hcm : come = taken + M1.lost + (M1.l.length : Int) := by have := hcome.out; omega
        have hbb : (come != taken + M1.lost + (M1.l.length : Int)) = false := by simp; exact hcm
        have hM1 : M1.l.length ≤ 2000 ∧ 0 ≤ M1.lost := ⟨h9.out.ok.len, h9.out.ok.low⟩
        replace hcm := Lib.hid hcm
        go_wp2
        go_roundw
        case rel =>
          exact KIn.rel (j := j + 1) (A' := A') (c' := c') (sent := sent) (M := M1) (come := come) (taken := taken) (turned := turned) ⟨by simp, by omega, rfl, rfl, rfl, rfl, hcm.out, by omega, by omega, by first | omega | (simp; omega), hsent.out, hfrom1.out, row9.out, h9.out, B9.out⟩
        case measure => simp [intOf]; omega
      by_cases hk5 : kind = 5
      · subst hk5
        rcases copy_is M ai with ⟨M1, hM, hl1, hls, hsub⟩ | ⟨r, hr0, hM⟩
        · go_wp2_with fail
          refine (N0.out.copy' ai hM).mono ?_
          rintro e wt ⟨rfl, h1, u1⟩
          have B1 := Lib.hid (B0.out.trans (u1.far B0.out.size)); replace h1 := Lib.hid h1; have row1 := Lib.hid (row_far R0.out u1)
          clear u1 N0 B0 R0 N00 K0
          have hfrom1 := Lib.hid (hfrom.out.mono hsub (fun s h => h))
          clear hM hsub
          go_wp2_with fail
          refine h1.out.lost.mono ?_
          rintro e wl ⟨rfl, rfl⟩
          go_wp2_with fail
          refine h1.out.waiting.mono ?_
          rintro e w9 ⟨A9, c9, l9, rfl, hl9, -, b9⟩
          have hl9l : l9.length = M1.l.length := by have := congrArg List.length hl9; simpa using this
          have h9 := Lib.hid (h1.out.below b9); have B9 := Lib.hid (below_step b9 B1.out); have row9 := Lib.hid (row_on row1.out b9)
          rw [hl9l]
          clear hl9 hl9l b9 h1 B1 row1
          have hcm : (come + 1) = taken + M1.lost + (M1.l.length : Int) := by have := hcome.out; omega
          have hbb : ((come + 1) != taken + M1.lost + (M1.l.length : Int)) = false := by simp; exact hcm
          have hM1 : M1.l.length ≤ 2000 ∧ 0 ≤ M1.lost := ⟨h9.out.ok.len, h9.out.ok.low⟩
          replace hcm := Lib.hid hcm
          go_wp2
          go_roundw
          case rel =>
            exact KIn.rel (j := j + 1) (A' := A') (c' := c') (sent := sent) (M := M1) (come := (come + 1)) (taken := taken) (turned := turned) ⟨by simp, by omega, rfl, rfl, rfl, rfl, hcm.out, by omega, by omega, by first | omega | (simp; omega), hsent.out, hfrom1.out, row9.out, h9.out, B9.out⟩
          case measure => simp [intOf]; omega
        · obtain ⟨M1, rfl⟩ : ∃ M1, M1 = M := ⟨M, rfl⟩
          go_wp2_with fail
          refine (N0.out.copy' ai hM).mono ?_
          rintro e wt ⟨rfl, h1, u1⟩
          have B1 := Lib.hid (B0.out.trans (u1.far B0.out.size)); replace h1 := Lib.hid h1; have row1 := Lib.hid (row_far R0.out u1)
          clear u1 N0 B0 R0 N00 K0
          have hfrom1 := Lib.hid (hfrom.out.mono (fun x h => h) (fun s h => h))
          have hr1 : (r == 0) = false := by simp [hr0]
          clear hM hr0
          go_wp2_with fail
          refine h1.out.lost.mono ?_
          rintro e wl ⟨rfl, rfl⟩
          go_wp2_with fail
          refine h1.out.waiting.mono ?_
          rintro e w9 ⟨A9, c9, l9, rfl, hl9, -, b9⟩
          have hl9l : l9.length = M1.l.length := by have := congrArg List.length hl9; simpa using this
          have h9 := Lib.hid (h1.out.below b9); have B9 := Lib.hid (below_step b9 B1.out); have row9 := Lib.hid (row_on row1.out b9)
          rw [hl9l]
          clear hl9 hl9l b9 h1 B1 row1
          have hcm : come = taken + M1.lost + (M1.l.length : Int) := by have := hcome.out; omega
          have hbb : (come != taken + M1.lost + (M1.l.length : Int)) = false := by simp; exact hcm
          have hM1 : M1.l.length ≤ 2000 ∧ 0 ≤ M1.lost := ⟨h9.out.ok.len, h9.out.ok.low⟩
          replace hcm := Lib.hid hcm
          go_wp2
          go_roundw
          case rel =>
            exact KIn.rel (j := j + 1) (A' := A') (c' := c') (sent := sent) (M := M1) (come := come) (taken := taken) (turned := turned) ⟨by simp, by omega, rfl, rfl, rfl, rfl, hcm.out, by omega, by omega, by first | omega | (simp; omega), hsent.out, hfrom1.out, row9.out, h9.out, B9.out⟩
          case measure => simp [intOf]; omega
      by_cases hk6 : kind = 6
      · subst hk6
        rcases turn_is M ai ak with ⟨M1, hM, hl1, hls, hsub⟩ | ⟨r, hr0, hM⟩
        · go_wp2_with fail
          refine (N0.out.turn' ai ak hak hM).mono ?_
          rintro e wt ⟨rfl, h1, u1⟩
          have B1 := Lib.hid (B0.out.trans (u1.far B0.out.size)); replace h1 := Lib.hid h1; have row1 := Lib.hid (row_far R0.out u1)
          clear u1 N0 B0 R0 N00 K0
          have hfrom1 : From true sent M1.l := fun d hd => by
            rcases hsub d hd with h | ⟨y, hy, e1, e2, e3⟩
            · obtain ⟨s, hs, hm⟩ := hfrom.out d h
              exact ⟨s, hs, by simpa using hm.more true⟩
            · obtain ⟨s, hs, m1, m2, m3⟩ := hfrom.out y hy
              exact ⟨s, hs, m1.trans e1.symm, m2.trans e2.symm, .inr ⟨rfl, m3.elim (fun h => by rw [h, e3]) (fun h => by rw [h.2, e3])⟩⟩
          replace hfrom1 := Lib.hid hfrom1
          clear hM hsub
          go_wp2_with fail
          refine h1.out.lost.mono ?_
          rintro e wl ⟨rfl, rfl⟩
          go_wp2_with fail
          refine h1.out.waiting.mono ?_
          rintro e w9 ⟨A9, c9, l9, rfl, hl9, -, b9⟩
          have hl9l : l9.length = M1.l.length := by have := congrArg List.length hl9; simpa using this
          have h9 := Lib.hid (h1.out.below b9); have B9 := Lib.hid (below_step b9 B1.out); have row9 := Lib.hid (row_on row1.out b9)
          rw [hl9l]
          clear hl9 hl9l b9 h1 B1 row1
          have hcm : come = taken + M1.lost + (M1.l.length : Int) := by have := hcome.out; omega
          have hbb : (come != taken + M1.lost + (M1.l.length : Int)) = false := by simp; exact hcm
          have hM1 : M1.l.length ≤ 2000 ∧ 0 ≤ M1.lost := ⟨h9.out.ok.len, h9.out.ok.low⟩
          replace hcm := Lib.hid hcm
          go_wp2
          go_roundw
          case rel =>
            exact KIn.rel (j := j + 1) (A' := A') (c' := c') (sent := sent) (M := M1) (come := come) (taken := taken) (turned := true) ⟨by simp, by omega, rfl, rfl, rfl, rfl, hcm.out, by omega, by omega, by first | omega | (simp; omega), hsent.out, hfrom1.out, row9.out, h9.out, B9.out⟩
          case measure => simp [intOf]; omega
        · obtain ⟨M1, rfl⟩ : ∃ M1, M1 = M := ⟨M, rfl⟩
          go_wp2_with fail
          refine (N0.out.turn' ai ak hak hM).mono ?_
          rintro e wt ⟨rfl, h1, u1⟩
          have B1 := Lib.hid (B0.out.trans (u1.far B0.out.size)); replace h1 := Lib.hid h1; have row1 := Lib.hid (row_far R0.out u1)
          clear u1 N0 B0 R0 N00 K0
          have hfrom1 := Lib.hid (hfrom.out.mono (fun x h => h) (fun s h => h))
          have hr1 : (r == 0) = false := by simp [hr0]
          clear hM hr0
          go_wp2_with fail
          refine h1.out.lost.mono ?_
          rintro e wl ⟨rfl, rfl⟩
          go_wp2_with fail
          refine h1.out.waiting.mono ?_
          rintro e w9 ⟨A9, c9, l9, rfl, hl9, -, b9⟩
          have hl9l : l9.length = M1.l.length := by have := congrArg List.length hl9; simpa using this
          have h9 := Lib.hid (h1.out.below b9); have B9 := Lib.hid (below_step b9 B1.out); have row9 := Lib.hid (row_on row1.out b9)
          rw [hl9l]
          clear hl9 hl9l b9 h1 B1 row1
          have hcm : come = taken + M1.lost + (M1.l.length : Int) := by have := hcome.out; omega
          have hbb : (come != taken + M1.lost + (M1.l.length : Int)) = false := by simp; exact hcm
          have hM1 : M1.l.length ≤ 2000 ∧ 0 ≤ M1.lost := ⟨h9.out.ok.len, h9.out.ok.low⟩
          replace hcm := Lib.hid hcm
          go_wp2
          go_roundw
          case rel =>
            exact KIn.rel (j := j + 1) (A' := A') (c' := c') (sent := sent) (M := M1) (come := come) (taken := taken) (turned := turned) ⟨by simp, by omega, rfl, rfl, rfl, rfl, hcm.out, by omega, by omega, by first | omega | (simp; omega), hsent.out, hfrom1.out, row9.out, h9.out, B9.out⟩
          case measure => simp [intOf]; omega
      by_cases hk7 : kind = 7
      · subst hk7
        obtain ⟨r, M1, hM, hl1, hls, hsub⟩ := swap_is M ai ak
        go_wp2_with fail
        refine (N0.out.swap' ai ak hM).mono ?_
        rintro e wt ⟨rfl, h1, u1⟩
        have B1 := Lib.hid (B0.out.trans (u1.far B0.out.size)); replace h1 := Lib.hid h1; have row1 := Lib.hid (row_far R0.out u1)
        clear u1 N0 B0 R0 N00 K0
        have hfrom1 := Lib.hid (hfrom.out.mono hsub (fun s h => h))
        clear hM hsub
        go_wp2_with fail
        refine h1.out.lost.mono ?_
        rintro e wl ⟨rfl, rfl⟩
        go_wp2_with fail
        refine h1.out.waiting.mono ?_
        rintro e w9 ⟨A9, c9, l9, rfl, hl9, -, b9⟩
        have hl9l : l9.length = M1.l.length := by have := congrArg List.length hl9; simpa using this
        have h9 := Lib.hid (h1.out.below b9); have B9 := Lib.hid (below_step b9 B1.out); have row9 := Lib.hid (row_on row1.out b9)
        rw [hl9l]
        clear hl9 hl9l b9 h1 B1 row1
        have hcm : come = taken + M1.lost + (M1.l.length : Int) := by have := hcome.out; omega
        have hbb : (come != taken + M1.lost + (M1.l.length : Int)) = false := by simp; exact hcm
        have hM1 : M1.l.length ≤ 2000 ∧ 0 ≤ M1.lost := ⟨h9.out.ok.len, h9.out.ok.low⟩
        replace hcm := Lib.hid hcm
        go_wp2
        go_roundw
        case rel =>
          exact KIn.rel (j := j + 1) (A' := A') (c' := c') (sent := sent) (M := M1) (come := come) (taken := taken) (turned := turned) ⟨by simp, by omega, rfl, rfl, rfl, rfl, hcm.out, by omega, by omega, by first | omega | (simp; omega), hsent.out, hfrom1.out, row9.out, h9.out, B9.out⟩
        case measure => simp [intOf]; omega
      by_cases hk8 : kind = 8
      · subst hk8
        obtain ⟨r, M1, hM, hl1, hls⟩ := cut_is M ai ak is
        go_wp2_with fail
        refine (N0.out.cut' ai ak is hM).mono ?_
        rintro e wt ⟨rfl, h1, u1⟩
        have B1 := Lib.hid (B0.out.trans (u1.far B0.out.size)); replace h1 := Lib.hid h1; have row1 := Lib.hid (row_far R0.out u1)
        clear u1 N0 B0 R0 N00 K0
        have hfrom1 := Lib.hid (From.mono (l' := M1.l) (sent' := sent) hfrom.out (fun x h => by rwa [hl1] at h) (fun s h => h))
        replace hl1 : M1.l.length = M.l.length := by rw [hl1]
        clear hM
        go_wp2_with fail
        refine h1.out.lost.mono ?_
        rintro e wl ⟨rfl, rfl⟩
        go_wp2_with fail
        refine h1.out.waiting.mono ?_
        rintro e w9 ⟨A9, c9, l9, rfl, hl9, -, b9⟩
        have hl9l : l9.length = M1.l.length := by have := congrArg List.length hl9; simpa using this
        have h9 := Lib.hid (h1.out.below b9); have B9 := Lib.hid (below_step b9 B1.out); have row9 := Lib.hid (row_on row1.out b9)
        rw [hl9l]
        clear hl9 hl9l b9 h1 B1 row1
        have hcm : come = taken + M1.lost + (M1.l.length : Int) := by have := hcome.out; omega
        have hbb : (come != taken + M1.lost + (M1.l.length : Int)) = false := by simp; exact hcm
        have hM1 : M1.l.length ≤ 2000 ∧ 0 ≤ M1.lost := ⟨h9.out.ok.len, h9.out.ok.low⟩
        replace hcm := Lib.hid hcm
        go_wp2
        go_roundw
        case rel =>
          exact KIn.rel (j := j + 1) (A' := A') (c' := c') (sent := sent) (M := M1) (come := come) (taken := taken) (turned := turned) ⟨by simp, by omega, rfl, rfl, rfl, rfl, hcm.out, by omega, by omega, by first | omega | (simp; omega), hsent.out, hfrom1.out, row9.out, h9.out, B9.out⟩
        case measure => simp [intOf]; omega
      have g3 : (kind == 3) = false := by simp [hk3]
      have g4 : (kind == 4) = false := by simp [hk4]
      have g5 : (kind == 5) = false := by simp [hk5]
      have g6 : (kind == 6) = false := by simp [hk6]
      have g7 : (kind == 7) = false := by simp [hk7]
      have g8 : (kind == 8) = false := by simp [hk8]
      clear hk3 hk4 hk5 hk6 hk7 hk8
      rcases send_is M (f, t, xs) with ⟨M1, hM, hl1, hlo1, hlo2, hsub⟩ | ⟨r, hr0, hM⟩
      · go_wp2_with fail
        refine (N00.out.send' (f, t, xs) _ (arb.out.alloc _) (by omega) hM).mono ?_
        rintro e ws ⟨rfl, h1, u1⟩
        have k1 := (u1.block wr.heap.size (by simp) (fun hf => hf.2 (by simp))).trans K0.out
        have q4 : ws.cell? ⟨wr.heap.size, 4, none⟩ = some (.int .i64 f) := cell_of k1 4 rfl
        have q5 : ws.cell? ⟨wr.heap.size, 5, none⟩ = some (.int .i64 t) := cell_of k1 5 rfl
        have q6 : ws.cell? ⟨wr.heap.size, 6, none⟩ = some (.slice Ax xs.length cx) := cell_of k1 6 rfl
        have B1 := Lib.hid (B0.out.trans (u1.far B0.out.size)); have row1 := row_far R0.out u1.far_less; replace h1 := Lib.hid h1.unmore
        have hfrom1 : From turned (sent ++ [⟨f, t, .slice Ax xs.length cx, xs⟩]) M1.l := fun d hd => by
          rcases hsub d hd with h | rfl
          · obtain ⟨s, hs, hm⟩ := hfrom.out d h
            exact ⟨s, by simp [hs], hm⟩
          · exact ⟨_, List.mem_append_right _ (List.mem_singleton.2 rfl), rfl, rfl, .inl rfl⟩
        have hsent1 : ∀ s ∈ sent ++ [⟨f, t, .slice Ax xs.length cx, xs⟩], ∃ a ∈ l, s = a.x := fun s hs => by
          rcases List.mem_append.1 hs with hs | hs
          · exact hsent.out s hs
          · exact ⟨_, hmem.out, List.mem_singleton.1 hs⟩
        obtain ⟨i0, hi, hz0, hz1, hz2⟩ := info_parts info28
        have hrow5 := row_on row1 (below_new (.cells #[.int .i64 f, .int .i64 t, .slice Ax xs.length cx] 28) (Below.refl _ ws))
        have hnews : ∀ j u, ([.int .i64 f, .int .i64 t, .slice Ax xs.length cx] : List Value)[j]? = some u → (ws.alloc (.cells #[.int .i64 f, .int .i64 t, .slice Ax xs.length cx] 28)).cell? ((⟨ws.heap.size, 0, none⟩ : Addr).add j) = some u :=
          World.news_of_block (cs := #[.int .i64 f, .int .i64 t, .slice Ax xs.length cx]) (heap_alloc_new ws _)
        have hsz5 : w.heap.size ≤ (ws.alloc (.cells #[.int .i64 f, .int .i64 t, .slice Ax xs.length cx] 28)).heap.size := by have := B1.out.size; simp; omega
        have hh4 := Lib.hid (h1.out.below (below_new (.cells #[.int .i64 f, .int .i64 t, .slice Ax xs.length cx] 28) (Below.refl _ _)))
        have HNW := Lib.hid hnews; have HR5 := Lib.hid hrow5; have HSZ := Lib.hid hsz5
        replace hfrom1 := Lib.hid hfrom1; replace hsent1 := Lib.hid hsent1
        clear hM hsub u1 k1 row1 hrow5 hnews hsz5 N0 B0 R0 N00 K0
        go_wp2_with (refine wpList_append_lies _ rfl _ _ 22 rfl w.heap.size 28 i0 (.agg #[.int .i64 0, .int .i64 0, .slice none 0 0]) 3 40 Try.underlying22 hi hz0 hz1 hz2 rfl (by decide) (.slice A' sent.length c') sent.length (cellsE sent) (by rfl) HR5.out ⟨ws.heap.size, 0, none⟩ 1 1 [.int .i64 f, .int .i64 t, .slice Ax xs.length cx] (by rfl) rfl HNW.out (by simp [Value.oneCell']) (by decide) (by simp only [maxLen]; omega) (by omega) HSZ.out _ rfl ?_; intro g c5 w5 hown hgr hor hlt)
        have hbase : ∀ k, (Value.slice A' sent.length c').ownBlock = some k → w.heap.size ≤ k := fun k hk => by
          rcases HR5.out.2 with ⟨e, _⟩ | ⟨g, cap, cur, e, h0, _⟩
          · rw [e] at hk; simp [Value.ownBlock] at hk
          · rw [e] at hk
            simp only [Value.ownBlock, Option.some.injEq] at hk
            subst hk
            exact h0
        have h6 : NS w5 bn M1 w.heap.size ((Value.slice (some ⟨g, 0, none⟩) (sent.length + 1) c5).ownBlock.toList) := by
          have := NS.grown (Kp := []) (by simpa using hh4.out) hgr hor hlt
          simpa [Value.ownBlock] using this
        replace h6 := Lib.hid h6
        have B6 := Lib.hid ((below_new _ B1.out).grown hgr HSZ.out hbase)
        have row6 := Lib.hid hown
        clear hown hgr hor hlt hbase hh4 B1 h1 HNW HR5 q4 q5 q6
        go_wp2_with fail
        refine h6.out.lost.mono ?_
        rintro e wl ⟨rfl, rfl⟩
        go_wp2_with fail
        refine h6.out.waiting.mono ?_
        rintro e w9 ⟨A9, c9, l9, rfl, hl9, -, b9⟩
        have hl9l : l9.length = M1.l.length := by have := congrArg List.length hl9; simpa using this
        have h9 := Lib.hid (h6.out.below b9); have B9 := Lib.hid (below_step b9 B6.out); have row9 := Lib.hid (row_on row6.out b9)
        rw [hl9l]
        clear hl9 hl9l b9 h6 B6 row6
        have hcm : (come + 1) = taken + M1.lost + (M1.l.length : Int) := by have := hcome.out; omega
        have hbb : ((come + 1) != taken + M1.lost + (M1.l.length : Int)) = false := by simp; exact hcm
        have hM1 : M1.l.length ≤ 2000 ∧ 0 ≤ M1.lost := ⟨h9.out.ok.len, h9.out.ok.low⟩
        replace hcm := Lib.hid hcm
        go_wp2
        go_roundw
        case rel =>
          exact KIn.rel (j := j + 1) (A' := some ⟨g, 0, none⟩) (c' := c5) (sent := (sent ++ [⟨f, t, .slice Ax xs.length cx, xs⟩])) (M := M1) (come := (come + 1)) (taken := taken) (turned := turned) ⟨by simp, by omega, by simp, rfl, rfl, rfl, hcm.out, by omega, by omega, by first | omega | (simp; omega), hsent1.out, hfrom1.out, by simpa [cellsE, Ed.cells] using row9.out, by simpa using h9.out, B9.out⟩
        case measure => simp [intOf]; omega
      · obtain ⟨M1, rfl⟩ : ∃ M1, M1 = M := ⟨M, rfl⟩
        go_wp2_with fail
        refine (N0.out.send' (f, t, xs) _ (arb.out.alloc _) (by omega) hM).mono ?_
        rintro e wt ⟨rfl, h1, u1⟩
        have B1 := Lib.hid (B0.out.trans (u1.far B0.out.size)); replace h1 := Lib.hid h1; have row1 := Lib.hid (row_far R0.out u1)
        clear u1 N0 B0 R0 N00 K0
        have hfrom1 := Lib.hid (hfrom.out.mono (fun x h => h) (fun s h => h))
        have hr1 : (r == 0) = false := by simp [hr0]
        clear hM hr0
        go_wp2_with fail
        refine h1.out.lost.mono ?_
        rintro e wl ⟨rfl, rfl⟩
        go_wp2_with fail
        refine h1.out.waiting.mono ?_
        rintro e w9 ⟨A9, c9, l9, rfl, hl9, -, b9⟩
        have hl9l : l9.length = M1.l.length := by have := congrArg List.length hl9; simpa using this
        have h9 := Lib.hid (h1.out.below b9); have B9 := Lib.hid (below_step b9 B1.out); have row9 := Lib.hid (row_on row1.out b9)
        rw [hl9l]
        clear hl9 hl9l b9 h1 B1 row1
        have hcm : come = taken + M1.lost + (M1.l.length : Int) := by have := hcome.out; omega
        have hbb : (come != taken + M1.lost + (M1.l.length : Int)) = false := by simp; exact hcm
        have hM1 : M1.l.length ≤ 2000 ∧ 0 ≤ M1.lost := ⟨h9.out.ok.len, h9.out.ok.low⟩
        replace hcm := Lib.hid hcm
        go_wp2
        go_roundw
        case rel =>
          exact KIn.rel (j := j + 1) (A' := A') (c' := c') (sent := sent) (M := M1) (come := come) (taken := taken) (turned := turned) ⟨by simp, by omega, rfl, rfl, rfl, rfl, hcm.out, by omega, by omega, by first | omega | (simp; omega), hsent.out, hfrom1.out, row9.out, h9.out, B9.out⟩
        case measure => simp [intOf]; omega
    · obtain rfl : j = l.length := by omega
      clear he
      go_wp2
      go_ret
      exact ⟨rfl, hbel.out⟩
end Go.Proofs.Ytddndmhjkjanlaa

