/- NetCut: the walk. Condition: the arguments are int64. -/
import Derived.Test.YtddndmhjkjanlaaNv
namespace Go.Proofs.Ytddndmhjkjanlaa
open Go.RowKit Go.Shelf

theorem mk_comm (a b : Int) : mk a b = mk b a := by simp [mk, Int.min_comm, Int.max_comm]
theorem mk_same (a b c d : Int) : mk c d = mk a b ↔ (a = c ∧ b = d) ∨ (a = d ∧ b = c) := by
  unfold mk
  constructor
  · intro h
    injection h with h1 h2
    omega
  · rintro (⟨rfl, rfl⟩ | ⟨rfl, rfl⟩)
    · rfl
    · rw [Int.min_comm, Int.max_comm]
theorem endB_pick (i : Int) : endB (pick i 64) = true := by
  have := pick_range i 64 (by omega)
  simp [endB]; omega
theorem send_lost (A B : Int) (l : List Dg) (n : Int) (hA : endB A = true) (hB : endB B = true) (x : UInt8) (K : List (Int × Int)) (hK : mk A B ∈ K) : St.send ⟨l, K, n⟩ (A, B, [x]) = (0, ⟨l, K, n + 1⟩) := by
  simp [St.send, hA, hB, hK]
theorem send_in (A B : Int) (l : List Dg) (n : Int) (hA : endB A = true) (hB : endB B = true) (x : UInt8) (K : List (Int × Int)) (hK : ¬ mk A B ∈ K) (hl : l.length < 2000) : St.send ⟨l, K, n⟩ (A, B, [x]) = (0, ⟨l ++ [(A, B, [x])], K, n⟩) := by
  have : ¬ 2000 ≤ l.length := by omega
  simp [St.send, hA, hB, hK, this]
theorem firstD_last (l : List Dg) (d : Dg) : 0 ≤ firstD (l ++ [d]) d.2.1 := by
  unfold firstD
  rcases h : (l ++ [d]).findIdx? (fun x => x.2.1 == d.2.1) with _ | i
  · rw [List.findIdx?_eq_none_iff] at h
    have := h d (by simp)
    simp at this
  · rw [h]
    exact Int.natCast_nonneg i

set_option maxRecDepth 100000 in
set_option maxHeartbeats 2000000 in
theorem cut_any (a b c d : Int) (ha : -9223372036854775808 ≤ a ∧ a ≤ 9223372036854775807) (hb : -9223372036854775808 ≤ b ∧ b ≤ 9223372036854775807) (hc : -9223372036854775808 ≤ c ∧ c ≤ 9223372036854775807) (hd : -9223372036854775808 ≤ d ∧ d ≤ 9223372036854775807) (w : World) :
    Calls Try.prog 4 #[.int .i64 a, .int .i64 b, .int .i64 c, .int .i64 d] w fun e w' => e = .returned (.bool true) ∧ Below w.heap.size w w' := by
  have HA := Lib.hid ha; have HB := Lib.hid hb; have HC := Lib.hid hc; have HD := Lib.hid hd
  clear ha hb hc hd
  go_enter Try.func4, Try.ntmps4
  go_wp2_with fail
  refine (awake_any _).mono ?_
  rintro e w1 ⟨rfl, b1⟩
  have b1 := Lib.hid b1
  go_wp2_with fail
  refine (new_ns _).mono ?_
  rintro e w2 ⟨rfl, h2, b2⟩
  have h2 := Lib.hid (NS.old b1.out.size h2); have b2 := Lib.hid (below_step b2 b1.out)
  clear b1
  generalize w1.heap.size + 1 = bn at *
  go_wp2_with fail
  refine (pick_any a 64 _ HA.out (by omega)).mono ?_
  rintro e w2' ⟨rfl, rfl⟩
  go_wp2_with fail
  refine (pick_any b 64 _ HB.out (by omega)).mono ?_
  rintro e w2' ⟨rfl, rfl⟩
  go_wp2_with fail
  refine (pick_any c 64 _ HC.out (by omega)).mono ?_
  rintro e w2' ⟨rfl, rfl⟩
  go_wp2_with fail
  refine (pick_any d 64 _ HD.out (by omega)).mono ?_
  rintro e w2' ⟨rfl, rfl⟩
  have eA := Lib.hid (endB_pick a); have eB := Lib.hid (endB_pick b); have eC := Lib.hid (endB_pick c); have eD := Lib.hid (endB_pick d)
  generalize pick a 64 = A at *
  generalize pick b 64 = B at *
  generalize pick c 64 = C at *
  generalize pick d 64 = D at *
  clear HA HB HC HD
  go_wp2_with fail
  refine (h2.out.cut' A B true (r := 0) (M' := ⟨[], [mk A B], 0⟩) (by simp [St.cut, St.new, eA.out, eB.out])).mono ?_
  rintro e w3 ⟨rfl, h3, u3⟩
  have b3 := Lib.hid (b2.out.trans (u3.far b2.out.size)); have h3 := Lib.hid h3
  clear u3 h2 b2
  go_wp2_with fail
  refine (one_any A B 1 _).mono ?_
  rintro e w4 ⟨rfl, r4, b4⟩
  have r4 := Lib.hid r4; have b4 := Lib.hid b4
  go_wp2_with fail
  refine ((h3.out.below b4.out).send' (A, B, [1]) _ r4.out (by simp) (M' := ⟨[], [mk A B], 1⟩) (send_lost A B _ _ eA.out eB.out 1 _ (by simp))).mono ?_
  rintro e w5 ⟨rfl, h5, u5⟩
  have b5 := Lib.hid (below_step b4.out b3.out |>.trans (u5.far (by have := b3.out.size; have := b4.out.size; omega))); have h5 := Lib.hid h5
  clear u5 h3 b3 r4 b4
  go_wp2_with fail
  refine (one_any B A 1 _).mono ?_
  rintro e w6 ⟨rfl, r6, b6⟩
  have r6 := Lib.hid r6; have b6 := Lib.hid b6
  go_wp2_with fail
  refine ((h5.out.below b6.out).send' (B, A, [1]) _ r6.out (by simp) (M' := ⟨[], [mk A B], 2⟩) (send_lost B A _ _ eB.out eA.out 1 _ (by rw [mk_comm]; simp))).mono ?_
  rintro e w7 ⟨rfl, h7, u7⟩
  have b7 := Lib.hid (below_step b6.out b5.out |>.trans (u7.far (by have := b5.out.size; have := b6.out.size; omega))); have h7 := Lib.hid h7
  clear u7 h5 b5 r6 b6
  go_wp2_with fail
  refine h7.out.lost.mono ?_
  rintro e w7' ⟨rfl, rfl⟩
  go_wp2_with fail
  refine h7.out.waiting.mono ?_
  rintro e w8 ⟨A8, c8, l8, rfl, hl8, -, b8⟩
  obtain rfl : l8 = [] := by simpa using hl8
  have h8 := Lib.hid (h7.out.below b8); have b8 := Lib.hid (below_step b8 b7.out)
  clear h7 b7 hl8
  go_wp2_with fail
  refine (one_any C D 1 _).mono ?_
  rintro e w9 ⟨rfl, r9, b9⟩
  have r9 := Lib.hid r9; have b9 := Lib.hid b9
  go_wp2_with fail
  by_cases hS : mk C D = mk A B
  · refine ((h8.out.below b9.out).send' (C, D, [1]) _ r9.out (by simp) (r := 0) (M' := ⟨[], [mk A B], 3⟩) (send_lost C D _ _ eC.out eD.out 1 _ (by rw [hS]; simp))).mono ?_
    rintro e w10 ⟨rfl, h10, u10⟩
    have b10 := Lib.hid (below_step b9.out b8.out |>.trans (u10.far (by have := b8.out.size; have := b9.out.size; omega))); have h10 := Lib.hid h10
    clear u10 h8 b8 r9 b9
    have hS := Lib.hid hS
    have hcomb : (A = C ∧ B = D) ∨ (¬ A = C ∧ A = D ∧ B = C) := by
      rcases (mk_same A B C D).1 hS.out with h | h
      · exact .inl h
      · by_cases h1 : A = C
        · exact .inl ⟨h1, by omega⟩
        · exact .inr ⟨h1, h⟩
    rcases hcomb with ⟨h1, h2⟩ | ⟨h1, h2, h3⟩
    · have f1 : (A == C) = true := by simp [h1]
      have f2 : (B == D) = true := by simp [h2]
      clear h1 h2
      go_wp2_with fail
      refine h10.out.lost.mono ?_
      rintro e w10' ⟨rfl, rfl⟩
      go_wp2_with fail
      refine h10.out.waiting.mono ?_
      rintro e w11 ⟨A11, c11, l11, rfl, hl11, -, b11⟩
      have hl11 : l11.length = 0 := by have := congrArg List.length hl11; simpa using this
      have h11 := Lib.hid (h10.out.below b11); have b11 := Lib.hid (below_step b11 b10.out)
      clear h10 b10
      rw [hl11]
      clear hl11
      go_wp2_with fail
      refine (h11.out.cut' B A false (r := 0) (M' := ⟨[], [], 3⟩) (by simp [St.cut, eA.out, eB.out, mk_comm B A])).mono ?_
      rintro e w12 ⟨rfl, h12, u12⟩
      have b12 := Lib.hid (b11.out.trans (u12.far b11.out.size)); have h12 := Lib.hid h12
      clear u12 h11 b11
      go_wp2_with fail
      refine (one_any A B 1 _).mono ?_
      rintro e w13 ⟨rfl, r13, b13⟩
      have r13 := Lib.hid r13; have b13 := Lib.hid b13
      go_wp2_with fail
      refine ((h12.out.below b13.out).send' (A, B, [1]) _ r13.out (by simp) (send_in A B [] _ eA.out eB.out 1 _ (by simp) (by simp))).mono ?_
      rintro e w14 ⟨rfl, h14, u14⟩
      have b14 := Lib.hid (below_step b13.out b12.out |>.trans (u14.far (by have := b12.out.size; have := b13.out.size; omega))); have h14 := Lib.hid h14
      clear u14 h12 b12 r13 b13
      have hf : 0 ≤ firstD ([] ++ [(A, B, [1])]) B := firstD_last [] (A, B, [1])
      obtain ⟨ff, hff⟩ : ∃ ff, firstD ([] ++ [(A, B, [1])]) B = ff := ⟨_, rfl⟩
      rw [hff] at hf
      have hff := Lib.hid hff
      go_wp2_with fail
      refine (h14.out.first' B (r := ff) hff.out).mono ?_
      rintro e w15 ⟨rfl, b15⟩
      have b15 := Lib.hid (below_step b15 b14.out)
      clear h14 b14
      go_wp2
      go_ret
      exact ⟨rfl, b15.out⟩
    · have f1 : (A == C) = false := by simp [h1]
      have f2 : (A == D) = true := by simp [h2]
      have f3 : (B == C) = true := by simp [h3]
      clear h1 h2 h3
      go_wp2_with fail
      refine h10.out.lost.mono ?_
      rintro e w10' ⟨rfl, rfl⟩
      go_wp2_with fail
      refine h10.out.waiting.mono ?_
      rintro e w11 ⟨A11, c11, l11, rfl, hl11, -, b11⟩
      have hl11 : l11.length = 0 := by have := congrArg List.length hl11; simpa using this
      have h11 := Lib.hid (h10.out.below b11); have b11 := Lib.hid (below_step b11 b10.out)
      clear h10 b10
      rw [hl11]
      clear hl11
      go_wp2_with fail
      refine (h11.out.cut' B A false (r := 0) (M' := ⟨[], [], 3⟩) (by simp [St.cut, eA.out, eB.out, mk_comm B A])).mono ?_
      rintro e w12 ⟨rfl, h12, u12⟩
      have b12 := Lib.hid (b11.out.trans (u12.far b11.out.size)); have h12 := Lib.hid h12
      clear u12 h11 b11
      go_wp2_with fail
      refine (one_any A B 1 _).mono ?_
      rintro e w13 ⟨rfl, r13, b13⟩
      have r13 := Lib.hid r13; have b13 := Lib.hid b13
      go_wp2_with fail
      refine ((h12.out.below b13.out).send' (A, B, [1]) _ r13.out (by simp) (send_in A B [] _ eA.out eB.out 1 _ (by simp) (by simp))).mono ?_
      rintro e w14 ⟨rfl, h14, u14⟩
      have b14 := Lib.hid (below_step b13.out b12.out |>.trans (u14.far (by have := b12.out.size; have := b13.out.size; omega))); have h14 := Lib.hid h14
      clear u14 h12 b12 r13 b13
      have hf : 0 ≤ firstD ([] ++ [(A, B, [1])]) B := firstD_last [] (A, B, [1])
      obtain ⟨ff, hff⟩ : ∃ ff, firstD ([] ++ [(A, B, [1])]) B = ff := ⟨_, rfl⟩
      rw [hff] at hf
      have hff := Lib.hid hff
      go_wp2_with fail
      refine (h14.out.first' B (r := ff) hff.out).mono ?_
      rintro e w15 ⟨rfl, b15⟩
      have b15 := Lib.hid (below_step b15 b14.out)
      clear h14 b14
      go_wp2
      go_ret
      exact ⟨rfl, b15.out⟩
  · refine ((h8.out.below b9.out).send' (C, D, [1]) _ r9.out (by simp) (r := 0) (M' := ⟨[(C, D, [1])], [mk A B], 2⟩) (send_in C D [] _ eC.out eD.out 1 _ (by simpa using hS) (by simp))).mono ?_
    rintro e w10 ⟨rfl, h10, u10⟩
    have b10 := Lib.hid (below_step b9.out b8.out |>.trans (u10.far (by have := b8.out.size; have := b9.out.size; omega))); have h10 := Lib.hid h10
    clear u10 h8 b8 r9 b9
    have hS := Lib.hid hS
    have hno := fun h => hS.out ((mk_same A B C D).2 h)
    have hcomb : (A = C ∧ ¬ B = D ∧ A = D ∧ ¬ B = C) ∨ (A = C ∧ ¬ B = D ∧ ¬ A = D) ∨ (¬ A = C ∧ A = D ∧ ¬ B = C) ∨ (¬ A = C ∧ ¬ A = D) := by
      by_cases h1 : A = C
      · have h2 : ¬ B = D := fun h => hno (.inl ⟨h1, h⟩)
        by_cases h3 : A = D
        · exact .inl ⟨h1, h2, h3, fun h => hno (.inr ⟨h3, h⟩)⟩
        · exact .inr (.inl ⟨h1, h2, h3⟩)
      · by_cases h3 : A = D
        · exact .inr (.inr (.inl ⟨h1, h3, fun h => hno (.inr ⟨h3, h⟩)⟩))
        · exact .inr (.inr (.inr ⟨h1, h3⟩))
    clear hno
    rcases hcomb with ⟨h1, h2, h3, h4⟩ | ⟨h1, h2, h3⟩ | ⟨h1, h2, h3⟩ | ⟨h1, h2⟩
    · have f1 : (A == C) = true := by simp [h1]
      have f2 : (B == D) = false := by simp [h2]
      have f3 : (A == D) = true := by simp [h3]
      have f4 : (B == C) = false := by simp [h4]
      clear h1 h2 h3 h4
      go_wp2_with fail
      refine h10.out.lost.mono ?_
      rintro e w10' ⟨rfl, rfl⟩
      go_wp2_with fail
      refine h10.out.waiting.mono ?_
      rintro e w11 ⟨A11, c11, l11, rfl, hl11, -, b11⟩
      have hl11 : l11.length = 1 := by have := congrArg List.length hl11; simpa using this
      have h11 := Lib.hid (h10.out.below b11); have b11 := Lib.hid (below_step b11 b10.out)
      clear h10 b10
      rw [hl11]
      clear hl11
      go_wp2_with fail
      refine (h11.out.cut' B A false (r := 0) (M' := ⟨[(C, D, [1])], [], 2⟩) (by simp [St.cut, eA.out, eB.out, mk_comm B A])).mono ?_
      rintro e w12 ⟨rfl, h12, u12⟩
      have b12 := Lib.hid (b11.out.trans (u12.far b11.out.size)); have h12 := Lib.hid h12
      clear u12 h11 b11
      go_wp2_with fail
      refine (one_any A B 1 _).mono ?_
      rintro e w13 ⟨rfl, r13, b13⟩
      have r13 := Lib.hid r13; have b13 := Lib.hid b13
      go_wp2_with fail
      refine ((h12.out.below b13.out).send' (A, B, [1]) _ r13.out (by simp) (send_in A B [(C, D, [1])] _ eA.out eB.out 1 _ (by simp) (by simp))).mono ?_
      rintro e w14 ⟨rfl, h14, u14⟩
      have b14 := Lib.hid (below_step b13.out b12.out |>.trans (u14.far (by have := b12.out.size; have := b13.out.size; omega))); have h14 := Lib.hid h14
      clear u14 h12 b12 r13 b13
      have hf : 0 ≤ firstD ([(C, D, [1])] ++ [(A, B, [1])]) B := firstD_last [(C, D, [1])] (A, B, [1])
      obtain ⟨ff, hff⟩ : ∃ ff, firstD ([(C, D, [1])] ++ [(A, B, [1])]) B = ff := ⟨_, rfl⟩
      rw [hff] at hf
      have hff := Lib.hid hff
      go_wp2_with fail
      refine (h14.out.first' B (r := ff) hff.out).mono ?_
      rintro e w15 ⟨rfl, b15⟩
      have b15 := Lib.hid (below_step b15 b14.out)
      clear h14 b14
      go_wp2
      go_ret
      exact ⟨rfl, b15.out⟩
    · have f1 : (A == C) = true := by simp [h1]
      have f2 : (B == D) = false := by simp [h2]
      have f3 : (A == D) = false := by simp [h3]
      clear h1 h2 h3
      go_wp2_with fail
      refine h10.out.lost.mono ?_
      rintro e w10' ⟨rfl, rfl⟩
      go_wp2_with fail
      refine h10.out.waiting.mono ?_
      rintro e w11 ⟨A11, c11, l11, rfl, hl11, -, b11⟩
      have hl11 : l11.length = 1 := by have := congrArg List.length hl11; simpa using this
      have h11 := Lib.hid (h10.out.below b11); have b11 := Lib.hid (below_step b11 b10.out)
      clear h10 b10
      rw [hl11]
      clear hl11
      go_wp2_with fail
      refine (h11.out.cut' B A false (r := 0) (M' := ⟨[(C, D, [1])], [], 2⟩) (by simp [St.cut, eA.out, eB.out, mk_comm B A])).mono ?_
      rintro e w12 ⟨rfl, h12, u12⟩
      have b12 := Lib.hid (b11.out.trans (u12.far b11.out.size)); have h12 := Lib.hid h12
      clear u12 h11 b11
      go_wp2_with fail
      refine (one_any A B 1 _).mono ?_
      rintro e w13 ⟨rfl, r13, b13⟩
      have r13 := Lib.hid r13; have b13 := Lib.hid b13
      go_wp2_with fail
      refine ((h12.out.below b13.out).send' (A, B, [1]) _ r13.out (by simp) (send_in A B [(C, D, [1])] _ eA.out eB.out 1 _ (by simp) (by simp))).mono ?_
      rintro e w14 ⟨rfl, h14, u14⟩
      have b14 := Lib.hid (below_step b13.out b12.out |>.trans (u14.far (by have := b12.out.size; have := b13.out.size; omega))); have h14 := Lib.hid h14
      clear u14 h12 b12 r13 b13
      have hf : 0 ≤ firstD ([(C, D, [1])] ++ [(A, B, [1])]) B := firstD_last [(C, D, [1])] (A, B, [1])
      obtain ⟨ff, hff⟩ : ∃ ff, firstD ([(C, D, [1])] ++ [(A, B, [1])]) B = ff := ⟨_, rfl⟩
      rw [hff] at hf
      have hff := Lib.hid hff
      go_wp2_with fail
      refine (h14.out.first' B (r := ff) hff.out).mono ?_
      rintro e w15 ⟨rfl, b15⟩
      have b15 := Lib.hid (below_step b15 b14.out)
      clear h14 b14
      go_wp2
      go_ret
      exact ⟨rfl, b15.out⟩
    · have f1 : (A == C) = false := by simp [h1]
      have f2 : (A == D) = true := by simp [h2]
      have f3 : (B == C) = false := by simp [h3]
      clear h1 h2 h3
      go_wp2_with fail
      refine h10.out.lost.mono ?_
      rintro e w10' ⟨rfl, rfl⟩
      go_wp2_with fail
      refine h10.out.waiting.mono ?_
      rintro e w11 ⟨A11, c11, l11, rfl, hl11, -, b11⟩
      have hl11 : l11.length = 1 := by have := congrArg List.length hl11; simpa using this
      have h11 := Lib.hid (h10.out.below b11); have b11 := Lib.hid (below_step b11 b10.out)
      clear h10 b10
      rw [hl11]
      clear hl11
      go_wp2_with fail
      refine (h11.out.cut' B A false (r := 0) (M' := ⟨[(C, D, [1])], [], 2⟩) (by simp [St.cut, eA.out, eB.out, mk_comm B A])).mono ?_
      rintro e w12 ⟨rfl, h12, u12⟩
      have b12 := Lib.hid (b11.out.trans (u12.far b11.out.size)); have h12 := Lib.hid h12
      clear u12 h11 b11
      go_wp2_with fail
      refine (one_any A B 1 _).mono ?_
      rintro e w13 ⟨rfl, r13, b13⟩
      have r13 := Lib.hid r13; have b13 := Lib.hid b13
      go_wp2_with fail
      refine ((h12.out.below b13.out).send' (A, B, [1]) _ r13.out (by simp) (send_in A B [(C, D, [1])] _ eA.out eB.out 1 _ (by simp) (by simp))).mono ?_
      rintro e w14 ⟨rfl, h14, u14⟩
      have b14 := Lib.hid (below_step b13.out b12.out |>.trans (u14.far (by have := b12.out.size; have := b13.out.size; omega))); have h14 := Lib.hid h14
      clear u14 h12 b12 r13 b13
      have hf : 0 ≤ firstD ([(C, D, [1])] ++ [(A, B, [1])]) B := firstD_last [(C, D, [1])] (A, B, [1])
      obtain ⟨ff, hff⟩ : ∃ ff, firstD ([(C, D, [1])] ++ [(A, B, [1])]) B = ff := ⟨_, rfl⟩
      rw [hff] at hf
      have hff := Lib.hid hff
      go_wp2_with fail
      refine (h14.out.first' B (r := ff) hff.out).mono ?_
      rintro e w15 ⟨rfl, b15⟩
      have b15 := Lib.hid (below_step b15 b14.out)
      clear h14 b14
      go_wp2
      go_ret
      exact ⟨rfl, b15.out⟩
    · have f1 : (A == C) = false := by simp [h1]
      have f2 : (A == D) = false := by simp [h2]
      clear h1 h2
      go_wp2_with fail
      refine h10.out.lost.mono ?_
      rintro e w10' ⟨rfl, rfl⟩
      go_wp2_with fail
      refine h10.out.waiting.mono ?_
      rintro e w11 ⟨A11, c11, l11, rfl, hl11, -, b11⟩
      have hl11 : l11.length = 1 := by have := congrArg List.length hl11; simpa using this
      have h11 := Lib.hid (h10.out.below b11); have b11 := Lib.hid (below_step b11 b10.out)
      clear h10 b10
      rw [hl11]
      clear hl11
      go_wp2_with fail
      refine (h11.out.cut' B A false (r := 0) (M' := ⟨[(C, D, [1])], [], 2⟩) (by simp [St.cut, eA.out, eB.out, mk_comm B A])).mono ?_
      rintro e w12 ⟨rfl, h12, u12⟩
      have b12 := Lib.hid (b11.out.trans (u12.far b11.out.size)); have h12 := Lib.hid h12
      clear u12 h11 b11
      go_wp2_with fail
      refine (one_any A B 1 _).mono ?_
      rintro e w13 ⟨rfl, r13, b13⟩
      have r13 := Lib.hid r13; have b13 := Lib.hid b13
      go_wp2_with fail
      refine ((h12.out.below b13.out).send' (A, B, [1]) _ r13.out (by simp) (send_in A B [(C, D, [1])] _ eA.out eB.out 1 _ (by simp) (by simp))).mono ?_
      rintro e w14 ⟨rfl, h14, u14⟩
      have b14 := Lib.hid (below_step b13.out b12.out |>.trans (u14.far (by have := b12.out.size; have := b13.out.size; omega))); have h14 := Lib.hid h14
      clear u14 h12 b12 r13 b13
      have hf : 0 ≤ firstD ([(C, D, [1])] ++ [(A, B, [1])]) B := firstD_last [(C, D, [1])] (A, B, [1])
      obtain ⟨ff, hff⟩ : ∃ ff, firstD ([(C, D, [1])] ++ [(A, B, [1])]) B = ff := ⟨_, rfl⟩
      rw [hff] at hf
      have hff := Lib.hid hff
      go_wp2_with fail
      refine (h14.out.first' B (r := ff) hff.out).mono ?_
      rintro e w15 ⟨rfl, b15⟩
      have b15 := Lib.hid (below_step b15 b14.out)
      clear h14 b14
      go_wp2
      go_ret
      exact ⟨rfl, b15.out⟩
end Go.Proofs.Ytddndmhjkjanlaa
