/- A call of a net and of the document's, kinds 4 to 8: they answer alike, and hold the same then. Conditions: both hold the same. (Printed by gen_both.py of this claim's author.) -/
import Derived.Test.YtddndmhjkjanlaaRn
namespace Go.Proofs.Ytddndmhjkjanlaa
open Go.RowKit Go.Shelf
variable {w : World} {bn r base : Nat} {M : St} {Kp : List Nat}

set_option maxRecDepth 100000 in
set_option maxHeartbeats 4000000 in
theorem both_drop (h : Pair w bn r M base Kp) (i k : Int) (is : Bool) (f t : Int) (A : Option Addr) (n c : Nat) (hl : M.lost < 1000000) :
    Calls Try.prog 26 #[.pointer (some ⟨bn, 0, none⟩), .pointer (some ⟨r, 0, none⟩), .agg #[.int .i64 4, .int .i64 i, .int .i64 k, .bool is, .int .i64 f, .int .i64 t, .slice A n c]] w fun e w' => e = .returned (.bool true) ∧ PEnd w w' bn r (M.drop i).2 base := by
  have HRd := h.ready 4 i k is f t (.slice A n c)
  have hP : Calls Try.prog 23 #[.pointer (some ⟨bn, 0, none⟩), .int .i64 i] (w.alloc (boxOf 4 i k is f t (.slice A n c))).drew fun e w' => e = .returned (.int .i64 (M.drop i).1) ∧ NS w' bn (M.drop i).2 base (w.heap.size :: Kp) ∧ Upd (Far base (w.heap.size :: Kp)) (w.alloc (boxOf 4 i k is f t (.slice A n c))) w' :=
    (NS.drop (h := (HRd.ns.below (Below.refl _ _).drew)) i hl).mono fun e w' ⟨h1, h2, h3⟩ => ⟨h1, h2, Upd.old (Below.refl _ _).drew h3⟩
  have hR : ∀ w1, RNet w1 r M Kp → (∀ q ∈ Kp, q < w1.heap.size) → Calls Try.prog 41 #[.pointer (some ⟨r, 0, none⟩), .int .i64 i] w1 fun e w' => e = .returned (.int .i64 (M.drop i).1) ∧ RStep w1 w' r (M.drop i).2 Kp := fun w1 hn hk => rdrop_any hn hk i hl
  obtain ⟨res, hres⟩ : ∃ res, M.drop i = res := ⟨_, rfl⟩
  rw [hres] at hP hR ⊢
  obtain ⟨e1, M1⟩ := res
  dsimp only [] at hP hR ⊢
  unfold boxOf at hP
  have HP := Lib.hid hP; have HR := Lib.hid hR; have HD := Lib.hid HRd
  obtain ⟨b0, b1, b2, b3, b4, b5, b6⟩ := box_cells HRd.bx
  unfold boxOf at b0 b1 b2 b3
  clear h hP hR HRd hres b4 b5 b6
  go_enter Try.func26, Try.ntmps26
  go_wp2
  go_region_held3 (fun w' => w'.cell? ⟨w.heap.size, 1, none⟩ = some (.int .i64 i) ∧ w'.cell? ⟨w.heap.size, 2, none⟩ = some (.int .i64 k) ∧ w'.cell? ⟨w.heap.size, 3, none⟩ = some (.bool is))
    ((first | exact ⟨b1, b2, b3⟩ | exact ⟨(box_cells X.out).2.1, (box_cells X.out).2.2.1, (box_cells X.out).2.2.2.1⟩ | exact ⟨(box_cells T.out.1).2.1, (box_cells T.out.1).2.2.1, (box_cells T.out.1).2.2.2.1⟩))
    (first | (go_at_call 23; refine HP.out.mono ?_; rintro e w1 ⟨rfl, N1, u1⟩; have T := Lib.hid (HD.out.then u1); replace N1 := Lib.hid N1; replace u1 := Lib.hid u1) | (go_at_call 41; refine (HR.out w1 T.out.2.1 T.out.2.2).mono ?_; rintro e w2 ⟨rfl, RS⟩; have X := Lib.hid (HD.out.box2 T.out.1 RS.upd); replace RS := Lib.hid RS))
  all_goals
    clear b0 b1 b2 b3
    go_wp2
    go_ret
    exact ⟨rfl, HD.out.fin N1.out u1.out RS.out⟩
set_option maxRecDepth 100000 in
set_option maxHeartbeats 4000000 in
theorem both_copy (h : Pair w bn r M base Kp) (i k : Int) (is : Bool) (f t : Int) (A : Option Addr) (n c : Nat)  :
    Calls Try.prog 26 #[.pointer (some ⟨bn, 0, none⟩), .pointer (some ⟨r, 0, none⟩), .agg #[.int .i64 5, .int .i64 i, .int .i64 k, .bool is, .int .i64 f, .int .i64 t, .slice A n c]] w fun e w' => e = .returned (.bool true) ∧ PEnd w w' bn r (M.copy i).2 base := by
  have HRd := h.ready 5 i k is f t (.slice A n c)
  have hP : Calls Try.prog 29 #[.pointer (some ⟨bn, 0, none⟩), .int .i64 i] (w.alloc (boxOf 5 i k is f t (.slice A n c))).drew fun e w' => e = .returned (.int .i64 (M.copy i).1) ∧ NS w' bn (M.copy i).2 base (w.heap.size :: Kp) ∧ Upd (Far base (w.heap.size :: Kp)) (w.alloc (boxOf 5 i k is f t (.slice A n c))) w' :=
    (NS.copy (h := (HRd.ns.below (Below.refl _ _).drew)) i).mono fun e w' ⟨h1, h2, h3⟩ => ⟨h1, h2, Upd.old (Below.refl _ _).drew h3⟩
  have hR : ∀ w1, RNet w1 r M Kp → (∀ q ∈ Kp, q < w1.heap.size) → Calls Try.prog 42 #[.pointer (some ⟨r, 0, none⟩), .int .i64 i] w1 fun e w' => e = .returned (.int .i64 (M.copy i).1) ∧ RStep w1 w' r (M.copy i).2 Kp := fun w1 hn hk => rcopy_any hn hk i
  obtain ⟨res, hres⟩ : ∃ res, M.copy i = res := ⟨_, rfl⟩
  rw [hres] at hP hR ⊢
  obtain ⟨e1, M1⟩ := res
  dsimp only [] at hP hR ⊢
  unfold boxOf at hP
  have HP := Lib.hid hP; have HR := Lib.hid hR; have HD := Lib.hid HRd
  obtain ⟨b0, b1, b2, b3, b4, b5, b6⟩ := box_cells HRd.bx
  unfold boxOf at b0 b1 b2 b3
  clear h hP hR HRd hres b4 b5 b6
  go_enter Try.func26, Try.ntmps26
  go_wp2
  go_region_held3 (fun w' => w'.cell? ⟨w.heap.size, 1, none⟩ = some (.int .i64 i) ∧ w'.cell? ⟨w.heap.size, 2, none⟩ = some (.int .i64 k) ∧ w'.cell? ⟨w.heap.size, 3, none⟩ = some (.bool is))
    ((first | exact ⟨b1, b2, b3⟩ | exact ⟨(box_cells X.out).2.1, (box_cells X.out).2.2.1, (box_cells X.out).2.2.2.1⟩ | exact ⟨(box_cells T.out.1).2.1, (box_cells T.out.1).2.2.1, (box_cells T.out.1).2.2.2.1⟩))
    (first | (go_at_call 29; refine HP.out.mono ?_; rintro e w1 ⟨rfl, N1, u1⟩; have T := Lib.hid (HD.out.then u1); replace N1 := Lib.hid N1; replace u1 := Lib.hid u1) | (go_at_call 42; refine (HR.out w1 T.out.2.1 T.out.2.2).mono ?_; rintro e w2 ⟨rfl, RS⟩; have X := Lib.hid (HD.out.box2 T.out.1 RS.upd); replace RS := Lib.hid RS))
  all_goals
    clear b0 b1 b2 b3
    go_wp2
    go_ret
    exact ⟨rfl, HD.out.fin N1.out u1.out RS.out⟩
set_option maxRecDepth 100000 in
set_option maxHeartbeats 4000000 in
theorem both_turn (h : Pair w bn r M base Kp) (i k : Int) (is : Bool) (f t : Int) (A : Option Addr) (n c : Nat) (hk2 : k ≤ 9223372036854775807) :
    Calls Try.prog 26 #[.pointer (some ⟨bn, 0, none⟩), .pointer (some ⟨r, 0, none⟩), .agg #[.int .i64 6, .int .i64 i, .int .i64 k, .bool is, .int .i64 f, .int .i64 t, .slice A n c]] w fun e w' => e = .returned (.bool true) ∧ PEnd w w' bn r (M.turn i k).2 base := by
  have HRd := h.ready 6 i k is f t (.slice A n c)
  have hP : Calls Try.prog 17 #[.pointer (some ⟨bn, 0, none⟩), .int .i64 i, .int .i64 k] (w.alloc (boxOf 6 i k is f t (.slice A n c))).drew fun e w' => e = .returned (.int .i64 (M.turn i k).1) ∧ NS w' bn (M.turn i k).2 base (w.heap.size :: Kp) ∧ Upd (Far base (w.heap.size :: Kp)) (w.alloc (boxOf 6 i k is f t (.slice A n c))) w' :=
    (NS.turn (h := (HRd.ns.below (Below.refl _ _).drew)) i k hk2).mono fun e w' ⟨h1, h2, h3⟩ => ⟨h1, h2, Upd.old (Below.refl _ _).drew h3⟩
  have hR : ∀ w1, RNet w1 r M Kp → (∀ q ∈ Kp, q < w1.heap.size) → Calls Try.prog 43 #[.pointer (some ⟨r, 0, none⟩), .int .i64 i, .int .i64 k] w1 fun e w' => e = .returned (.int .i64 (M.turn i k).1) ∧ RStep w1 w' r (M.turn i k).2 Kp := fun w1 hn hk => rturn_any hn hk i k
  obtain ⟨res, hres⟩ : ∃ res, M.turn i k = res := ⟨_, rfl⟩
  rw [hres] at hP hR ⊢
  obtain ⟨e1, M1⟩ := res
  dsimp only [] at hP hR ⊢
  unfold boxOf at hP
  have HP := Lib.hid hP; have HR := Lib.hid hR; have HD := Lib.hid HRd
  obtain ⟨b0, b1, b2, b3, b4, b5, b6⟩ := box_cells HRd.bx
  unfold boxOf at b0 b1 b2 b3
  clear h hP hR HRd hres b4 b5 b6
  go_enter Try.func26, Try.ntmps26
  go_wp2
  go_region_held3 (fun w' => w'.cell? ⟨w.heap.size, 1, none⟩ = some (.int .i64 i) ∧ w'.cell? ⟨w.heap.size, 2, none⟩ = some (.int .i64 k) ∧ w'.cell? ⟨w.heap.size, 3, none⟩ = some (.bool is))
    ((first | exact ⟨b1, b2, b3⟩ | exact ⟨(box_cells X.out).2.1, (box_cells X.out).2.2.1, (box_cells X.out).2.2.2.1⟩ | exact ⟨(box_cells T.out.1).2.1, (box_cells T.out.1).2.2.1, (box_cells T.out.1).2.2.2.1⟩))
    (first | (go_at_call 17; refine HP.out.mono ?_; rintro e w1 ⟨rfl, N1, u1⟩; have T := Lib.hid (HD.out.then u1); replace N1 := Lib.hid N1; replace u1 := Lib.hid u1) | (go_at_call 43; refine (HR.out w1 T.out.2.1 T.out.2.2).mono ?_; rintro e w2 ⟨rfl, RS⟩; have X := Lib.hid (HD.out.box2 T.out.1 RS.upd); replace RS := Lib.hid RS))
  all_goals
    clear b0 b1 b2 b3
    go_wp2
    go_ret
    exact ⟨rfl, HD.out.fin N1.out u1.out RS.out⟩
set_option maxRecDepth 100000 in
set_option maxHeartbeats 4000000 in
theorem both_swap (h : Pair w bn r M base Kp) (i k : Int) (is : Bool) (f t : Int) (A : Option Addr) (n c : Nat)  :
    Calls Try.prog 26 #[.pointer (some ⟨bn, 0, none⟩), .pointer (some ⟨r, 0, none⟩), .agg #[.int .i64 7, .int .i64 i, .int .i64 k, .bool is, .int .i64 f, .int .i64 t, .slice A n c]] w fun e w' => e = .returned (.bool true) ∧ PEnd w w' bn r (M.swap i k).2 base := by
  have HRd := h.ready 7 i k is f t (.slice A n c)
  have hP : Calls Try.prog 16 #[.pointer (some ⟨bn, 0, none⟩), .int .i64 i, .int .i64 k] (w.alloc (boxOf 7 i k is f t (.slice A n c))).drew fun e w' => e = .returned (.int .i64 (M.swap i k).1) ∧ NS w' bn (M.swap i k).2 base (w.heap.size :: Kp) ∧ Upd (Far base (w.heap.size :: Kp)) (w.alloc (boxOf 7 i k is f t (.slice A n c))) w' :=
    (NS.swap (h := (HRd.ns.below (Below.refl _ _).drew)) i k).mono fun e w' ⟨h1, h2, h3⟩ => ⟨h1, h2, Upd.old (Below.refl _ _).drew h3⟩
  have hR : ∀ w1, RNet w1 r M Kp → (∀ q ∈ Kp, q < w1.heap.size) → Calls Try.prog 44 #[.pointer (some ⟨r, 0, none⟩), .int .i64 i, .int .i64 k] w1 fun e w' => e = .returned (.int .i64 (M.swap i k).1) ∧ RStep w1 w' r (M.swap i k).2 Kp := fun w1 hn hk => rswap_any hn i k
  obtain ⟨res, hres⟩ : ∃ res, M.swap i k = res := ⟨_, rfl⟩
  rw [hres] at hP hR ⊢
  obtain ⟨e1, M1⟩ := res
  dsimp only [] at hP hR ⊢
  unfold boxOf at hP
  have HP := Lib.hid hP; have HR := Lib.hid hR; have HD := Lib.hid HRd
  obtain ⟨b0, b1, b2, b3, b4, b5, b6⟩ := box_cells HRd.bx
  unfold boxOf at b0 b1 b2 b3
  clear h hP hR HRd hres b4 b5 b6
  go_enter Try.func26, Try.ntmps26
  go_wp2
  go_region_held3 (fun w' => w'.cell? ⟨w.heap.size, 1, none⟩ = some (.int .i64 i) ∧ w'.cell? ⟨w.heap.size, 2, none⟩ = some (.int .i64 k) ∧ w'.cell? ⟨w.heap.size, 3, none⟩ = some (.bool is))
    ((first | exact ⟨b1, b2, b3⟩ | exact ⟨(box_cells X.out).2.1, (box_cells X.out).2.2.1, (box_cells X.out).2.2.2.1⟩ | exact ⟨(box_cells T.out.1).2.1, (box_cells T.out.1).2.2.1, (box_cells T.out.1).2.2.2.1⟩))
    (first | (go_at_call 16; refine HP.out.mono ?_; rintro e w1 ⟨rfl, N1, u1⟩; have T := Lib.hid (HD.out.then u1); replace N1 := Lib.hid N1; replace u1 := Lib.hid u1) | (go_at_call 44; refine (HR.out w1 T.out.2.1 T.out.2.2).mono ?_; rintro e w2 ⟨rfl, RS⟩; have X := Lib.hid (HD.out.box2 T.out.1 RS.upd); replace RS := Lib.hid RS))
  all_goals
    clear b0 b1 b2 b3
    go_wp2
    go_ret
    exact ⟨rfl, HD.out.fin N1.out u1.out RS.out⟩
set_option maxRecDepth 100000 in
set_option maxHeartbeats 4000000 in
theorem both_cut (h : Pair w bn r M base Kp) (i k : Int) (is : Bool) (f t : Int) (A : Option Addr) (n c : Nat) (hK : M.K.length < 1000000) :
    Calls Try.prog 26 #[.pointer (some ⟨bn, 0, none⟩), .pointer (some ⟨r, 0, none⟩), .agg #[.int .i64 8, .int .i64 i, .int .i64 k, .bool is, .int .i64 f, .int .i64 t, .slice A n c]] w fun e w' => e = .returned (.bool true) ∧ PEnd w w' bn r (M.cut i k is).2 base := by
  have HRd := h.ready 8 i k is f t (.slice A n c)
  have hP : Calls Try.prog 18 #[.pointer (some ⟨bn, 0, none⟩), .int .i64 i, .int .i64 k, .bool is] (w.alloc (boxOf 8 i k is f t (.slice A n c))).drew fun e w' => e = .returned (.int .i64 (M.cut i k is).1) ∧ NS w' bn (M.cut i k is).2 base (w.heap.size :: Kp) ∧ Upd (Far base (w.heap.size :: Kp)) (w.alloc (boxOf 8 i k is f t (.slice A n c))) w' :=
    (NS.cut (h := (HRd.ns.below (Below.refl _ _).drew)) i k is).mono fun e w' ⟨h1, h2, h3⟩ => ⟨h1, h2, Upd.old (Below.refl _ _).drew h3⟩
  have hR : ∀ w1, RNet w1 r M Kp → (∀ q ∈ Kp, q < w1.heap.size) → Calls Try.prog 45 #[.pointer (some ⟨r, 0, none⟩), .int .i64 i, .int .i64 k, .bool is] w1 fun e w' => e = .returned (.int .i64 (M.cut i k is).1) ∧ RStep w1 w' r (M.cut i k is).2 Kp := fun w1 hn hk => rcutc_any hn hK i k is
  obtain ⟨res, hres⟩ : ∃ res, M.cut i k is = res := ⟨_, rfl⟩
  rw [hres] at hP hR ⊢
  obtain ⟨e1, M1⟩ := res
  dsimp only [] at hP hR ⊢
  unfold boxOf at hP
  have HP := Lib.hid hP; have HR := Lib.hid hR; have HD := Lib.hid HRd
  obtain ⟨b0, b1, b2, b3, b4, b5, b6⟩ := box_cells HRd.bx
  unfold boxOf at b0 b1 b2 b3
  clear h hP hR HRd hres b4 b5 b6
  go_enter Try.func26, Try.ntmps26
  go_wp2
  go_region_held3 (fun w' => w'.cell? ⟨w.heap.size, 1, none⟩ = some (.int .i64 i) ∧ w'.cell? ⟨w.heap.size, 2, none⟩ = some (.int .i64 k) ∧ w'.cell? ⟨w.heap.size, 3, none⟩ = some (.bool is))
    ((first | exact ⟨b1, b2, b3⟩ | exact ⟨(box_cells X.out).2.1, (box_cells X.out).2.2.1, (box_cells X.out).2.2.2.1⟩ | exact ⟨(box_cells T.out.1).2.1, (box_cells T.out.1).2.2.1, (box_cells T.out.1).2.2.2.1⟩))
    (first | (go_at_call 18; refine HP.out.mono ?_; rintro e w1 ⟨rfl, N1, u1⟩; have T := Lib.hid (HD.out.then u1); replace N1 := Lib.hid N1; replace u1 := Lib.hid u1) | (go_at_call 45; refine (HR.out w1 T.out.2.1 T.out.2.2).mono ?_; rintro e w2 ⟨rfl, RS⟩; have X := Lib.hid (HD.out.box2 T.out.1 RS.upd); replace RS := Lib.hid RS))
  all_goals
    clear b0 b1 b2 b3
    go_wp2
    go_ret
    exact ⟨rfl, HD.out.fin N1.out u1.out RS.out⟩
end Go.Proofs.Ytddndmhjkjanlaa
