/- NetNone: for every input the law returns true, and its arguments read afterwards as they read before. No condition. -/
import Derived.Test.YtddndmhjkjanlaaNx
import Derived.Test.YtddndmhjkjanlaaOd
import Derived.Test.YtddndmhjkjanlaaOe
namespace Go.Proofs.Ytddndmhjkjanlaa
open Go.ChangeShapes Go.WideShapes Go.ChangeAt Go.RowKit
set_option linter.unusedVariables false
theorem netNone_walk {H : Type} {enc : TypeId × Value → H} {W : World} {base : Nat} {v0 v1 v2 : Value} {d0 d1 d2 : DataW H} {p0 p1 p2 : List MemPlace}
    (h0 : DataW.Trod enc Try.prog W 0 (fun _ => true) true 28 v0 d0 p0) (h1 : DataW.Trod enc Try.prog W 0 (fun _ => true) true 3 v1 d1 p1) (h2 : DataW.Trod enc Try.prog W 0 (fun _ => true) true 3 v2 d2 p2)
    (o0 : Value.okWide Try.prog W .any base 28 v0) (o1 : Value.okWide Try.prog W .any base 3 v1) (o2 : Value.okWide Try.prog W .any base 3 v2)
    (z0 : ∀ k ∈ d0.weights Try.prog 28, k ≤ reachBytes) (_ : ∀ k ∈ d1.weights Try.prog 3, k ≤ reachBytes) (_ : ∀ k ∈ d2.weights Try.prog 3, k ≤ reachBytes) :
    Calls Try.prog 7 #[v0, v1, v2] W fun e W'' => e = .returned (.bool true) ∧ Below W.heap.size W W'' := by
  obtain ⟨cs, rfl, _⟩ := okWide_struct Try.underlying28 o0
  obtain ⟨fuel, hf⟩ := h0
  obtain ⟨d, hcs, hrb, hin⟩ := open_dg (cs := cs.toList) (x := (d0, p0)) hf z0
  obtain ⟨a1, rfl, rfl, rfl, _⟩ := open_int Try.underlying3 o1 h1
  obtain ⟨a2, rfl, rfl, rfl, _⟩ := open_int Try.underlying3 o2 h2
  obtain ⟨A, c, hv, hl, hc⟩ := hin.v
  obtain rfl : cs = #[.int .i64 d.f, .int .i64 d.t, .slice A d.xs.length c] := by
    rw [hv] at hcs
    cases cs
    simpa using hcs
  exact netNone_any d.f d.t a1 a2 A d.xs.length c W (by omega)
set_option maxRecDepth 100000 in
theorem netNone_lifted (os : Os) (started : os.Started) (H : Type) (enc : TypeId × Value → H) :
    ReturnsInHanded {} Try.checked os 7 .any (Rows.netNoneSpec.pre6 enc Try.prog Try.f7 Rows.netNoneRow.domain false) (Rows.netNoneSpec.post enc Try.prog Try.f7 false true false false) := by
  refine returnsInHanded_of_change_sized (C := Try.checked) own started (by kernel_rfl) Try.func7
    (ChangeSpec.witness6 (enc := enc) (C := Try.checked) false ⟨#[], #[.agg #[.int .i64 0, .int .i64 0, .slice none 0 0], .int .i64 0, .int .i64 0], []⟩ 8 (by kernel_rfl) (by kernel_rfl) (by kernel_rfl) (by kernel_rfl)) ?_
  intro W base args ds gs before hval0 hW hcnd hsz0 _
  have hval : ∀ (j : Nat) t v, Try.f7.params[j]? = some t → args[j]? = some v → Value.okWide Try.prog W .any base t v := hval0
  have hW' := hW
  obtain ⟨p, q, hA0, hV, rfl, hfz, hnd⟩ := hW
  obtain ⟨rfl, rfl⟩ := trodVars_none hV
  have hA : DataW.TrodAll enc Try.prog W 0 (fun _ => true) true Try.f7.params.toList args.toList ds p := hA0
  have hsz : (DataW.weightsEach Try.prog (Try.f7.params.toList ++ Rows.netNoneSpec.plain.varTypes Try.prog) (ds ++ [])).all (· ≤ reachBytes) = true := hsz0
  rw [Try.params7] at hA hval hsz
  obtain ⟨v0, vs0, d0, ds0, p0, q0, hargs, rfl, rfl, h0, r0⟩ := trodAll_cons hA
  obtain ⟨v1, vs1, d1, ds1, p1, q1, rfl, rfl, rfl, h1, r1⟩ := trodAll_cons r0
  obtain ⟨v2, vs2, d2, ds2, p2, q2, rfl, rfl, rfl, h2, r2⟩ := trodAll_cons r1
  obtain ⟨rfl, rfl, rfl⟩ := trodAll_nil r2
  obtain rfl : args = #[v0, v1, v2] := by cases args; simp_all
  clear hA0 hval0
  simp only [List.append_nil] at hW'
  refine (netNone_walk h0 h1 h2 (hval 0 _ v0 rfl rfl) (hval 1 _ v1 rfl rfl) (hval 2 _ v2 rfl rfl) (fun k hk => by simpa using List.all_eq_true.1 hsz _ (DataW.weights_mem_each (j := 0) (d := d0) rfl rfl k hk)) (fun k hk => by simpa using List.all_eq_true.1 hsz _ (DataW.weights_mem_each (j := 1) (d := d1) rfl rfl k hk)) (fun k hk => by simpa using List.all_eq_true.1 hsz _ (DataW.weights_mem_each (j := 2) (d := d2) rfl rfl k hk))).mono fun e W' ⟨he, hb⟩ => ?_
  subst he
  exact ⟨_, rfl, law_post laid_out (by decide +kernel) (by kernel_rfl) Try.underlying4 rfl rfl hW' hb⟩

theorem netNone_over : Rows.netNoneRow.holds Try.pinned (OpenSpec.ofChange Rows.netNoneSpec) :=
  OpenClaim.holds_of_wide 7 Try.f7 rfl rfl rfl rfl rfl rfl rfl ⟨rfl, rfl, rfl, rfl, rfl⟩ rfl rfl rfl rfl rfl (by kernel_rfl) Try.func7 (by kernel_rfl)
    (of_decide_eq_true (by kernel_rfl)) (by unfold Func.isWrapper; first | (rw [if_pos (by decide +kernel)]; kernel_rfl) | (rw [if_neg (by decide +kernel)]; exact ⟨rfl, rfl⟩))
    (fun os started H enc _ => netNone_lifted os started H enc)

/-- THE STATEMENT -/
theorem netNone_proved : Rows.NetNoneSaid :=
  netNone_over
#print axioms netNone_proved
end Go.Proofs.Ytddndmhjkjanlaa
