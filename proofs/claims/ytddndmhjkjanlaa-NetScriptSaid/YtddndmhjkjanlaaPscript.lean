/- NetScript: for every input the law returns true, and its arguments read afterwards as they read before. No condition. -/
import Derived.Test.YtddndmhjkjanlaaNx
import Derived.Test.YtddndmhjkjanlaaRs
namespace Go.Proofs.Ytddndmhjkjanlaa
open Go.ChangeShapes Go.WideShapes Go.ChangeAt Go.RowKit
set_option linter.unusedVariables false
theorem netScript_walk {H : Type} {enc : TypeId × Value → H} {W : World} {base : Nat} {v0 v1 : Value} {d0 d1 : DataW H} {p0 p1 : List MemPlace}
    (h0 : DataW.Trod enc Try.prog W 0 (fun _ => true) true 45 v0 d0 p0) (h1 : DataW.Trod enc Try.prog W 0 (fun _ => true) true 3 v1 d1 p1) (o0 : Value.okWide Try.prog W .any base 45 v0) (o1 : Value.okWide Try.prog W .any base 3 v1) (z0 : ∀ k ∈ d0.weights Try.prog 45, k ≤ reachBytes) :
    Calls Try.prog 6 #[v0, v1] W fun e W'' => e = .returned (.bool true) ∧ Below W.heap.size W W'' := by
  obtain ⟨a0, n0, c0, rfl⟩ := okWide_slice Try.underlying45 o0
  obtain ⟨fuel, hf⟩ := h0
  obtain ⟨A, l, c, hv, hl, hc, hra, hin⟩ := open_acs (v := .slice a0 n0 c0) (x := (d0, p0)) hf z0
  obtain ⟨a1, rfl, rfl, rfl, _⟩ := open_int Try.underlying3 o1 h1
  rw [hv] at hra ⊢
  exact script_any A c l a1 W (by omega) hra hin
set_option maxRecDepth 100000 in
theorem netScript_lifted (os : Os) (started : os.Started) (H : Type) (enc : TypeId × Value → H) :
    ReturnsInHanded {} Try.checked os 6 .any (Rows.netScriptSpec.pre6 enc Try.prog Try.f6 Rows.netScriptRow.domain false) (Rows.netScriptSpec.post enc Try.prog Try.f6 false true false false) := by
  refine returnsInHanded_of_change_sized (C := Try.checked) own started (by kernel_rfl) Try.func6
    (ChangeSpec.witness6 (enc := enc) (C := Try.checked) false ⟨#[], #[.slice none 0 0, .int .i64 0], []⟩ 8 (by kernel_rfl) (by kernel_rfl) (by kernel_rfl) (by kernel_rfl)) ?_
  intro W base args ds gs before hval0 hW hcnd hsz0 _
  have hval : ∀ (j : Nat) t v, Try.f6.params[j]? = some t → args[j]? = some v → Value.okWide Try.prog W .any base t v := hval0
  have hW' := hW
  obtain ⟨p, q, hA0, hV, rfl, hfz, hnd⟩ := hW
  obtain ⟨rfl, rfl⟩ := trodVars_none hV
  have hA : DataW.TrodAll enc Try.prog W 0 (fun _ => true) true Try.f6.params.toList args.toList ds p := hA0
  have hsz : (DataW.weightsEach Try.prog (Try.f6.params.toList ++ Rows.netScriptSpec.plain.varTypes Try.prog) (ds ++ [])).all (· ≤ reachBytes) = true := hsz0
  rw [Try.params6] at hA hval hsz
  obtain ⟨v0, vs0, d0, ds0, p0, q0, hargs, rfl, rfl, h0, r0⟩ := trodAll_cons hA
  obtain ⟨v1, vs1, d1, ds1, p1, q1, rfl, rfl, rfl, h1, r1⟩ := trodAll_cons r0
  obtain ⟨rfl, rfl, rfl⟩ := trodAll_nil r1
  obtain rfl : args = #[v0, v1] := by cases args; simp_all
  clear hA0 hval0
  simp only [List.append_nil] at hW'
  refine (netScript_walk h0 h1 (hval 0 _ v0 rfl rfl) (hval 1 _ v1 rfl rfl) (fun k hk => by simpa using List.all_eq_true.1 hsz _ (DataW.weights_mem_each (j := 0) (d := d0) rfl rfl k hk))).mono fun e W' ⟨he, hb⟩ => ?_
  subst he
  exact ⟨_, rfl, law_post laid_out (by decide +kernel) (by kernel_rfl) Try.underlying4 rfl rfl hW' hb⟩

theorem netScript_over : Rows.netScriptRow.holds Try.pinned (OpenSpec.ofChange Rows.netScriptSpec) :=
  OpenClaim.holds_of_wide 6 Try.f6 rfl rfl rfl rfl rfl rfl rfl ⟨rfl, rfl, rfl, rfl, rfl⟩ rfl rfl rfl rfl rfl (by kernel_rfl) Try.func6 (by kernel_rfl)
    (of_decide_eq_true (by kernel_rfl)) (by unfold Func.isWrapper; first | (rw [if_pos (by decide +kernel)]; kernel_rfl) | (rw [if_neg (by decide +kernel)]; exact ⟨rfl, rfl⟩))
    (fun os started H enc _ => netScript_lifted os started H enc)

/-- THE STATEMENT -/
theorem netScript_proved : Rows.NetScriptSaid :=
  netScript_over
#print axioms netScript_proved
end Go.Proofs.Ytddndmhjkjanlaa
