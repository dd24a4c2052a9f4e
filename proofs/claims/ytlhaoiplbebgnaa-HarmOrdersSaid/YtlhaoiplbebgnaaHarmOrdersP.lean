/- Law HarmOrders returns true for all three harms, and leaves its arguments as they were. No condition. -/
import Derived.Test.YtlhaoiplbebgnaaHarmO
import Derived.Test.YtlhaoiplbebgnaaHarmR
set_option linter.unusedSimpArgs false
set_option linter.unusedVariables false
namespace Go.Proofs.Ytlhaoiplbebgnaa
open Go.ChangeShapes Go.WideShapes Go.ChangeAt Go.RowKit Go.Deep

set_option maxRecDepth 100000 in
theorem harmOrders_lifted (os : Os) (started : os.Started) (H : Type) (enc : TypeId × Value → H) :
    ReturnsInHanded {} Try.checked os 12 .any (Rows.harmOrdersSpec.pre6 enc Try.prog Try.f12 Rows.harmOrdersRow.domain false) (Rows.harmOrdersSpec.post enc Try.prog Try.f12 false true false false) := by
  refine returnsInHanded_of_change (C := Try.checked) own_knob started (by kernel_rfl) Try.func12
    (ChangeSpec.witness6 (enc := enc) (C := Try.checked) false ⟨#[], #[.agg #[.int .i64 0, .int .i64 0, .int .i64 0, .int .i64 0], .agg #[.int .i64 0, .int .i64 0, .int .i64 0, .int .i64 0], .agg #[.int .i64 0, .int .i64 0, .int .i64 0, .int .i64 0]], []⟩ 24 (by kernel_rfl) (by kernel_rfl) (by kernel_rfl) (by kernel_rfl)) ?_
  intro W base args ds gs before hval0 hW hcnd _
  have hval : ∀ (j : Nat) t v, Try.f12.params[j]? = some t → args[j]? = some v → Value.okWide Try.prog W .any base t v := hval0
  have hW' := hW
  obtain ⟨p, q, hA0, hV, rfl, hfz, hnd⟩ := hW
  have hA : DataW.TrodAll enc Try.prog W 0 (fun _ => true) true Try.f12.params.toList args.toList ds p := hA0
  rw [Try.params12] at hA hval
  obtain ⟨v0, v1, v2, d0, d1, d2, p0, p1, p2, rfl, rfl, rfl, h0, h1, h2⟩ := trodAll_three hA
  obtain ⟨x, rfl, ok0⟩ := arg_struct opens_harm Try.underlying61 (hval 0 61 v0 rfl rfl) h0
  obtain ⟨y, rfl, ok1⟩ := arg_struct opens_harm Try.underlying61 (hval 1 61 v1 rfl rfl) h1
  obtain ⟨z, rfl, ok2⟩ := arg_struct opens_harm Try.underlying61 (hval 2 61 v2 rfl rfl) h2
  clear hA0 hval0
  refine (harmOrders_any x y z W ⟨ok0.1, ok0.2.1, ok0.2.2.1, ok0.2.2.2⟩ ⟨ok1.1, ok1.2.1, ok1.2.2.1, ok1.2.2.2⟩ ⟨ok2.1, ok2.2.1, ok2.2.2.1, ok2.2.2.2⟩).mono fun e W' ⟨he, hw⟩ => ?_
  subst he
  exact ⟨_, rfl, law_post laid_out (by kernel_rfl) rfl rfl (by kernel_rfl) Try.underlying4 hW' hw⟩

theorem harmOrders_holds : Rows.HarmOrdersSaid :=
  OpenClaim.holds_of_wide 12 Try.f12 rfl rfl rfl rfl rfl rfl rfl ⟨rfl, rfl, rfl, rfl, rfl⟩ rfl rfl rfl rfl rfl (by kernel_rfl) Try.func12 (by kernel_rfl)
    (of_decide_eq_true (by kernel_rfl)) (by unfold Func.isWrapper; first | (rw [if_pos (by decide +kernel)]; kernel_rfl) | (rw [if_neg (by decide +kernel)]; exact ⟨rfl, rfl⟩))
    (fun os started H enc _ => harmOrders_lifted os started H enc)

end Go.Proofs.Ytlhaoiplbebgnaa
