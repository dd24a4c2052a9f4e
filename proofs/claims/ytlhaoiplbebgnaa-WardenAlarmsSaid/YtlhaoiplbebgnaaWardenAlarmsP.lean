/- Law WardenAlarms returns true for every town, every number of wardens and every list of sights, and leaves its arguments as they were. No condition. -/
import Derived.Test.YtlhaoiplbebgnaaAlarmO
import Derived.Test.YtlhaoiplbebgnaaWardenAlX
set_option linter.unusedSimpArgs false
set_option linter.unusedVariables false
namespace Go.Proofs.Ytlhaoiplbebgnaa
open Go.ChangeShapes Go.WideShapes Go.ChangeAt Go.RowKit Go.Deep

set_option maxRecDepth 100000 in
theorem wardenAlarms_lifted (os : Os) (started : os.Started) (H : Type) (enc : TypeId × Value → H) :
    ReturnsInHanded {} Try.checked os 10 .any (Rows.wardenAlarmsSpec.pre6 enc Try.prog Try.f10 Rows.wardenAlarmsRow.domain false) (Rows.wardenAlarmsSpec.post enc Try.prog Try.f10 false true false false) := by
  refine returnsInHanded_of_change (C := Try.checked) own_knob started (by kernel_rfl) Try.func10
    (ChangeSpec.witness6 (enc := enc) (C := Try.checked) false ⟨#[], #[.agg #[.string ByteArray.empty, .int .i64 0, .int .i64 0, .int .i64 0, .int .i64 0, .int .i64 0, .int .i64 0], .int .i64 0, .slice none 0 0], []⟩ 24 (by kernel_rfl) (by kernel_rfl) (by kernel_rfl) (by kernel_rfl)) ?_
  intro W base args ds gs before hval0 hW hcnd _
  have hval : ∀ (j : Nat) t v, Try.f10.params[j]? = some t → args[j]? = some v → Value.okWide Try.prog W .any base t v := hval0
  have hW' := hW
  obtain ⟨p, q, hA0, hV, rfl, hfz, hnd⟩ := hW
  have hA : DataW.TrodAll enc Try.prog W 0 (fun _ => true) true Try.f10.params.toList args.toList ds p := hA0
  rw [Try.params10] at hA hval
  obtain ⟨v0, v1, v2, d0, d1, d2, p0, p1, p2, rfl, rfl, rfl, h0, h1, h2⟩ := trodAll_three hA
  obtain ⟨t, rfl, ok0⟩ := arg_struct opens_town Try.underlying23 (hval 0 23 v0 rfl rfl) h0
  obtain ⟨wd, rfl, ok1⟩ := arg_int Try.underlying3 (hval 1 3 v1 rfl rfl) h1
  obtain ⟨A2, n2, cap2, ss, rfl, sl2, nm2, cm2, mm2, ok2⟩ := arg_slice (Opens.slice opens_sight (by decide) Try.underlying26 (by kernel_rfl)) Try.underlying26 (hval 2 26 v2 rfl rfl) h2
  clear hA0 hval0
  refine (alarms_all _ _ _ _ _ _ _ _ _ _ _ ss W nm2 sl2).mono fun e W' ⟨he, hw⟩ => ?_
  subst he
  exact ⟨_, rfl, law_post laid_out (by kernel_rfl) rfl rfl (by kernel_rfl) Try.underlying4 hW' hw⟩

theorem wardenAlarms_holds : Rows.WardenAlarmsSaid :=
  OpenClaim.holds_of_wide 10 Try.f10 rfl rfl rfl rfl rfl rfl rfl ⟨rfl, rfl, rfl, rfl, rfl⟩ rfl rfl rfl rfl rfl (by kernel_rfl) Try.func10 (by kernel_rfl)
    (of_decide_eq_true (by kernel_rfl)) (by unfold Func.isWrapper; first | (rw [if_pos (by decide +kernel)]; kernel_rfl) | (rw [if_neg (by decide +kernel)]; exact ⟨rfl, rfl⟩))
    (fun os started H enc _ => wardenAlarms_lifted os started H enc)

end Go.Proofs.Ytlhaoiplbebgnaa
