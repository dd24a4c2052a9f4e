/- How harms are opened. -/
import Derived.Test.YtlhaoiplbebgnaaAlarmO
import Derived.Test.YtlhaoiplbebgnaaHarmA
set_option linter.unusedSimpArgs false
set_option linter.unusedVariables false
namespace Go.Proofs.Ytlhaoiplbebgnaa
open Go.ChangeShapes Go.WideShapes Go.ChangeAt Go.RowKit Go.Deep

def HarmOk (x : Hm) : Prop := I64 (x.fl) ∧ I64 (x.sp) ∧ I64 (x.sh) ∧ I64 (x.mv)
theorem cells_harm : Try.prog.cellsOf 61 = 4 := by kernel_rfl
set_option maxRecDepth 100000 in
theorem opens_harm : Opens Try.prog 61 4 (Pl harmC) HarmOk :=
  ⟨cells_harm, fun H enc w base spare held fuel cs x h => by
    obtain ⟨xs, n, _, _, hlen, hxl, hf⟩ := DataW.trod_struct Try.underlying61 h
    rw [cells_harm] at hlen
    have hxl' : xs.length = 4 := hxl
    match cs, hlen with
    | [c0, c1, c2, c3], _ =>
      have h0 : DataW.trod enc Try.prog w base spare held n 3 [c0] = some (xs[0]'(by omega)) := by
        have := hf 0 _ rfl
        rw [List.getElem?_eq_getElem (by omega)] at this
        rw [← this]; simp [cells_int]
      obtain ⟨a0, r0, o0⟩ := ((Opens.int Try.underlying3 cells_int)).2 _ _ _ _ _ _ _ _ _ h0
      have h1 : DataW.trod enc Try.prog w base spare held n 3 [c1] = some (xs[1]'(by omega)) := by
        have := hf 1 _ rfl
        rw [List.getElem?_eq_getElem (by omega)] at this
        rw [← this]; simp [cells_int]
      obtain ⟨a1, r1, o1⟩ := ((Opens.int Try.underlying3 cells_int)).2 _ _ _ _ _ _ _ _ _ h1
      have h2 : DataW.trod enc Try.prog w base spare held n 3 [c2] = some (xs[2]'(by omega)) := by
        have := hf 2 _ rfl
        rw [List.getElem?_eq_getElem (by omega)] at this
        rw [← this]; simp [cells_int]
      obtain ⟨a2, r2, o2⟩ := ((Opens.int Try.underlying3 cells_int)).2 _ _ _ _ _ _ _ _ _ h2
      have h3 : DataW.trod enc Try.prog w base spare held n 3 [c3] = some (xs[3]'(by omega)) := by
        have := hf 3 _ rfl
        rw [List.getElem?_eq_getElem (by omega)] at this
        rw [← this]; simp [cells_int]
      obtain ⟨a3, r3, o3⟩ := ((Opens.int Try.underlying3 cells_int)).2 _ _ _ _ _ _ _ _ _ h3
      simp only [Pl, intC, boolC, strC, List.cons.injEq, and_true] at r0 r1 r2 r3
      refine ⟨⟨a0, a1, a2, a3⟩, ?_, o0, o1, o2, o3⟩
      simp only [Pl, harmC]
      subst r0
      subst r1
      subst r2
      subst r3
      rfl⟩

end Go.Proofs.Ytlhaoiplbebgnaa
