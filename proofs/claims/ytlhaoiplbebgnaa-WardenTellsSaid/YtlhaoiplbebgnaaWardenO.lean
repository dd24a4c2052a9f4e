/- How calls and steps are opened. -/
import Derived.Test.YtlhaoiplbebgnaaAlarmO
import Derived.Test.YtlhaoiplbebgnaaWardenF
set_option linter.unusedSimpArgs false
set_option linter.unusedVariables false
namespace Go.Proofs.Ytlhaoiplbebgnaa
open Go.ChangeShapes Go.WideShapes Go.ChangeAt Go.RowKit Go.Deep

def CallOk (x : Cl) : Prop := I64 (x.town) ∧ I64 (x.level) ∧ I64 (x.number) ∧ I64 (x.warden)
theorem cells_call : Try.prog.cellsOf 42 = 4 := by kernel_rfl
set_option maxRecDepth 100000 in
theorem opens_call : Opens Try.prog 42 4 (Pl callC) CallOk :=
  ⟨cells_call, fun H enc w base spare held fuel cs x h => by
    obtain ⟨xs, n, _, _, hlen, hxl, hf⟩ := DataW.trod_struct Try.underlying42 h
    rw [cells_call] at hlen
    have hxl' : xs.length = 4 := hxl
    match cs, hlen with
    | [c0, c1, c2, c3], _ =>
      have h0 : DataW.trod enc Try.prog w base spare held n 3 [c0] = some (xs[0]'(by omega)) := by
        have := hf 0 _ rfl
        rw [List.getElem?_eq_getElem (by omega)] at this
        rw [← this]; simp [cells_int]
      obtain ⟨a0, r0, o0⟩ := ((Opens.int Try.underlying3 cells_int)).2 _ _ _ _ _ _ _ _ _ h0
      have h1 : DataW.trod enc Try.prog w base spare held n 3 [c1] = some (xs[1]'(by omega)) := by
        have := hf 1 _ rfl
        rw [List.getElem?_eq_getElem (by omega)] at this
        rw [← this]; simp [cells_int]
      obtain ⟨a1, r1, o1⟩ := ((Opens.int Try.underlying3 cells_int)).2 _ _ _ _ _ _ _ _ _ h1
      have h2 : DataW.trod enc Try.prog w base spare held n 3 [c2] = some (xs[2]'(by omega)) := by
        have := hf 2 _ rfl
        rw [List.getElem?_eq_getElem (by omega)] at this
        rw [← this]; simp [cells_int]
      obtain ⟨a2, r2, o2⟩ := ((Opens.int Try.underlying3 cells_int)).2 _ _ _ _ _ _ _ _ _ h2
      have h3 : DataW.trod enc Try.prog w base spare held n 3 [c3] = some (xs[3]'(by omega)) := by
        have := hf 3 _ rfl
        rw [List.getElem?_eq_getElem (by omega)] at this
        rw [← this]; simp [cells_int]
      obtain ⟨a3, r3, o3⟩ := ((Opens.int Try.underlying3 cells_int)).2 _ _ _ _ _ _ _ _ _ h3
      simp only [Pl, intC, boolC, strC, List.cons.injEq, and_true] at r0 r1 r2 r3
      refine ⟨⟨a0, a1, a2, a3⟩, ?_, o0, o1, o2, o3⟩
      simp only [Pl, callC]
      subst r0
      subst r1
      subst r2
      subst r3
      rfl⟩
def StepOk (x : Stp) : Prop := I64 (x.kind) ∧ I64 (x.town) ∧ I64 (x.level) ∧ I64 (x.hour) ∧ CallOk (x.call)
theorem cells_step : Try.prog.cellsOf 44 = 8 := by kernel_rfl
set_option maxRecDepth 100000 in
theorem opens_step : Opens Try.prog 44 8 (Pl stepC) StepOk :=
  ⟨cells_step, fun H enc w base spare held fuel cs x h => by
    obtain ⟨xs, n, _, _, hlen, hxl, hf⟩ := DataW.trod_struct Try.underlying44 h
    rw [cells_step] at hlen
    have hxl' : xs.length = 5 := hxl
    match cs, hlen with
    | [c0, c1, c2, c3, c4, c5, c6, c7], _ =>
      have h0 : DataW.trod enc Try.prog w base spare held n 3 [c0] = some (xs[0]'(by omega)) := by
        have := hf 0 _ rfl
        rw [List.getElem?_eq_getElem (by omega)] at this
        rw [← this]; simp [cells_int]
      obtain ⟨a0, r0, o0⟩ := ((Opens.int Try.underlying3 cells_int)).2 _ _ _ _ _ _ _ _ _ h0
      have h1 : DataW.trod enc Try.prog w base spare held n 3 [c1] = some (xs[1]'(by omega)) := by
        have := hf 1 _ rfl
        rw [List.getElem?_eq_getElem (by omega)] at this
        rw [← this]; simp [cells_int]
      obtain ⟨a1, r1, o1⟩ := ((Opens.int Try.underlying3 cells_int)).2 _ _ _ _ _ _ _ _ _ h1
      have h2 : DataW.trod enc Try.prog w base spare held n 3 [c2] = some (xs[2]'(by omega)) := by
        have := hf 2 _ rfl
        rw [List.getElem?_eq_getElem (by omega)] at this
        rw [← this]; simp [cells_int]
      obtain ⟨a2, r2, o2⟩ := ((Opens.int Try.underlying3 cells_int)).2 _ _ _ _ _ _ _ _ _ h2
      have h3 : DataW.trod enc Try.prog w base spare held n 3 [c3] = some (xs[3]'(by omega)) := by
        have := hf 3 _ rfl
        rw [List.getElem?_eq_getElem (by omega)] at this
        rw [← this]; simp [cells_int]
      obtain ⟨a3, r3, o3⟩ := ((Opens.int Try.underlying3 cells_int)).2 _ _ _ _ _ _ _ _ _ h3
      have h4 : DataW.trod enc Try.prog w base spare held n 42 [c4, c5, c6, c7] = some (xs[4]'(by omega)) := by
        have := hf 4 _ rfl
        rw [List.getElem?_eq_getElem (by omega)] at this
        rw [← this]; simp [cells_call]
      obtain ⟨a4, r4, o4⟩ := (opens_call).2 _ _ _ _ _ _ _ _ _ h4
      simp only [Pl, intC, boolC, strC, callC, List.cons.injEq, and_true] at r0 r1 r2 r3 r4
      refine ⟨⟨a0, a1, a2, a3, a4⟩, ?_, o0, o1, o2, o3, o4⟩
      simp only [Pl, stepC]
      subst r0
      subst r1
      subst r2
      subst r3
      obtain ⟨rfl, rfl, rfl, rfl⟩ := r4
      rfl⟩

end Go.Proofs.Ytlhaoiplbebgnaa
