/- Readings as plain data. -/
import Derived.Test.YtmkbojhnbkdalaaApi
set_option linter.unusedSimpArgs false
set_option linter.unusedVariables false
namespace Go.Proofs.Ytmkbojhnbkdalaa
open Go.ChangeShapes Go.WideShapes Go.ChangeAt Go.RowKit Go.Deep

/-- api.Span -/
structure Spn where
  lo : Int
  hi : Int
def cSpn (x : Spn) : List Value := [.int .i64 x.lo, .int .i64 x.hi]
def OkSpn (x : Spn) : Prop := I64 x.lo ∧ I64 x.hi
def MSpn : World → Nat → Spn → Prop := mem0
theorem MSpn_lasts : MLasts MSpn := mem0_lasts
theorem cells_Spn : Try.prog.cellsOf 34 = 2 := by kernel_rfl
set_option maxRecDepth 100000 in
theorem opens_Spn : Opens Try.prog 34 2 (Rw cSpn MSpn) OkSpn :=
  ⟨cells_Spn, fun H enc w base spare held fuel cs x h => by
    obtain ⟨xs, n, _, _, hlen, hxl, hf⟩ := DataW.trod_struct Try.underlying34 h
    rw [cells_Spn] at hlen
    have hxl' : xs.length = 2 := hxl
    match cs, hlen with
    | [c0, c1], _ =>
      have h0 : DataW.trod enc Try.prog w base spare held n 3 [c0] = some (xs[0]'(by omega)) := by
        have := hf 0 _ rfl
        rw [List.getElem?_eq_getElem (by omega)] at this
        rw [← this]; simp [cells_int]
      obtain ⟨a0, ⟨r0, m0⟩, o0⟩ := (Opens.intR Try.underlying3 cells_int).2 _ _ _ _ _ _ _ _ _ h0
      have h1 : DataW.trod enc Try.prog w base spare held n 3 [c1] = some (xs[1]'(by omega)) := by
        have := hf 1 _ rfl
        rw [List.getElem?_eq_getElem (by omega)] at this
        rw [← this]; simp [cells_int]
      obtain ⟨a1, ⟨r1, m1⟩, o1⟩ := (Opens.intR Try.underlying3 cells_int).2 _ _ _ _ _ _ _ _ _ h1
      simp only [intC, boolC, strC, SlR.C, List.cons.injEq, and_true] at r0 r1
      refine ⟨⟨a0, a1⟩, ⟨?_, trivial⟩, o0, o1⟩
      simp only [cSpn]
      subst r0
      subst r1
      rfl⟩
/-- api.Reading -/
structure Rdg where
  gauge : Int
  hour : Int
  value : Spn
def cRdg (x : Rdg) : List Value := [.int .i64 x.gauge, .int .i64 x.hour, .int .i64 x.value.lo, .int .i64 x.value.hi]
def OkRdg (x : Rdg) : Prop := I64 x.gauge ∧ I64 x.hour ∧ OkSpn x.value
def MRdg : World → Nat → Rdg → Prop := mem0
theorem MRdg_lasts : MLasts MRdg := mem0_lasts
theorem cells_Rdg : Try.prog.cellsOf 36 = 4 := by kernel_rfl
set_option maxRecDepth 100000 in
theorem opens_Rdg : Opens Try.prog 36 4 (Rw cRdg MRdg) OkRdg :=
  ⟨cells_Rdg, fun H enc w base spare held fuel cs x h => by
    obtain ⟨xs, n, _, _, hlen, hxl, hf⟩ := DataW.trod_struct Try.underlying36 h
    rw [cells_Rdg] at hlen
    have hxl' : xs.length = 3 := hxl
    match cs, hlen with
    | [c0, c1, c2, c3], _ =>
      have h0 : DataW.trod enc Try.prog w base spare held n 3 [c0] = some (xs[0]'(by omega)) := by
        have := hf 0 _ rfl
        rw [List.getElem?_eq_getElem (by omega)] at this
        rw [← this]; simp [cells_int]
      obtain ⟨a0, ⟨r0, m0⟩, o0⟩ := (Opens.intR Try.underlying3 cells_int).2 _ _ _ _ _ _ _ _ _ h0
      have h1 : DataW.trod enc Try.prog w base spare held n 3 [c1] = some (xs[1]'(by omega)) := by
        have := hf 1 _ rfl
        rw [List.getElem?_eq_getElem (by omega)] at this
        rw [← this]; simp [cells_int]
      obtain ⟨a1, ⟨r1, m1⟩, o1⟩ := (Opens.intR Try.underlying3 cells_int).2 _ _ _ _ _ _ _ _ _ h1
      have h2 : DataW.trod enc Try.prog w base spare held n 34 [c2, c3] = some (xs[2]'(by omega)) := by
        have := hf 2 _ rfl
        rw [List.getElem?_eq_getElem (by omega)] at this
        rw [← this]; simp [cells_Spn]
      obtain ⟨a2, ⟨r2, m2⟩, o2⟩ := opens_Spn.2 _ _ _ _ _ _ _ _ _ h2
      simp only [intC, boolC, strC, SlR.C, cSpn, List.cons.injEq, and_true] at r0 r1 r2
      refine ⟨⟨a0, a1, a2⟩, ⟨?_, trivial⟩, o0, o1, o2⟩
      simp only [cRdg]
      subst r0
      subst r1
      obtain ⟨rfl, rfl⟩ := r2
      rfl⟩

end Go.Proofs.Ytmkbojhnbkdalaa
