/- How towns, alarms and sights are opened. -/
import Derived.Test.YtlhaoiplbebgnaaOpen
import Derived.Test.YtlhaoiplbebgnaaAlarmA
set_option linter.unusedSimpArgs false
set_option linter.unusedVariables false
namespace Go.Proofs.Ytlhaoiplbebgnaa
open Go.ChangeShapes Go.WideShapes Go.ChangeAt Go.RowKit Go.Deep

theorem cells_int : Try.prog.cellsOf 3 = 1 := by kernel_rfl
theorem cells_bool : Try.prog.cellsOf 4 = 1 := by kernel_rfl
theorem cells_str : Try.prog.cellsOf 9 = 1 := by kernel_rfl
structure Town where
  nm : ByteArray
  pl : Int
  fl : Int
  ld : Int
  pe : Int
  wa : Int
  qu : Int

def townC (x : Town) : List Value := [.string x.nm, .int .i64 x.pl, .int .i64 x.fl, .int .i64 x.ld, .int .i64 x.pe, .int .i64 x.wa, .int .i64 x.qu]
def TownOk (x : Town) : Prop := (fun s => s.size ≤ maxLen) (x.nm) ∧ I64 (x.pl) ∧ I64 (x.fl) ∧ I64 (x.ld) ∧ I64 (x.pe) ∧ I64 (x.wa) ∧ I64 (x.qu)
theorem cells_town : Try.prog.cellsOf 23 = 7 := by kernel_rfl
set_option maxRecDepth 100000 in
theorem opens_town : Opens Try.prog 23 7 (Pl townC) TownOk :=
  ⟨cells_town, fun H enc w base spare held fuel cs x h => by
    obtain ⟨xs, n, _, _, hlen, hxl, hf⟩ := DataW.trod_struct Try.underlying23 h
    rw [cells_town] at hlen
    have hxl' : xs.length = 7 := hxl
    match cs, hlen with
    | [c0, c1, c2, c3, c4, c5, c6], _ =>
      have h0 : DataW.trod enc Try.prog w base spare held n 9 [c0] = some (xs[0]'(by omega)) := by
        have := hf 0 _ rfl
        rw [List.getElem?_eq_getElem (by omega)] at this
        rw [← this]; simp [cells_str]
      obtain ⟨a0, r0, o0⟩ := ((Opens.str Try.underlying9 cells_str)).2 _ _ _ _ _ _ _ _ _ h0
      have h1 : DataW.trod enc Try.prog w base spare held n 3 [c1] = some (xs[1]'(by omega)) := by
        have := hf 1 _ rfl
        rw [List.getElem?_eq_getElem (by omega)] at this
        rw [← this]; simp [cells_int]
      obtain ⟨a1, r1, o1⟩ := ((Opens.int Try.underlying3 cells_int)).2 _ _ _ _ _ _ _ _ _ h1
      have h2 : DataW.trod enc Try.prog w base spare held n 3 [c2] = some (xs[2]'(by omega)) := by
        have := hf 2 _ rfl
        rw [List.getElem?_eq_getElem (by omega)] at this
        rw [← this]; simp [cells_int]
      obtain ⟨a2, r2, o2⟩ := ((Opens.int Try.underlying3 cells_int)).2 _ _ _ _ _ _ _ _ _ h2
      have h3 : DataW.trod enc Try.prog w base spare held n 3 [c3] = some (xs[3]'(by omega)) := by
        have := hf 3 _ rfl
        rw [List.getElem?_eq_getElem (by omega)] at this
        rw [← this]; simp [cells_int]
      obtain ⟨a3, r3, o3⟩ := ((Opens.int Try.underlying3 cells_int)).2 _ _ _ _ _ _ _ _ _ h3
      have h4 : DataW.trod enc Try.prog w base spare held n 3 [c4] = some (xs[4]'(by omega)) := by
        have := hf 4 _ rfl
        rw [List.getElem?_eq_getElem (by omega)] at this
        rw [← this]; simp [cells_int]
      obtain ⟨a4, r4, o4⟩ := ((Opens.int Try.underlying3 cells_int)).2 _ _ _ _ _ _ _ _ _ h4
      have h5 : DataW.trod enc Try.prog w base spare held n 3 [c5] = some (xs[5]'(by omega)) := by
        have := hf 5 _ rfl
        rw [List.getElem?_eq_getElem (by omega)] at this
        rw [← this]; simp [cells_int]
      obtain ⟨a5, r5, o5⟩ := ((Opens.int Try.underlying3 cells_int)).2 _ _ _ _ _ _ _ _ _ h5
      have h6 : DataW.trod enc Try.prog w base spare held n 3 [c6] = some (xs[6]'(by omega)) := by
        have := hf 6 _ rfl
        rw [List.getElem?_eq_getElem (by omega)] at this
        rw [← this]; simp [cells_int]
      obtain ⟨a6, r6, o6⟩ := ((Opens.int Try.underlying3 cells_int)).2 _ _ _ _ _ _ _ _ _ h6
      simp only [Pl, intC, boolC, strC, List.cons.injEq, and_true] at r0 r1 r2 r3 r4 r5 r6
      refine ⟨⟨a0, a1, a2, a3, a4, a5, a6⟩, ?_, o0, o1, o2, o3, o4, o5, o6⟩
      simp only [Pl, townC]
      subst r0
      subst r1
      subst r2
      subst r3
      subst r4
      subst r5
      subst r6
      rfl⟩
def SightOk (x : (Int × Bool)) : Prop := I64 (x.1) ∧ Any (x.2)
theorem cells_sight : Try.prog.cellsOf 32 = 2 := by kernel_rfl
set_option maxRecDepth 100000 in
theorem opens_sight : Opens Try.prog 32 2 (Pl sightC) SightOk :=
  ⟨cells_sight, fun H enc w base spare held fuel cs x h => by
    obtain ⟨xs, n, _, _, hlen, hxl, hf⟩ := DataW.trod_struct Try.underlying32 h
    rw [cells_sight] at hlen
    have hxl' : xs.length = 2 := hxl
    match cs, hlen with
    | [c0, c1], _ =>
      have h0 : DataW.trod enc Try.prog w base spare held n 3 [c0] = some (xs[0]'(by omega)) := by
        have := hf 0 _ rfl
        rw [List.getElem?_eq_getElem (by omega)] at this
        rw [← this]; simp [cells_int]
      obtain ⟨a0, r0, o0⟩ := ((Opens.int Try.underlying3 cells_int)).2 _ _ _ _ _ _ _ _ _ h0
      have h1 : DataW.trod enc Try.prog w base spare held n 4 [c1] = some (xs[1]'(by omega)) := by
        have := hf 1 _ rfl
        rw [List.getElem?_eq_getElem (by omega)] at this
        rw [← this]; simp [cells_bool]
      obtain ⟨a1, r1, o1⟩ := ((Opens.bool Try.underlying4 cells_bool)).2 _ _ _ _ _ _ _ _ _ h1
      simp only [Pl, intC, boolC, strC, List.cons.injEq, and_true] at r0 r1
      refine ⟨(a0, a1), ?_, o0, o1⟩
      simp only [Pl, sightC]
      subst r0
      subst r1
      rfl⟩
def AlOk (x : Al) : Prop := I64 (x.l) ∧ I64 (x.c) ∧ I64 (x.t)
theorem cells_alarm : Try.prog.cellsOf 25 = 3 := by kernel_rfl
set_option maxRecDepth 100000 in
theorem opens_alarm : Opens Try.prog 25 3 (Pl alC) AlOk :=
  ⟨cells_alarm, fun H enc w base spare held fuel cs x h => by
    obtain ⟨xs, n, _, _, hlen, hxl, hf⟩ := DataW.trod_struct Try.underlying25 h
    rw [cells_alarm] at hlen
    have hxl' : xs.length = 3 := hxl
    match cs, hlen with
    | [c0, c1, c2], _ =>
      have h0 : DataW.trod enc Try.prog w base spare held n 3 [c0] = some (xs[0]'(by omega)) := by
        have := hf 0 _ rfl
        rw [List.getElem?_eq_getElem (by omega)] at this
        rw [← this]; simp [cells_int]
      obtain ⟨a0, r0, o0⟩ := ((Opens.int Try.underlying3 cells_int)).2 _ _ _ _ _ _ _ _ _ h0
      have h1 : DataW.trod enc Try.prog w base spare held n 3 [c1] = some (xs[1]'(by omega)) := by
        have := hf 1 _ rfl
        rw [List.getElem?_eq_getElem (by omega)] at this
        rw [← this]; simp [cells_int]
      obtain ⟨a1, r1, o1⟩ := ((Opens.int Try.underlying3 cells_int)).2 _ _ _ _ _ _ _ _ _ h1
      have h2 : DataW.trod enc Try.prog w base spare held n 3 [c2] = some (xs[2]'(by omega)) := by
        have := hf 2 _ rfl
        rw [List.getElem?_eq_getElem (by omega)] at this
        rw [← this]; simp [cells_int]
      obtain ⟨a2, r2, o2⟩ := ((Opens.int Try.underlying3 cells_int)).2 _ _ _ _ _ _ _ _ _ h2
      simp only [Pl, intC, boolC, strC, List.cons.injEq, and_true] at r0 r1 r2
      refine ⟨⟨a0, a1, a2⟩, ?_, o0, o1, o2⟩
      simp only [Pl, alC]
      subst r0
      subst r1
      subst r2
      rfl⟩

end Go.Proofs.Ytlhaoiplbebgnaa
