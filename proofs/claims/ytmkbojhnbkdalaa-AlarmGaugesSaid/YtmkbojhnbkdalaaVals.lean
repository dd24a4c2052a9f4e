/- A block of integers that a function makes and writes for itself. -/
import Derived.Test.YtmkbojhnbkdalaaBasA
import Derived.Laws.MakeOwn
set_option linter.unusedSimpArgs false
set_option linter.unusedVariables false
namespace Go.Proofs.Ytmkbojhnbkdalaa
open Go.RowKit

def vals (L : List Int) : Array Value := (L.map fun x => Value.int .i64 x).toArray
theorem vals_get {L : List Int} {k : Nat} {x : Int} (h : L[k]? = some x) : (vals L)[k]? = some (.int .i64 x) := by
  unfold vals
  simp [h]
theorem vals_set (L : List Int) (k : Nat) (x : Int) : (vals L).setIfInBounds k (.int .i64 x) = vals (L.set k x) := by
  unfold vals
  rw [List.setIfInBounds_toArray, List.map_set]
theorem vals_made (n : Nat) : madeCells (Value.int .i64 0).cells (n * 1) = vals (List.replicate n 0) := by
  apply Array.ext
  · rw [size_madeCells]
    unfold vals
    simp
  · intro i h1 h2
    unfold madeCells vals
    simp [Value.cells, Nat.mod_one]
theorem info_int : (Try.prog.info? 3).map (fun i => (i.zero, i.size, i.bytes)) = some (some (.int .i64 0), 1, 8) := by kernel_rfl
theorem run_make_ints (n : Nat) (hn : n ≤ 100000) (w : World) : (Instr.makeSlice 29 (.int .i64 (n : Int)) (.int .i64 (n : Int))).run Try.prog w = .ok (.slice (some ⟨w.heap.size, 0, none⟩) n n) (w.alloc (.cells (vals (List.replicate n 0)) 3)) := by
  have h := info_int
  cases hi : Try.prog.info? 3 with
  | none => rw [hi] at h; cases h
  | some i =>
    rw [hi] at h
    simp only [Option.map_some, Option.some.injEq, Prod.mk.injEq] at h
    obtain ⟨h1, h2, h3⟩ := h
    have := run_make (P := Try.prog) w 29 3 i (.int .i64 0) Try.underlying29 hi h1 .i64 .i64 (n : Int) (n : Int) (by omega) (by omega) (by rw [h3]; omega) (by omega)
    rw [h2, Int.toNat_natCast, vals_made] at this
    exact this
/-- The block read as a slice. -/
theorem slR_vals {w : World} {g n : Nat} {L : List Int} (h : Bk w g 3 (vals L)) (hl : L.length = n) (hn : n ≤ maxLen) : SlR.Mem (Rw intC mem0) 1 w w.heap.size ⟨some ⟨g, 0, none⟩, n, n, L⟩ := by
  refine ⟨⟨hl, fun k x hx => ⟨g, 0, _, rfl, h.lt, ⟨rfl, trivial⟩, fun j u hu => ?_⟩⟩, hn, Nat.le_refl _, hn⟩
  match j, hu with
  | 0, hu =>
    have hu : Value.int .i64 x = u := by simpa [intC] using hu
    subst hu
    rw [show 0 + k * 1 + 0 = k by omega, h.cell]
    exact vals_get hx

end Go.Proofs.Ytmkbojhnbkdalaa
