/- Law WardenAlarms: all cases. -/
import Derived.Test.YtlhaoiplbebgnaaWardenAlW
set_option linter.unusedSimpArgs false
set_option linter.unusedVariables false
namespace Go.Proofs.Ytlhaoiplbebgnaa
open Go.RowKit

set_option maxHeartbeats 1000000 in
theorem alarms_all (nm : ByteArray) (pl fl ld pe wa qu wd : Int) (A : Option Addr) (n cap : Nat) (ss : List (Int × Bool)) (w : World) (hnm : n ≤ maxLen) (hs : Sl (Pl sightC) 2 w w.heap.size A n ss) :
    Calls Try.prog 10 #[.agg #[.string nm, .int .i64 pl, .int .i64 fl, .int .i64 ld, .int .i64 pe, .int .i64 wa, .int .i64 qu], .int .i64 wd, .slice A n cap] w fun e w' =>
      e = .returned (.bool true) ∧ Below w.heap.size w w' := by
  unfold maxLen at hnm
  by_cases h : 1 ≤ wd ∧ wd ≤ 16
  · obtain ⟨h1, h2⟩ := h
    by_cases hn : n ≤ 40
    · exact alarms_any nm pl fl ld pe wa qu wd A n cap ss w hn h1 h2 hs
    · have hn' : (40 : Int) < (n : Int) := by omega
      go_enter Try.func10, Try.ntmps10
      go_wp2_with fail
      refine (small44_any _).mono ?_
      rintro e w0 ⟨rfl, hb0⟩
      go_wp2_with fail
      refine (new_in wd _ h1 h2).mono ?_
      rintro e w1 ⟨rfl, hb1, _, _⟩
      have hz := hb0.size
      simp only [World.size_alloc] at hz
      go_wp2
      go_ret
      exact ⟨rfl, (((Below.refl _ _).alloc (Nat.le_refl _) _).trans (hb0.mono (by simp))).trans (hb1.mono (by omega))⟩
  · have h' : wd < 1 ∨ 16 < wd := by omega
    go_enter Try.func10, Try.ntmps10
    go_wp2_with fail
    refine (small44_any _).mono ?_
    rintro e w0 ⟨rfl, hb0⟩
    go_wp2_with fail
    refine (new_out wd _ h').mono ?_
    rintro e w1 ⟨rfl, rfl⟩
    go_wp2
    go_ret
    exact ⟨rfl, ((Below.refl _ _).alloc (Nat.le_refl _) _).trans (hb0.mono (by simp))⟩

end Go.Proofs.Ytlhaoiplbebgnaa
