/- Law WardenAside: all cases. -/
import Derived.Test.YtlhaoiplbebgnaaWardenAsW
set_option linter.unusedSimpArgs false
set_option linter.unusedVariables false
namespace Go.Proofs.Ytlhaoiplbebgnaa
open Go.RowKit

set_option maxRecDepth 100000 in
set_option maxHeartbeats 1000000 in
theorem aside_all (wd town hour : Int) (A : Option Addr) (n cap : Nat) (l : List Stp) (w : World) (hnm : n ≤ maxLen) (hh : -9223372036854775808 ≤ hour ∧ hour ≤ 9223372036854775807) (hs : Sl (Pl stepC) 8 w w.heap.size A n l) :
    Calls Try.prog 9 #[.int .i64 wd, .slice A n cap, .int .i64 town, .int .i64 hour] w fun e w' =>
      e = .returned (.bool true) ∧ Below w.heap.size w w' := by
  unfold maxLen at hnm
  by_cases h : 1 ≤ wd ∧ wd ≤ 16
  · obtain ⟨h1, h2⟩ := h
    by_cases hn : n ≤ 40
    · exact aside_in wd town hour A n cap l w hn h1 h2 hh hs
    · have hn' : (40 : Int) < (n : Int) := by omega
      go_enter Try.func9, Try.ntmps9
      go_wp2_with fail
      refine (small44_any _).mono ?_
      rintro e w0 ⟨rfl, hb0⟩
      go_wp2_with fail
      refine (new_in wd _ h1 h2).mono ?_
      rintro e w1 ⟨rfl, hb1, hz1, _⟩
      go_wp2_with fail
      refine (new_in wd _ h1 h2).mono ?_
      rintro e w2 ⟨rfl, hb2, _, _⟩
      have hz := hb0.size
      go_wp2
      go_ret
      exact ⟨rfl, (hb0.trans (hb1.mono (by omega))).trans (hb2.mono (by omega))⟩
  · have h' : wd < 1 ∨ 16 < wd := by omega
    go_enter Try.func9, Try.ntmps9
    go_wp2_with fail
    refine (small44_any _).mono ?_
    rintro e w0 ⟨rfl, hb0⟩
    go_wp2_with fail
    refine (new_out wd _ h').mono ?_
    rintro e w1 ⟨rfl, rfl⟩
    go_wp2_with fail
    refine (new_out wd _ h').mono ?_
    rintro e w2 ⟨rfl, rfl⟩
    go_wp2
    go_ret
    exact ⟨rfl, hb0⟩

end Go.Proofs.Ytlhaoiplbebgnaa
