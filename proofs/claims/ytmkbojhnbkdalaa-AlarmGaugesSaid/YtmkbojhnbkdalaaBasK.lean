/- The walks of basin's isName and of the closures on runes. -/
import Derived.Test.YtmkbojhnbkdalaaBasA
import Derived.Test.YtmkbojhnbkdalaaShelf
set_option linter.unusedSimpArgs false
set_option linter.unusedVariables false
namespace Go.Proofs.Ytmkbojhnbkdalaa
open Go.RowKit

def badName (c : Nat) : Bool := !(c == 95) && (decide (c < 48) || decide (57 < c)) && (decide (c < 97) || decide (122 < c))
def badText (c : Nat) : Bool := decide (c < 32) || decide (126 < c) || (c == 34) || (c == 92)
set_option maxRecDepth 100000 in
theorem badText_any (c : Nat) (hc : c ≤ 1114111) (W : World) : Calls Try.prog 30 #[.int .i32 (c : Int)] W fun e w' => e = .returned (.bool (badText c)) ∧ W = w' := by
  have HB := Lib.hid (show badText c = (decide (c < 32) || decide (126 < c) || (c == 34) || (c == 92)) from rfl)
  by_cases h1 : c < 32
  · have h1' : (c : Int) < 32 := by omega
    go_enter Try.func30, Try.ntmps30
    go_wp2
    go_ret
    exact ⟨by rw [HB.out]; simp [h1], rfl⟩
  by_cases h2 : 126 < c
  · have h1' : ¬ (c : Int) < 32 := by omega
    have h2' : 126 < (c : Int) := by omega
    go_enter Try.func30, Try.ntmps30
    go_wp2
    go_ret
    exact ⟨by rw [HB.out]; simp [h1, h2], rfl⟩
  have h1' : ¬ (c : Int) < 32 := by omega
  have h2' : ¬ 126 < (c : Int) := by omega
  by_cases h3 : c = 34
  · subst h3
    go_enter Try.func30, Try.ntmps30
    go_wp2
    go_ret
    exact ⟨by rw [HB.out]; rfl, rfl⟩
  by_cases h4 : c = 92
  · subst h4
    go_enter Try.func30, Try.ntmps30
    go_wp2
    go_ret
    exact ⟨by rw [HB.out]; rfl, rfl⟩
  have h3' : ((c : Int) == 34) = false := by simp; omega
  have h4' : ((c : Int) == 92) = false := by simp; omega
  have HH : Hid (badText c = false) := by
    show badText c = false
    rw [HB.out]
    simp [h1, h2, h3, h4]
  clear h3 h4
  go_enter Try.func30, Try.ntmps30
  go_wp2
  go_ret
  exact ⟨by rw [HH.out]; rfl, rfl⟩
set_option maxRecDepth 100000 in
theorem badName_any (c : Nat) (hc : c ≤ 1114111) (W : World) : Calls Try.prog 79 #[.int .i32 (c : Int)] W fun e w' => e = .returned (.bool (badName c)) ∧ W = w' := by
  have HB := Lib.hid (show badName c = (!(c == 95) && (decide (c < 48) || decide (57 < c)) && (decide (c < 97) || decide (122 < c))) from rfl)
  by_cases h0 : c = 95
  · subst h0
    go_enter Try.func79, Try.ntmps79
    go_wp2
    go_ret
    exact ⟨by rw [HB.out]; rfl, rfl⟩
  have h0' : ((c : Int) == 95) = false := by simp; omega
  have h0n : ((c : Int) != 95) = true := by simp; omega
  by_cases h1 : c < 48
  · have a1 : (c : Int) < 48 := by omega
    have a2 : (c : Int) < 97 := by omega
    have HH : Hid (badName c = true) := by
      show badName c = true
      rw [HB.out]
      simp [h0, h1]
      omega
    clear h0
    go_enter Try.func79, Try.ntmps79
    go_wp2
    go_ret
    exact ⟨by rw [HH.out]; rfl, rfl⟩
  by_cases h2 : 57 < c
  · by_cases h3 : c < 97
    · have a1 : ¬ (c : Int) < 48 := by omega
      have a2 : 57 < (c : Int) := by omega
      have a3 : (c : Int) < 97 := by omega
      have HH : Hid (badName c = true) := by
        show badName c = true
        rw [HB.out]
        simp [h0, h2, h3]
      clear h0
      go_enter Try.func79, Try.ntmps79
      go_wp2
      go_ret
      exact ⟨by rw [HH.out]; rfl, rfl⟩
    by_cases h4 : 122 < c
    · have a1 : ¬ (c : Int) < 48 := by omega
      have a2 : 57 < (c : Int) := by omega
      have a3 : ¬ (c : Int) < 97 := by omega
      have a4 : 122 < (c : Int) := by omega
      have HH : Hid (badName c = true) := by
        show badName c = true
        rw [HB.out]
        simp [h0, h2, h4]
      clear h0
      go_enter Try.func79, Try.ntmps79
      go_wp2
      go_ret
      exact ⟨by rw [HH.out]; rfl, rfl⟩
    have a1 : ¬ (c : Int) < 48 := by omega
    have a2 : 57 < (c : Int) := by omega
    have a3 : ¬ (c : Int) < 97 := by omega
    have a4 : ¬ 122 < (c : Int) := by omega
    have HH : Hid (badName c = false) := by
      show badName c = false
      rw [HB.out]
      simp [h3, h4]
    clear h0
    go_enter Try.func79, Try.ntmps79
    go_wp2
    go_ret
    exact ⟨by rw [HH.out]; rfl, rfl⟩
  have a1 : ¬ (c : Int) < 48 := by omega
  have a2 : ¬ 57 < (c : Int) := by omega
  have HH : Hid (badName c = false) := by
    show badName c = false
    rw [HB.out]
    simp [h1, h2]
  clear h0
  go_enter Try.func79, Try.ntmps79
  go_wp2
  go_ret
  exact ⟨by rw [HH.out]; rfl, rfl⟩

end Go.Proofs.Ytmkbojhnbkdalaa
