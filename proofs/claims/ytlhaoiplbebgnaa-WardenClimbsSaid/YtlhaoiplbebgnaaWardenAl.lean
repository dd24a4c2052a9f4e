/- Law WardenAlarms: the plain part: a post with at most one order, of town 5. -/
import Derived.Test.YtlhaoiplbebgnaaWardenG
import Derived.Test.YtlhaoiplbebgnaaAlarmLaw
set_option linter.unusedSimpArgs false
set_option linter.unusedVariables false
namespace Go.Proofs.Ytlhaoiplbebgnaa
open Go.RowKit

def stA (r : Bool) (lv many sc : Int) : St := ⟨many, fun j => if r = true ∧ j = 5 then some ⟨lv, many, sc, false⟩ else none⟩

theorem openB_A (r : Bool) (lv many sc : Int) (t : Nat) : openB (stA r lv many sc).F t = (r && decide (t = 5)) := by
  unfold openB stA
  cases r with
  | false => simp
  | true =>
    by_cases h : t = 5
    · subst h; simp
    · have : ¬ (t : Int) = 5 := by omega
      simp [h, this]
theorem openL_A (r : Bool) (lv many sc : Int) : openL (stA r lv many sc).F 40 = if r then [5] else [] := by
  unfold openL
  rw [List.filter_congr (q := fun t => r && decide (t = 5)) (fun t _ => openB_A r lv many sc t)]
  cases r <;> decide
theorem dueL_A (r : Bool) (lv many sc wd hour : Int) : dueL (stA r lv many sc).F wd hour = if r then callsN 5 ⟨lv, many, sc, false⟩ (nDue wd hour sc) else [] := by
  unfold dueL
  rw [openL_A]
  cases r with
  | false => rfl
  | true => simp [callsT, stA]
theorem raise_A (r : Bool) (lv many sc lv' k : Int) (h : raiseOk 5 lv' k) : raiseS (stA r lv many sc) 5 lv' k = stA true lv' (many + 1) k := by
  unfold raiseS stA
  rw [if_pos h]
  congr 1
  funext j
  by_cases hj : j = 5
  · subst hj; simp
  · simp [hj]
theorem raiseN_A (r : Bool) (lv many sc lv' k : Int) (h : raiseOk 5 lv' k) : raiseN (stA r lv many sc) 5 lv' k = many + 1 := by
  unfold raiseN stA
  rw [if_pos h]
theorem good_A (r : Bool) {lv many sc : Int} {n : Nat} (h0 : 0 ≤ lv) (h1 : lv ≤ 3) (h2 : 0 ≤ sc) (h3 : sc ≤ 16777216) (h4 : 0 ≤ many) (h5 : many ≤ n) (h6 : r = true → 1 ≤ many) : Good (stA r lv many sc) n := by
  refine ⟨h4, h5, fun t o ho => ?_⟩
  unfold stA at ho
  simp only at ho
  split at ho
  · rename_i hh
    injection ho with ho
    subst ho
    obtain ⟨hr, rfl⟩ := hh
    exact ⟨by decide, by decide, h0, h1, h2, h3, h6 hr, Int.le_refl _⟩
  · cases ho
theorem nDue_A {wd k sc : Int} (h : sc ≤ k) (h0 : 1 ≤ wd) : ((nDue wd k sc : Nat) : Int) = min wd (1 + (k - sc) / 3) := by
  unfold nDue
  rw [if_pos h]
  omega
theorem callsN_get {t : Int} {o : Od} {n k : Nat} {y : Cl} (h : (callsN t o n)[k]? = some y) : y = ⟨t, o.level, o.number, (k : Int)⟩ := by
  unfold callsN at h
  rw [List.getElem?_map] at h
  cases hk : (List.range n)[k]? with
  | none => rw [hk] at h; cases h
  | some j =>
    rw [hk] at h
    obtain ⟨hlt, he⟩ := List.getElem?_eq_some_iff.1 hk
    rw [List.getElem_range] at he
    subst he
    injection h with h
    exact h.symm

end Go.Proofs.Ytlhaoiplbebgnaa
