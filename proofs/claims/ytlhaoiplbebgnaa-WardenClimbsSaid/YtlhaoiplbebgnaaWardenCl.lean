/- Law WardenClimbs: the walk. -/
import Derived.Test.YtlhaoiplbebgnaaWardenP
import Derived.Test.YtlhaoiplbebgnaaWardenAl
set_option linter.unusedSimpArgs false
set_option linter.unusedVariables false
namespace Go.Proofs.Ytlhaoiplbebgnaa
open Go.RowKit

def sD (s : St) (town level hour : Int) (d : Bool) : St := ⟨s.many + 1, fun j => if j = town then some ⟨level, s.many + 1, hour, d⟩ else s.F j⟩
theorem sD_raise {s : St} {town level hour : Int} (h : raiseOk town level hour) : raiseS s town level hour = sD s town level hour false := by
  unfold raiseS sD; rw [if_pos h]
theorem sD_at (s : St) (town level hour : Int) (d : Bool) : (sD s town level hour d).F town = some ⟨level, s.many + 1, hour, d⟩ := by
  unfold sD; simp
theorem sD_awaits {s : St} {town level hour wd who : Int} (h0 : 0 ≤ who) (h1 : who < wd) : awaitsB (sD s town level hour false).F wd town (s.many + 1) who = true := by
  unfold awaitsB
  rw [sD_at]
  simp [h0, h1]
theorem sD_ack {s : St} {town level hour wd who : Int} (h0 : 0 ≤ who) (h1 : who < wd) : ackS wd (sD s town level hour false) ⟨town, 0, s.many + 1, who⟩ = sD s town level hour true := by
  unfold ackS
  show (match (sD s town level hour false).F town with | some o => _ | none => _) = _
  rw [sD_at]
  show (if awaitsB (sD s town level hour false).F wd town (s.many + 1) who = true then _ else _) = _
  rw [if_pos (sD_awaits h0 h1)]
  unfold sD
  congr 1
  funext j
  by_cases hj : j = town
  · subst hj; simp
  · simp [hj]
theorem good_D {s : St} {n : Nat} {town level hour : Int} (hg : Good s n) (h : raiseOk town level hour) (d : Bool) : Good (sD s town level hour d) (n + 1) := by
  have hr := hg.raise town level hour
  rw [sD_raise h] at hr
  refine ⟨hr.lo, hr.hi, fun t o ho => ?_⟩
  by_cases ht : t = town
  · subst ht
    rw [sD_at] at ho
    injection ho with ho
    subst ho
    exact hr.od t ⟨level, s.many + 1, hour, false⟩ (sD_at _ _ _ _ _)
  · refine hr.od t o ?_
    unfold sD at ho ⊢
    simpa [ht] using ho
/-- How many calls the law wants. -/
theorem cnt_D {s : St} {town level hour wd t : Int} (h : raiseOk town level hour) (h0 : 1 ≤ wd) (d : Bool) :
    (d = true → cnt town (dueL (sD s town level hour d).F wd t) = 0) ∧ (t < hour → cnt town (dueL (sD s town level hour d).F wd t) = 0) ∧
    (d = false → hour ≤ t → ((cnt town (dueL (sD s town level hour d).F wd t) : Nat) : Int) = min wd (1 + (t - hour) / 3)) := by
  have hat := sD_at s town level hour d
  obtain ⟨a0, a1, _⟩ := h
  cases d with
  | true =>
    have hc := cnt_shut (F := (sD s town level hour true).F) (t := town) wd t (fun o ho => by rw [hat] at ho; injection ho with ho; subst ho; rfl)
    exact ⟨fun _ => hc, fun _ => hc, (fun h => by cases h)⟩
  | false =>
    have hc := cnt_open (F := (sD s town level hour false).F) (t := town) wd t a0 a1 hat rfl
    refine ⟨(fun h => by cases h), fun hlt => ?_, fun _ hge => ?_⟩
    · rw [hc]; show nDue wd t hour = 0; unfold nDue; rw [if_neg (by omega)]
    · rw [hc]; exact nDue_A hge h0

end Go.Proofs.Ytlhaoiplbebgnaa
