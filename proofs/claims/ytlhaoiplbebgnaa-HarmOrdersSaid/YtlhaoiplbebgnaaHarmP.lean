/- Harms, in plain Lean: the order, sums, the worst of a list. -/
import Derived.Test.YtlhaoiplbebgnaaHarmC
set_option linter.unusedSimpArgs false
set_option linter.unusedVariables false
namespace Go.Proofs.Ytlhaoiplbebgnaa
open Go.RowKit

def ltH (x y : Hm) : Prop := x.fl < y.fl ∨ (x.fl = y.fl ∧ (x.sp < y.sp ∨ (x.sp = y.sp ∧ (x.sh < y.sh ∨ (x.sh = y.sh ∧ x.mv < y.mv)))))
theorem orL_step (x y : Int) (r : List Int) : (orL (cmpI x y :: r) < 0 ↔ x < y ∨ (x = y ∧ orL r < 0)) ∧ (0 < orL (cmpI x y :: r) ↔ y < x ∨ (y = x ∧ 0 < orL r)) := by
  show ((if cmpI x y = 0 then orL r else cmpI x y) < 0 ↔ _) ∧ (0 < (if cmpI x y = 0 then orL r else cmpI x y) ↔ _)
  generalize orL r = t
  have hc : (x < y ∧ cmpI x y = -1) ∨ (x = y ∧ cmpI x y = 0) ∨ (y < x ∧ cmpI x y = 1) := by
    unfold cmpI
    rcases Int.lt_trichotomy x y with h | h | h
    · exact .inl ⟨h, if_pos h⟩
    · exact .inr (.inl ⟨h, by rw [if_neg (by omega), if_neg (by omega)]⟩)
    · exact .inr (.inr ⟨h, by rw [if_neg (by omega), if_pos h]⟩)
  rcases hc with ⟨h, e⟩ | ⟨h, e⟩ | ⟨h, e⟩
  · rw [e, if_neg (by decide)]; omega
  · rw [e, if_pos rfl]; omega
  · rw [e, if_neg (by decide)]; omega
theorem cmpH_ways (x y : Hm) : (cmpH x y < 0 ↔ ltH x y) ∧ (0 < cmpH x y ↔ ltH y x) := by
  unfold cmpH ltH
  rw [(orL_step _ _ _).1, (orL_step _ _ _).1, (orL_step _ _ _).1, (orL_step _ _ _).1, (orL_step _ _ _).2, (orL_step _ _ _).2, (orL_step _ _ _).2, (orL_step _ _ _).2]
  simp only [orL]
  omega
theorem lessB_iff (x y : Hm) : lessB x y = true ↔ ltH x y := by
  unfold lessB
  rw [decide_eq_true_eq]
  exact (cmpH_ways x y).1
theorem lessB_false (x y : Hm) : lessB x y = false ↔ ¬ ltH x y := by
  rw [← lessB_iff, Bool.not_eq_true]
theorem eqH {x y : Hm} (h1 : ¬ ltH x y) (h2 : ¬ ltH y x) : x = y := by
  obtain ⟨a, b, c, d⟩ := x
  obtain ⟨a', b', c', d'⟩ := y
  unfold ltH at h1 h2
  simp only at h1 h2
  have e1 : a = a' := by omega
  have e2 : b = b' := by omega
  have e3 : c = c' := by omega
  have e4 : d = d' := by omega
  subst e1 e2 e3 e4
  rfl
theorem ltH_asymm {x y : Hm} (h : ltH x y) : ¬ ltH y x := by unfold ltH at *; omega
theorem ltH_trans {x y z : Hm} (h : ltH x y) (k : ltH y z) : ltH x z := by unfold ltH at *; omega
theorem ltH_add {x y z : Hm} (hx : ∀ n ∈ [x.fl, x.sp, x.sh, x.mv, y.fl, y.sp, y.sh, y.mv, z.fl, z.sp, z.sh, z.mv], -1152921504606846976 ≤ n ∧ n ≤ 1152921504606846976) : ltH (addH x z) (addH y z) ↔ ltH x y := by
  simp only [List.mem_cons, List.not_mem_nil, or_false, forall_eq_or_imp, forall_eq] at hx
  obtain ⟨a1, a2, a3, a4, b1, b2, b3, b4, c1, c2, c3, c4⟩ := hx
  unfold ltH addH
  simp only
  rw [satI_in (n := x.fl + z.fl) (by omega) (by omega), satI_in (n := x.sp + z.sp) (by omega) (by omega), satI_in (n := x.sh + z.sh) (by omega) (by omega), satI_in (n := x.mv + z.mv) (by omega) (by omega),
    satI_in (n := y.fl + z.fl) (by omega) (by omega), satI_in (n := y.sp + z.sp) (by omega) (by omega), satI_in (n := y.sh + z.sh) (by omega) (by omega), satI_in (n := y.mv + z.mv) (by omega) (by omega)]
  omega
theorem satI_up {a b : Int} (ha : R64 a) (hb : 0 ≤ b) : a ≤ satI (a + b) := by unfold R64 at ha; unfold satI; split <;> (try split) <;> omega
theorem not_less_up {x z : Hm} (hx : HmOk x) (h1 : 0 ≤ z.fl) (h2 : 0 ≤ z.sp) (h3 : 0 ≤ z.sh) (h4 : 0 ≤ z.mv) : ¬ ltH (addH x z) x := by
  have a1 := satI_up hx.fl h1
  have a2 := satI_up hx.sp h2
  have a3 := satI_up hx.sh h3
  have a4 := satI_up hx.mv h4
  unfold ltH addH
  simp only
  omega
theorem addH_comm (x y : Hm) : addH x y = addH y x := by unfold addH; rw [Int.add_comm x.fl, Int.add_comm x.sp, Int.add_comm x.sh, Int.add_comm x.mv]
theorem addH_zero {x : Hm} (hx : HmOk x) : addH x ⟨0, 0, 0, 0⟩ = x := by
  obtain ⟨a, b, c, d⟩ := x
  obtain ⟨h1, h2, h3, h4⟩ := hx
  unfold R64 at *
  unfold addH
  simp only at *
  rw [Int.add_zero, Int.add_zero, Int.add_zero, Int.add_zero, satI_in h1.1 h1.2, satI_in h2.1 h2.2, satI_in h3.1 h3.2, satI_in h4.1 h4.2]

theorem maxH_spec : ∀ (l : List Hm) (m : Hm), maxH m l ∈ m :: l ∧ ∀ y ∈ m :: l, ¬ ltH (maxH m l) y
  | [], m => by
    refine ⟨List.mem_cons_self, fun y hy => ?_⟩
    simp only [List.mem_cons, List.not_mem_nil, or_false] at hy
    subst hy
    unfold maxH ltH
    omega
  | a :: r, m => by
    unfold maxH
    by_cases h : 0 < cmpH a m
    · rw [if_pos h]
      obtain ⟨h1, h2⟩ := maxH_spec r a
      have hlt := (cmpH_ways a m).2.1 h
      refine ⟨List.mem_cons_of_mem _ h1, fun y hy => ?_⟩
      rcases List.mem_cons.1 hy with rfl | hy
      · intro hl
        exact h2 a List.mem_cons_self (ltH_trans hl hlt)
      · exact h2 y hy
    · rw [if_neg h]
      obtain ⟨h1, h2⟩ := maxH_spec r m
      have hlt : ¬ ltH m a := fun hl => h ((cmpH_ways a m).2.2 hl)
      refine ⟨?_, fun y hy => ?_⟩
      · rcases List.mem_cons.1 h1 with h1 | h1
        · rw [h1]; exact List.mem_cons_self
        · exact List.mem_cons_of_mem _ (List.mem_cons_of_mem _ h1)
      · rcases List.mem_cons.1 hy with rfl | hy
        · exact h2 y List.mem_cons_self
        · rcases List.mem_cons.1 hy with rfl | hy
          · intro hl
            by_cases hm : ltH (maxH m r) m
            · exact h2 m List.mem_cons_self hm
            · by_cases hm2 : ltH m (maxH m r)
              · exact hlt (ltH_trans hm2 hl)
              · have := eqH hm hm2
                rw [this] at hl
                exact hlt hl
          · exact h2 y (List.mem_cons_of_mem _ hy)
theorem worst_spec {l : List Hm} (h : l ≠ []) : worstL l ∈ l ∧ ∀ y ∈ l, ¬ ltH (worstL l) y := by
  match l, h with
  | x :: r, _ => exact maxH_spec r x
theorem worst_rev (l : List Hm) : worstL l.reverse = worstL l := by
  by_cases h : l = []
  · subst h; rfl
  · have h' : l.reverse ≠ [] := by simpa using h
    obtain ⟨a1, a2⟩ := worst_spec h
    obtain ⟨b1, b2⟩ := worst_spec h'
    exact eqH (b2 _ (List.mem_reverse.2 a1)) (a2 _ (List.mem_reverse.1 b1))

/-- Where two harms part, or that they are one. -/
theorem ways5 (x y : Hm) : (x.fl = y.fl ∧ x.sp = y.sp ∧ x.sh = y.sh ∧ x.mv = y.mv ∧ x = y) ∨ (x ≠ y ∧ (x.fl ≠ y.fl ∨ (x.fl = y.fl ∧ x.sp ≠ y.sp) ∨ (x.fl = y.fl ∧ x.sp = y.sp ∧ x.sh ≠ y.sh) ∨ (x.fl = y.fl ∧ x.sp = y.sp ∧ x.sh = y.sh ∧ x.mv ≠ y.mv))) := by
  obtain ⟨a, b, c, d⟩ := x
  obtain ⟨a', b', c', d'⟩ := y
  simp only [Hm.mk.injEq, ne_eq]
  omega

end Go.Proofs.Ytlhaoiplbebgnaa
