/- A post's calls, in plain Lean: the calls for one town, and that the calls are sorted by town. -/
import Derived.Test.YtlhaoiplbebgnaaWardenG
set_option linter.unusedSimpArgs false
set_option linter.unusedVariables false
namespace Go.Proofs.Ytlhaoiplbebgnaa
open Go.RowKit

theorem filter_get {α : Type} (p : α → Bool) : ∀ (l : List α) (i : Nat) (y : α), l[i]? = some y → p y = true → (l.filter p)[((l.take i).filter p).length]? = some y
  | [], i, y, h, _ => by simp at h
  | a :: r, 0, y, h, hp => by
    simp only [List.getElem?_cons_zero, Option.some.injEq] at h
    subst h
    simp [hp]
  | a :: r, i + 1, y, h, hp => by
    rw [List.getElem?_cons_succ] at h
    have ih := filter_get p r i y h hp
    rw [List.take_succ_cons, List.filter_cons, List.filter_cons]
    by_cases ha : p a = true
    · rw [if_pos ha, if_pos ha, List.length_cons, List.getElem?_cons_succ]; exact ih
    · rw [if_neg ha, if_neg ha]; exact ih

theorem openL_sorted (F : Int → Option Od) (n : Nat) : (openL F n).Pairwise (· < ·) := by
  unfold openL
  rw [List.pairwise_map]
  refine List.Pairwise.imp (fun {a b} h => ?_) (List.Pairwise.filter _ (List.pairwise_lt_range))
  omega

theorem mem_openL {F : Int → Option Od} {n : Nat} {t : Int} {o : Od} (h0 : 0 ≤ t) (h1 : t < n) (hF : F t = some o) (hf : o.fin = false) : t ∈ openL F n := by
  unfold openL
  refine List.mem_map.2 ⟨t.toNat, List.mem_filter.2 ⟨List.mem_range.2 (by omega), ?_⟩, by omega⟩
  unfold openB
  rw [show ((t.toNat : Nat) : Int) = t by omega, hF]
  simp [hf]

theorem flat_one {β : Type} (f : Int → List β) (p : β → Bool) (t : Int) : ∀ (l : List Int), l.Pairwise (· < ·) → (∀ x ∈ l, x ≠ t → (f x).filter p = []) → (f t).filter p = f t → (l.flatMap f).filter p = if t ∈ l then f t else []
  | [], _, _, _ => by simp
  | a :: r, hs, h, ht => by
    have hs' := List.pairwise_cons.1 hs
    have ih := flat_one f p t r hs'.2 (fun x hx => h x (List.mem_cons_of_mem _ hx)) ht
    rw [List.flatMap_cons, List.filter_append, ih]
    by_cases ha : a = t
    · subst ha
      have hn : ¬ a ∈ r := fun hm => by have := hs'.1 a hm; omega
      rw [ht, if_neg hn, if_pos (List.mem_cons_self), List.append_nil]
    · rw [h a (List.mem_cons_self) ha, List.nil_append]
      by_cases hr : t ∈ r
      · rw [if_pos hr, if_pos (List.mem_cons_of_mem _ hr)]
      · rw [if_neg hr, if_neg (fun hm => by rcases List.mem_cons.1 hm with h1 | h1; exact ha h1.symm; exact hr h1)]

def ofT (t : Int) (c : Cl) : Bool := decide (c.town = t)
def cnt (t : Int) (l : List Cl) : Nat := (l.filter (ofT t)).length

theorem callsN_town {t : Int} {o : Od} {n : Nat} {y : Cl} (h : y ∈ callsN t o n) : y.town = t ∧ y.level = o.level ∧ y.number = o.number ∧ 0 ≤ y.warden ∧ y.warden < n := by
  unfold callsN at h
  obtain ⟨w, hw, rfl⟩ := List.mem_map.1 h
  have := List.mem_range.1 hw
  exact ⟨rfl, rfl, rfl, by show 0 ≤ (w : Int); omega, by show (w : Int) < n; omega⟩
theorem callsT_town {F : Int → Option Od} {wd hour t : Int} {y : Cl} (h : y ∈ callsT F wd hour t) : y.town = t := by
  unfold callsT at h
  split at h
  · exact (callsN_town h).1
  · cases h
theorem callsT_same (F : Int → Option Od) (wd hour t : Int) : (callsT F wd hour t).filter (ofT t) = callsT F wd hour t := by
  rw [List.filter_eq_self]
  intro y hy
  simp [ofT, callsT_town hy]
theorem callsT_other (F : Int → Option Od) (wd hour : Int) {x t : Int} (h : x ≠ t) : (callsT F wd hour x).filter (ofT t) = [] := by
  rw [List.filter_eq_nil_iff]
  intro y hy
  simp [ofT, callsT_town hy, h]

/-- The calls for a town whose last order is o. -/
theorem due_open {F : Int → Option Od} {t : Int} {o : Od} (wd hour : Int) (h0 : 0 ≤ t) (h1 : t < 40) (hF : F t = some o) (hf : o.fin = false) : (dueL F wd hour).filter (ofT t) = callsN t o (nDue wd hour o.hour) := by
  unfold dueL
  rw [flat_one _ _ t _ (openL_sorted F 40) (fun x _ hx => callsT_other F wd hour hx) (callsT_same F wd hour t), if_pos (mem_openL h0 (by omega) hF hf)]
  simp [callsT, hF]
/-- No calls for a town without an open order. -/
theorem due_shut {F : Int → Option Od} {t : Int} (wd hour : Int) (h : ∀ o, F t = some o → o.fin = true) : (dueL F wd hour).filter (ofT t) = [] := by
  unfold dueL
  rw [flat_one _ _ t _ (openL_sorted F 40) (fun x _ hx => callsT_other F wd hour hx) (callsT_same F wd hour t), if_neg]
  intro hm
  obtain ⟨o, ho, hfin, _⟩ := openL_mem hm
  rw [h o ho] at hfin
  cases hfin
theorem due_len (F : Int → Option Od) {wd : Int} (hwd : wd ≤ 16) (hour : Int) : (dueL F wd hour).length ≤ 640 := by
  have := dueL_take_len F hwd hour (openL F 40).length
  rw [List.take_length] at this
  exact this
theorem cnt_le (t : Int) (l : List Cl) : cnt t l ≤ l.length := List.length_filter_le _ _
theorem cnt_take (t : Int) {l : List Cl} {i : Nat} {y : Cl} (h : l[i]? = some y) : cnt t (l.take (i + 1)) = cnt t (l.take i) + if y.town = t then 1 else 0 := by
  unfold cnt
  rw [take_snocS h, List.filter_append, List.length_append]
  by_cases hy : y.town = t <;> simp [ofT, hy]
theorem due_get {F : Int → Option Od} {t : Int} {o : Od} {wd hour : Int} (h0 : 0 ≤ t) (h1 : t < 40) (hF : F t = some o) {i : Nat} {y : Cl} (h : (dueL F wd hour)[i]? = some y) (hy : y.town = t) :
    y = ⟨t, o.level, o.number, (cnt t ((dueL F wd hour).take i) : Nat)⟩ ∧ o.fin = false ∧ cnt t ((dueL F wd hour).take i) < nDue wd hour o.hour := by
  have hg := filter_get (ofT t) _ _ _ h (by simp [ofT, hy])
  cases hf : o.fin with
  | true =>
    rw [due_shut wd hour (fun o' ho' => by rw [hF] at ho'; injection ho' with ho'; rw [← ho']; exact hf)] at hg
    simp at hg
  | false =>
    rw [due_open wd hour h0 h1 hF hf] at hg
    have hlt := (List.getElem?_eq_some_iff.1 hg).1
    rw [callsN_len] at hlt
    unfold callsN at hg
    rw [List.getElem?_map, List.getElem?_range hlt] at hg
    simp only [Option.map_some, Option.some.injEq] at hg
    exact ⟨hg.symm, rfl, hlt⟩
theorem cnt_open {F : Int → Option Od} {t : Int} {o : Od} (wd hour : Int) (h0 : 0 ≤ t) (h1 : t < 40) (hF : F t = some o) (hf : o.fin = false) : cnt t (dueL F wd hour) = nDue wd hour o.hour := by
  unfold cnt; rw [due_open wd hour h0 h1 hF hf, callsN_len]
theorem cnt_shut {F : Int → Option Od} {t : Int} (wd hour : Int) (h : ∀ o, F t = some o → o.fin = true) : cnt t (dueL F wd hour) = 0 := by
  unfold cnt; rw [due_shut wd hour h]; rfl

theorem mem_due {F : Int → Option Od} {wd hour : Int} {y : Cl} : y ∈ dueL F wd hour ↔ y.town ∈ openL F 40 ∧ y ∈ callsT F wd hour y.town := by
  unfold dueL
  rw [List.mem_flatMap]
  constructor
  · rintro ⟨t, ht, hy⟩
    have := callsT_town hy
    subst this
    exact ⟨ht, hy⟩
  · rintro ⟨h1, h2⟩
    exact ⟨_, h1, h2⟩
theorem due_sorted (F : Int → Option Od) (wd hour : Int) : (dueL F wd hour).Pairwise (fun a b => a.town ≤ b.town) := by
  unfold dueL
  rw [List.pairwise_flatMap]
  refine ⟨fun t _ => ?_, List.Pairwise.imp (fun {a b} h x hx y hy => ?_) (openL_sorted F 40)⟩
  · rw [List.pairwise_iff_getElem]
    intro i j hi hj _
    rw [callsT_town (List.getElem_mem hi), callsT_town (List.getElem_mem hj)]
    exact Int.le_refl _
  · rw [callsT_town hx, callsT_town hy]
    omega

end Go.Proofs.Ytlhaoiplbebgnaa
