/- Law WardenAcks: the plain part: a post in which the towns of some calls are acknowledged. -/
import Derived.Test.YtlhaoiplbebgnaaWardenP
set_option linter.unusedSimpArgs false
set_option linter.unusedVariables false
namespace Go.Proofs.Ytlhaoiplbebgnaa
open Go.RowKit

def touch (l : List Cl) (t : Int) : Bool := l.any fun c => decide (c.town = t)
def sT (s : St) (l : List Cl) : St := ⟨s.many, fun t => (s.F t).map fun o => ⟨o.level, o.number, o.hour, o.fin || touch l t⟩⟩
theorem sT_nil (s : St) : sT s [] = s := by
  obtain ⟨m, F⟩ := s
  unfold sT
  congr 1
  funext t
  cases h : F t with
  | none => simp [h]
  | some o => simp [h, touch]
theorem touch_mem {l : List Cl} {t : Int} : touch l t = true ↔ ∃ c ∈ l, c.town = t := by
  unfold touch; rw [List.any_eq_true]; simp
theorem touch_snoc (l : List Cl) (c : Cl) (t : Int) : touch (l ++ [c]) t = (touch l t || decide (c.town = t)) := by
  unfold touch; simp
theorem good_T {s : St} {n : Nat} (h : Good s n) (l : List Cl) : Good (sT s l) n := by
  refine ⟨h.lo, h.hi, fun t o ho => ?_⟩
  unfold sT at ho
  simp only at ho
  cases hF : s.F t with
  | none => simp [hF] at ho
  | some o' =>
    rw [hF] at ho
    simp only [Option.map_some, Option.some.injEq] at ho
    subst ho
    exact h.od t o' hF
theorem sT_at {s : St} {l : List Cl} {t : Int} {o : Od} (h : s.F t = some o) : (sT s l).F t = some ⟨o.level, o.number, o.hour, o.fin || touch l t⟩ := by
  unfold sT; simp [h]

/-- What a call that is due says. -/
theorem due_says {s : St} {wd hour : Int} {y : Cl} (h : y ∈ dueL s.F wd hour) (hwd : 0 ≤ wd) : ∃ o, s.F y.town = some o ∧ o.fin = false ∧ y.number = o.number ∧ 0 ≤ y.warden ∧ y.warden < wd ∧ 0 ≤ y.town ∧ y.town < 40 := by
  obtain ⟨h1, h2⟩ := mem_due.1 h
  obtain ⟨o, ho, hf, t0, t1⟩ := openL_mem h1
  unfold callsT at h2
  rw [ho] at h2
  obtain ⟨_, _, h5, h6, h7⟩ := callsN_town h2
  refine ⟨o, ho, hf, h5, h6, ?_, t0, by omega⟩
  unfold nDue at h7
  split at h7 <;> omega

theorem awaits_T {s : St} {wd hour : Int} {y : Cl} (h : y ∈ dueL s.F wd hour) (hwd : 0 ≤ wd) (l : List Cl) : awaitsB (sT s l).F wd y.town y.number y.warden = !touch l y.town := by
  obtain ⟨o, ho, hf, hn, h0, h1, _, _⟩ := due_says h hwd
  unfold awaitsB
  rw [sT_at ho]
  simp [hf, hn, h0, h1]
theorem ack_T {s : St} {wd hour : Int} {y : Cl} (h : y ∈ dueL s.F wd hour) (hwd : 0 ≤ wd) (l : List Cl) : ackS wd (sT s l) y = sT s (l ++ [y]) := by
  obtain ⟨o, ho, hf, hn, h0, h1, _, _⟩ := due_says h hwd
  unfold ackS
  rw [sT_at ho]
  simp only
  rw [awaits_T h hwd l]
  cases ht : touch l y.town with
  | true =>
    simp only [Bool.not_true, Bool.false_eq_true, if_false]
    unfold sT
    congr 1
    funext t
    rw [touch_snoc]
    by_cases hy : y.town = t
    · subst hy; simp [ht]
    · simp [hy]
  | false =>
    simp only [Bool.not_false, if_true]
    unfold sT
    congr 1
    funext t
    rw [touch_snoc]
    by_cases hy : t = y.town
    · subst hy; simp [ho]
    · have hy' : ¬ y.town = t := fun h => hy h.symm
      simp [hy, hy']

theorem openL_drop {F F' : Int → Option Od} {k0 : Nat} (h0 : openB F k0 = true) (h1 : openB F' k0 = false) (h : ∀ k, k ≠ k0 → openB F' k = openB F k) : ∀ n, (openL F' n).length + (if k0 < n then 1 else 0) = (openL F n).length
  | 0 => by simp [openL]
  | n + 1 => by
    have ih := openL_drop h0 h1 h n
    rw [openL_succ, openL_succ, List.length_append, List.length_append]
    by_cases hn : n = k0
    · subst hn
      rw [if_neg (Nat.lt_irrefl _)] at ih
      rw [if_pos (Nat.lt_succ_self _), h0, h1]
      simp at ih ⊢
      omega
    · rw [h n hn]
      have e : (if k0 < n + 1 then 1 else 0) = (if k0 < n then (1 : Nat) else 0) := by
        by_cases hk : k0 < n
        · rw [if_pos hk, if_pos (by omega)]
        · rw [if_neg hk, if_neg (by omega)]
      rw [e]
      omega

theorem openB_T (s : St) (l : List Cl) (k : Nat) : openB (sT s l).F k = (openB s.F k && !touch l (k : Int)) := by
  unfold openB
  cases hF : s.F (k : Int) with
  | none => simp [sT, hF]
  | some o => rw [sT_at hF]; simp
/-- The first call of a town closes it. -/
theorem open_first {s : St} {wd hour : Int} {y : Cl} (h : y ∈ dueL s.F wd hour) (hwd : 0 ≤ wd) {l : List Cl} (ht : touch l y.town = false) : (openL (sT s (l ++ [y])).F 40).length + 1 = (openL (sT s l).F 40).length := by
  obtain ⟨o, ho, hf, hn, h0, h1, t0, t1⟩ := due_says h hwd
  have hk : ((y.town.toNat : Nat) : Int) = y.town := by omega
  have hd := openL_drop (F := (sT s l).F) (F' := (sT s (l ++ [y])).F) (k0 := y.town.toNat)
    (by rw [openB_T, hk, ht]; unfold openB; rw [hk, ho]; simp [hf])
    (by rw [openB_T, hk, touch_snoc]; simp)
    (fun k hne => by rw [openB_T, openB_T, touch_snoc]; have : ¬ y.town = (k : Int) := by omega
                     simp [this]) 40
  rw [if_pos (by omega)] at hd
  exact hd
theorem open_again {s : St} {y : Cl} {l : List Cl} (ht : touch l y.town = true) : sT s (l ++ [y]) = sT s l := by
  unfold sT
  congr 1
  funext t
  rw [touch_snoc]
  by_cases hy : y.town = t
  · subst hy; simp [ht]
  · simp [hy]
/-- A call whose town is not that of the call before it is the first one of its town. -/
theorem touch_next {s : St} {wd hour : Int} {k : Nat} {x y : Cl} (hx : (dueL s.F wd hour)[k]? = some x) (hy : (dueL s.F wd hour)[k + 1]? = some y) : touch ((dueL s.F wd hour).take (k + 1)) y.town = decide (x.town = y.town) := by
  by_cases h : x.town = y.town
  · rw [decide_eq_true h]
    refine touch_mem.2 ⟨x, ?_, h⟩
    rw [take_snocS hx]
    exact List.mem_append_right _ (List.mem_singleton.2 rfl)
  · rw [decide_eq_false h, Bool.eq_false_iff]
    intro ht
    obtain ⟨c, hc, hct⟩ := touch_mem.1 ht
    have hs := List.pairwise_iff_getElem.1 (due_sorted s.F wd hour)
    obtain ⟨hkx, hxe⟩ := List.getElem?_eq_some_iff.1 hx
    obtain ⟨hky, hye⟩ := List.getElem?_eq_some_iff.1 hy
    obtain ⟨j, hj, hje⟩ := List.getElem_of_mem hc
    rw [List.getElem_take] at hje
    rw [List.length_take] at hj
    have hxy := hs k (k + 1) hkx hky (by omega)
    rw [hxe, hye] at hxy
    rcases Nat.lt_or_ge j k with hjk | hjk
    · have hcx := hs j k (by omega) hkx hjk
      rw [hje, hxe] at hcx
      omega
    · have : j = k := by omega
      subst this
      rw [hxe] at hje
      subst hje
      exact h hct
theorem due_end (s : St) (wd hour : Int) : dueL (sT s (dueL s.F wd hour)).F wd hour = [] := by
  rw [List.eq_nil_iff_forall_not_mem]
  intro y hy
  obtain ⟨h1, h2⟩ := mem_due.1 hy
  obtain ⟨o, ho, hf, t0, t1⟩ := openL_mem h1
  unfold sT at ho
  simp only at ho
  cases hF : s.F y.town with
  | none => simp [hF] at ho
  | some o' =>
    rw [hF] at ho
    simp only [Option.map_some, Option.some.injEq] at ho
    subst ho
    simp only [Bool.or_eq_false_iff] at hf
    have hm : y ∈ dueL s.F wd hour := by
      refine mem_due.2 ⟨mem_openL t0 t1 hF hf.1, ?_⟩
      unfold callsT at h2 ⊢
      rw [sT_at hF] at h2
      rw [hF]
      exact h2
    have := touch_mem.2 ⟨y, hm, rfl⟩
    rw [hf.2] at this
    cases this

end Go.Proofs.Ytlhaoiplbebgnaa
