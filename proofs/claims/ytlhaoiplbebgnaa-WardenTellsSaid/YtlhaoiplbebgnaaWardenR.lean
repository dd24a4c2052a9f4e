/- The reference of layer 44 keeps a list of all orders: that list as a state. -/
import Derived.Test.YtlhaoiplbebgnaaWardenAs
set_option linter.unusedSimpArgs false
set_option linter.unusedVariables false
namespace Go.Proofs.Ytlhaoiplbebgnaa
open Go.RowKit

structure Ro where
  town : Int
  level : Int
  hour : Int
  fin : Bool
def roC (x : Ro) : List Value := [.int .i64 x.town, .int .i64 x.level, .int .i64 x.hour, .bool x.fin]

/-- The index of the last order of a town among the first k. -/
def lastK (L : List Ro) (t : Int) : Nat → Option Nat
  | 0 => none
  | k + 1 => if L[k]?.map (·.town) = some t then some k else lastK L t k
def lastI (L : List Ro) (t : Int) : Option Nat := lastK L t L.length
def lastN (o : Option Nat) : Int := match o with
  | some i => (i : Int)
  | none => -1
def absF (L : List Ro) : Int → Option Od := fun t => (lastI L t).bind fun i => L[i]?.map fun x => ⟨x.level, (i : Int) + 1, x.hour, x.fin⟩
def absS (L : List Ro) : St := ⟨(L.length : Int), absF L⟩

theorem lastK_lt {L : List Ro} {t : Int} : ∀ {k i : Nat}, lastK L t k = some i → i < k ∧ ∃ x, L[i]? = some x ∧ x.town = t
  | 0, i, h => by cases h
  | k + 1, i, h => by
    unfold lastK at h
    split at h
    · rename_i hh
      injection h with h
      subst h
      cases hx : L[k]? with
      | none => rw [hx] at hh; cases hh
      | some x =>
        rw [hx] at hh
        simp only [Option.map_some, Option.some.injEq] at hh
        exact ⟨Nat.lt_succ_self _, x, rfl, hh⟩
    · obtain ⟨h1, h2⟩ := lastK_lt h
      exact ⟨by omega, h2⟩
theorem lastI_get {L : List Ro} {t : Int} {i : Nat} (h : lastI L t = some i) : ∃ x, L[i]? = some x ∧ x.town = t ∧ i < L.length ∧ absF L t = some ⟨x.level, (i : Int) + 1, x.hour, x.fin⟩ := by
  obtain ⟨h1, x, hx, ht⟩ := lastK_lt h
  refine ⟨x, hx, ht, h1, ?_⟩
  unfold absF
  rw [h]
  simp [hx]
theorem lastI_none {L : List Ro} {t : Int} (h : lastI L t = none) : absF L t = none := by unfold absF; rw [h]; rfl
/-- Only the towns count. -/
theorem lastK_congr {L L' : List Ro} {t : Int} : ∀ (k : Nat), (∀ i, i < k → L'[i]?.map (·.town) = L[i]?.map (·.town)) → lastK L' t k = lastK L t k
  | 0, _ => rfl
  | k + 1, h => by
    unfold lastK
    rw [h k (Nat.lt_succ_self _), lastK_congr k (fun i hi => h i (by omega))]
theorem lastI_snoc (L : List Ro) (x : Ro) (t : Int) : lastI (L ++ [x]) t = if x.town = t then some L.length else lastI L t := by
  unfold lastI
  rw [List.length_append, List.length_singleton]
  show (if (L ++ [x])[L.length]?.map (·.town) = some t then some L.length else lastK (L ++ [x]) t L.length) = _
  rw [show (L ++ [x])[L.length]? = some x by simp]
  have : lastK (L ++ [x]) t L.length = lastK L t L.length := lastK_congr _ (fun i hi => by rw [List.getElem?_append_left hi])
  rw [this]
  by_cases h : x.town = t
  · rw [if_pos (by simp [h]), if_pos h]
  · rw [if_neg (by simpa using h), if_neg h]
theorem abs_nil : absS [] = ⟨0, fun _ => none⟩ := rfl
theorem absF_some {L : List Ro} {t : Int} {i : Nat} (h : lastI L t = some i) : absF L t = L[i]?.map fun x => (⟨x.level, (i : Int) + 1, x.hour, x.fin⟩ : Od) := by unfold absF; rw [h]; rfl
theorem absF_same {L L' : List Ro} {j : Int} (h : lastI L' j = lastI L j) (h' : ∀ i, lastI L j = some i → L'[i]? = L[i]?) : absF L' j = absF L j := by
  cases hl : lastI L j with
  | none => rw [lastI_none hl, lastI_none (h.trans hl)]
  | some i => rw [absF_some hl, absF_some (h.trans hl), h' i hl]
theorem abs_raise (L : List Ro) {t lv h : Int} (hr : raiseOk t lv h) : absS (L ++ [⟨t, lv, h, false⟩]) = raiseS (absS L) t lv h := by
  unfold raiseS
  rw [if_pos hr]
  show (⟨((L ++ [(⟨t, lv, h, false⟩ : Ro)]).length : Int), absF (L ++ [⟨t, lv, h, false⟩])⟩ : St) = ⟨(L.length : Int) + 1, fun k => if k = t then some ⟨lv, (L.length : Int) + 1, h, false⟩ else absF L k⟩
  congr 1
  · simp
  · funext j
    by_cases hj : t = j
    · subst hj
      rw [if_pos rfl]
      have : lastI (L ++ [(⟨t, lv, h, false⟩ : Ro)]) t = some L.length := by rw [lastI_snoc, if_pos rfl]
      rw [absF_some this]
      simp
    · have hj' : ¬ j = t := fun h => hj h.symm
      rw [if_neg hj']
      refine absF_same (by rw [lastI_snoc, if_neg hj]) (fun i hi => ?_)
      obtain ⟨_, _, _, hlt, _⟩ := lastI_get hi
      rw [List.getElem?_append_left hlt]
def ackR (L : List Ro) (i : Nat) : List Ro := match L[i]? with
  | some x => L.set i ⟨x.town, x.level, x.hour, true⟩
  | none => L
theorem ackR_len (L : List Ro) (i : Nat) : (ackR L i).length = L.length := by unfold ackR; split <;> simp
theorem ackR_eq {L : List Ro} {i : Nat} {x : Ro} (h : L[i]? = some x) : ackR L i = L.set i ⟨x.town, x.level, x.hour, true⟩ := by unfold ackR; rw [h]
theorem abs_ack {L : List Ro} {wd : Int} {c : Cl} {i : Nat} (hi : lastI L c.town = some i) (ha : awaitsB (absF L) wd c.town c.number c.warden = true) : absS (ackR L i) = ackS wd (absS L) c := by
  obtain ⟨x, hx, ht, hlt, hF⟩ := lastI_get hi
  have hF' : (absS L).F c.town = some ⟨x.level, (i : Int) + 1, x.hour, x.fin⟩ := hF
  rw [ackS_fin wd (absS L) c _ hF', ackR_eq hx]
  show (⟨((L.set i ⟨x.town, x.level, x.hour, true⟩).length : Int), absF (L.set i ⟨x.town, x.level, x.hour, true⟩)⟩ : St) = ⟨(L.length : Int), fun j => if j = c.town then some ⟨x.level, (i : Int) + 1, x.hour, x.fin || awaitsB (absF L) wd c.town c.number c.warden⟩ else absF L j⟩
  have hl : ∀ j, lastI (L.set i ⟨x.town, x.level, x.hour, true⟩) j = lastI L j := by
    intro j
    unfold lastI
    rw [List.length_set]
    refine lastK_congr _ (fun k _ => ?_)
    by_cases hik : i = k
    · subst hik
      rw [List.getElem?_set_self hlt, hx]; rfl
    · rw [List.getElem?_set_ne hik]
  congr 1
  · simp
  · funext j
    by_cases hj : j = c.town
    · subst hj
      rw [if_pos rfl, absF_some ((hl _).trans hi), List.getElem?_set_self hlt, ha]
      simp
    · rw [if_neg hj]
      refine absF_same (hl j) (fun k hk => ?_)
      obtain ⟨y, hy, hyt, _, _⟩ := lastI_get hk
      have hik : i ≠ k := by
        rintro rfl
        rw [hx] at hy
        injection hy with hy
        subst hy
        exact hj (hyt.symm.trans ht)
      rw [List.getElem?_set_ne hik]

/-- A slice value of the call's own, after one element was set. -/
theorem own_set4 {l : List Ro} {i : Nat} {x : Ro} (hx : l[i]? = some x) : ((l.set i ⟨x.town, x.level, x.hour, true⟩).flatMap roC) = (l.flatMap roC).set (i * 4 + 3) (.bool true) := by
  induction l generalizing i with
  | nil => simp at hx
  | cons a r ih =>
    cases i with
    | zero =>
      simp only [List.getElem?_cons_zero, Option.some.injEq] at hx
      subst hx
      simp [roC, List.flatMap_cons]
    | succ i =>
      rw [List.getElem?_cons_succ] at hx
      rw [List.set_cons_succ, List.flatMap_cons, ih hx, List.flatMap_cons]
      rw [List.set_append]
      have hl4 : (roC a).length = 4 := rfl
      rw [if_neg (by rw [hl4]; omega), hl4]
      congr 2
      omega

end Go.Proofs.Ytlhaoiplbebgnaa
