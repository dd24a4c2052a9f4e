/- The plain laws of the alarms: what the levels of a sequence of sights do. No program in sight. -/
import Derived.Test.YtlhaoiplbebgnaaAlarmB
set_option linter.unusedSimpArgs false
set_option linter.unusedVariables false
namespace Go.Proofs.Ytlhaoiplbebgnaa
open Go.RowKit

def stL (ld : Int) (ss : List (Int × Bool)) (k : Nat) : Al := foldL ld ⟨0, 0, 0⟩ (ss.take k)

theorem stL_succ {ld : Int} {ss : List (Int × Bool)} {k : Nat} {s : Int × Bool} (h : ss[k]? = some s) : stL ld ss (k + 1) = nextL ld (stL ld ss k) s := foldL_take h

theorem statesL_get (ld : Int) : ∀ (ss : List (Int × Bool)) (a : Al) (k : Nat) (x : Al), (statesL ld a ss)[k]? = some x → x = foldL ld a (ss.take (k + 1))
  | [], a, k, x, h => by simp [statesL] at h
  | s :: r, a, 0, x, h => by
    simp only [statesL, List.getElem?_cons_zero, Option.some.injEq] at h
    rw [← h]; rfl
  | s :: r, a, k + 1, x, h => by
    simp only [statesL, List.getElem?_cons_succ] at h
    rw [statesL_get ld r (nextL ld a s) k x h]; rfl

theorem dem_bd (ld c : Int) (q : Bool) : 0 ≤ demandL ld c q ∧ demandL ld c q ≤ 3 := by
  unfold demandL
  (repeat' split) <;> omega

structure Inv (ld : Int) (ss : List (Int × Bool)) (k : Nat) : Prop where
  l0 : 0 ≤ (stL ld ss k).l
  l3 : (stL ld ss k).l ≤ 3
  c0 : 0 ≤ (stL ld ss k).c
  c2 : (stL ld ss k).c ≤ 2
  pos : 0 < (stL ld ss k).l → 1 ≤ k
  one : 1 ≤ (stL ld ss k).c → 2 ≤ k ∧ (stL ld ss (k - 1)).l = (stL ld ss k).l ∧ ∃ s, ss[k - 1]? = some s ∧ demandL ld s.1 s.2 < (stL ld ss k).l ∧ (3 ≤ (stL ld ss k).l → s.1 < 0) ∧
    ((stL ld ss k).c = 1 → (stL ld ss k).t = demandL ld s.1 s.2)
  two : 2 ≤ (stL ld ss k).c → 3 ≤ k ∧ (stL ld ss (k - 2)).l = (stL ld ss k).l ∧ ∃ s s', ss[k - 1]? = some s ∧ ss[k - 2]? = some s' ∧ demandL ld s'.1 s'.2 < (stL ld ss k).l ∧ (3 ≤ (stL ld ss k).l → s'.1 < 0) ∧
    (stL ld ss k).t = max (demandL ld s.1 s.2) (demandL ld s'.1 s'.2)

/-- The four ways of a step, from a state that the invariant allows. -/
theorem nextL_ways {ld : Int} {a : Al} {s : Int × Bool} (c0 : 0 ≤ a.c) (c2 : a.c ≤ 2) :
    (a.l ≤ demandL ld s.1 s.2 ∧ nextL ld a s = ⟨demandL ld s.1 s.2, 0, 0⟩) ∨
    (demandL ld s.1 s.2 < a.l ∧ 3 ≤ a.l ∧ 0 ≤ s.1 ∧ nextL ld a s = ⟨a.l, 0, 0⟩) ∨
    (demandL ld s.1 s.2 < a.l ∧ (3 ≤ a.l → s.1 < 0) ∧ a.c = 2 ∧ nextL ld a s = ⟨max (demandL ld s.1 s.2) a.t, 0, 0⟩) ∨
    (demandL ld s.1 s.2 < a.l ∧ (3 ≤ a.l → s.1 < 0) ∧ a.c ≤ 1 ∧ nextL ld a s = ⟨a.l, a.c + 1, if a.c = 0 then demandL ld s.1 s.2 else max (demandL ld s.1 s.2) a.t⟩) := by
  unfold nextL
  by_cases h1 : a.l ≤ demandL ld s.1 s.2
  · rw [if_pos h1]; exact .inl ⟨h1, rfl⟩
  rw [if_neg h1]
  by_cases h2 : 3 ≤ a.l ∧ 0 ≤ s.1
  · rw [if_pos h2]; exact .inr (.inl ⟨by omega, h2.1, h2.2, rfl⟩)
  rw [if_neg h2]
  by_cases h3 : 2 ≤ a.c
  · rw [if_pos h3, if_neg (by omega)]
    exact .inr (.inr (.inl ⟨by omega, fun h => by omega, by omega, rfl⟩))
  · rw [if_neg h3, IntWalk.wrap64_in (a.c + 1) ⟨by omega, by omega⟩]
    exact .inr (.inr (.inr ⟨by omega, fun h => by omega, by omega, rfl⟩))

theorem inv_all (ld : Int) (ss : List (Int × Bool)) : ∀ k, k ≤ ss.length → Inv ld ss k
  | 0, _ => by
    have e : stL ld ss 0 = ⟨0, 0, 0⟩ := rfl
    constructor <;> rw [e] <;> simp
  | k + 1, hk => by
    have ih := inv_all ld ss k (by omega)
    have hs : ss[k]? = some ss[k] := List.getElem?_eq_getElem (by omega)
    have e := stL_succ (ld := ld) hs
    have db := dem_bd ld ss[k].1 ss[k].2
    have i0 := ih.l0
    have i3 := ih.l3
    rcases nextL_ways (ld := ld) (a := stL ld ss k) (s := ss[k]) ih.c0 ih.c2 with ⟨h1, hn⟩ | ⟨h1, h2, h3, hn⟩ | ⟨h1, h2, h3, hn⟩ | ⟨h1, h2, h3, hn⟩
    · rw [hn] at e
      constructor <;> rw [e] <;> simp <;> omega
    · rw [hn] at e
      constructor <;> rw [e] <;> simp <;> omega
    · rw [hn] at e
      obtain ⟨k3, _, s, s', hs1, hs2, hd', _, ht⟩ := ih.two (by omega)
      obtain ⟨_, _, s1, hs1', hd1, _, _⟩ := ih.one (by omega)
      rw [hs1] at hs1'
      injection hs1' with hs1'
      subst hs1'
      have db1 := dem_bd ld s.1 s.2
      constructor <;> rw [e] <;> simp <;> omega
    · rw [hn] at e
      have c0 := ih.c0
      refine ⟨by rw [e]; exact i0, by rw [e]; exact i3, by rw [e]; simp; omega, by rw [e]; simp; omega, fun _ => by omega, fun _ => ?_, fun hc => ?_⟩
      · have hp := ih.pos (by omega)
        refine ⟨by omega, by rw [e]; rfl, ss[k], by rw [Nat.add_sub_cancel]; exact hs, by rw [e]; exact h1, by rw [e]; exact h2, fun h => ?_⟩
        rw [e] at h ⊢
        simp only at h ⊢
        rw [if_pos (by omega)]
      · rw [e] at hc
        simp only at hc
        obtain ⟨k2, hl, s1, hs1, hd1, hn1, ht1⟩ := ih.one (by omega)
        refine ⟨by omega, by rw [e, show k + 1 - 2 = k - 1 by omega]; exact hl, ss[k], s1, by rw [Nat.add_sub_cancel]; exact hs, by rw [show k + 1 - 2 = k - 1 by omega]; exact hs1, by rw [e]; exact hd1, by rw [e]; exact hn1, ?_⟩
        rw [e]
        simp only
        rw [if_neg (by omega), ht1 (by omega)]

theorem order_stands {ld : Int} {ss : List (Int × Bool)} {k : Nat} {s : Int × Bool} (hs : ss[k]? = some s) :
    demandL ld s.1 s.2 ≤ (stL ld ss (k + 1)).l ∧ (stL ld ss (k + 1)).l ≤ 3 := by
  have hk : k < ss.length := (List.getElem?_eq_some_iff.1 hs).1
  have i := inv_all ld ss k (by omega)
  have i' := inv_all ld ss (k + 1) (by omega)
  refine ⟨?_, i'.l3⟩
  have e := stL_succ (ld := ld) hs
  rcases nextL_ways (ld := ld) (a := stL ld ss k) (s := s) i.c0 i.c2 with ⟨h1, hn⟩ | ⟨h1, h2, h3, hn⟩ | ⟨h1, h2, h3, hn⟩ | ⟨h1, h2, h3, hn⟩ <;> rw [e, hn] <;> simp <;> omega

theorem order_when {ld c : Int} {q : Bool} (h0 : 0 ≤ ld) (h1 : ld ≤ 24) (hc : 0 ≤ c) (hc' : c ≤ ld + 1) : demandL ld c q = 3 := by
  unfold demandL
  rw [if_pos hc, if_pos (by rw [IntWalk.wrap64_in (ld + 1) ⟨by omega, by omega⟩]; exact hc')]

theorem order_ends {ld : Int} {ss : List (Int × Bool)} {k : Nat} {s : Int × Bool} (hs : ss[k]? = some s) (h3 : (stL ld ss k).l = 3) (hn3 : (stL ld ss (k + 1)).l ≠ 3) :
    3 ≤ k ∧ s.1 < 0 ∧ ∃ s1 s2, ss[k - 1]? = some s1 ∧ ss[k - 2]? = some s2 ∧ s1.1 < 0 ∧ s2.1 < 0 := by
  have hk : k < ss.length := (List.getElem?_eq_some_iff.1 hs).1
  have i := inv_all ld ss k (by omega)
  have e := stL_succ (ld := ld) hs
  have db := dem_bd ld s.1 s.2
  rcases nextL_ways (ld := ld) (a := stL ld ss k) (s := s) i.c0 i.c2 with ⟨h1, hn⟩ | ⟨h1, h2, h3', hn⟩ | ⟨h1, h2, h3', hn⟩ | ⟨h1, h2, h3', hn⟩
  · rw [e, hn] at hn3
    simp only at hn3
    omega
  · rw [e, hn] at hn3; exact absurd h3 hn3
  · obtain ⟨_, _, s1, hs1, _, hn1, _⟩ := i.one (by omega)
    obtain ⟨k3, _, s1', s2, _, hs2, _, hn2, _⟩ := i.two (by omega)
    exact ⟨k3, h2 (by omega), s1, s2, hs1, hs2, hn1 (by omega), hn2 (by omega)⟩
  · rw [e, hn] at hn3; exact absurd h3 hn3

theorem level_rises {ld : Int} {ss : List (Int × Bool)} {k : Nat} {s : Int × Bool} (hs : ss[k]? = some s) (h : (stL ld ss k).l < (stL ld ss (k + 1)).l) : (stL ld ss (k + 1)).l = demandL ld s.1 s.2 := by
  have hk : k < ss.length := (List.getElem?_eq_some_iff.1 hs).1
  have i := inv_all ld ss k (by omega)
  have e := stL_succ (ld := ld) hs
  rcases nextL_ways (ld := ld) (a := stL ld ss k) (s := s) i.c0 i.c2 with ⟨h1, hn⟩ | ⟨h1, h2, h3', hn⟩ | ⟨h1, h2, h3', hn⟩ | ⟨h1, h2, h3', hn⟩
  · rw [e, hn]
  · rw [e, hn] at h; exact absurd h (Int.lt_irrefl _)
  · obtain ⟨_, _, s1, hs1, hd1, _, _⟩ := i.one (by omega)
    obtain ⟨_, _, s1', s2, hs1', hs2, hd2, _, ht⟩ := i.two (by omega)
    rw [hs1] at hs1'
    injection hs1' with hs1'
    subst hs1'
    rw [e, hn] at h
    simp only [ht] at h
    omega
  · rw [e, hn] at h; exact absurd h (Int.lt_irrefl _)

theorem level_falls {ld : Int} {ss : List (Int × Bool)} {k : Nat} {s : Int × Bool} (hs : ss[k]? = some s) (h : (stL ld ss (k + 1)).l < (stL ld ss k).l) :
    3 ≤ k ∧ (stL ld ss (k - 1)).l = (stL ld ss k).l ∧ (stL ld ss (k - 2)).l = (stL ld ss k).l ∧ ∃ s1 s2, ss[k - 1]? = some s1 ∧ ss[k - 2]? = some s2 ∧
      demandL ld s.1 s.2 < (stL ld ss k).l ∧ demandL ld s1.1 s1.2 < (stL ld ss k).l ∧ demandL ld s2.1 s2.2 < (stL ld ss k).l ∧
      (stL ld ss (k + 1)).l = max (demandL ld s.1 s.2) (max (demandL ld s1.1 s1.2) (demandL ld s2.1 s2.2)) := by
  have hk : k < ss.length := (List.getElem?_eq_some_iff.1 hs).1
  have i := inv_all ld ss k (by omega)
  have e := stL_succ (ld := ld) hs
  rcases nextL_ways (ld := ld) (a := stL ld ss k) (s := s) i.c0 i.c2 with ⟨h1, hn⟩ | ⟨h1, h2, h3', hn⟩ | ⟨h1, h2, h3', hn⟩ | ⟨h1, h2, h3', hn⟩
  · rw [e, hn] at h; simp only at h; omega
  · rw [e, hn] at h; exact absurd h (Int.lt_irrefl _)
  · obtain ⟨_, hl1, s1, hs1, hd1, _, _⟩ := i.one (by omega)
    obtain ⟨k3, hl2, s1', s2, hs1', hs2, hd2, _, ht⟩ := i.two (by omega)
    rw [hs1] at hs1'
    injection hs1' with hs1'
    subst hs1'
    exact ⟨k3, hl1, hl2, s1, s2, hs1, hs2, h1, hd1, hd2, by rw [e, hn, ← ht]⟩
  · rw [e, hn] at h; exact absurd h (Int.lt_irrefl _)

end Go.Proofs.Ytlhaoiplbebgnaa
