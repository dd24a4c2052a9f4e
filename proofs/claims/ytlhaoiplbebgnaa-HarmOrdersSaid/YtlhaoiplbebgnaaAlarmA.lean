/- The walks of package alarm's Next and Run and of the reference's. -/
import Derived.Test.YtlhaoiplbebgnaaLib
namespace Go.Proofs.Ytlhaoiplbebgnaa
open Go.RowKit

def demandL (ld c : Int) (q : Bool) : Int := if 0 ≤ c then (if c ≤ wrap64 (ld + 1) then 3 else if c ≤ wrap64 (wrap64 (2 * ld) + 2) then 2 else 1) else if q then 1 else 0

structure Al where
  l : Int
  c : Int
  t : Int

def nextL (ld : Int) (a : Al) (s : Int × Bool) : Al :=
  if a.l ≤ demandL ld s.1 s.2 then ⟨demandL ld s.1 s.2, 0, 0⟩
  else if 3 ≤ a.l ∧ 0 ≤ s.1 then ⟨a.l, 0, 0⟩
  else
    if 2 ≤ a.c then ⟨if a.c = 0 then demandL ld s.1 s.2 else max (demandL ld s.1 s.2) a.t, 0, 0⟩
    else ⟨a.l, wrap64 (a.c + 1), if a.c = 0 then demandL ld s.1 s.2 else max (demandL ld s.1 s.2) a.t⟩

def alC (a : Al) : List Value := [.int .i64 a.l, .int .i64 a.c, .int .i64 a.t]
def sightC (s : Int × Bool) : List Value := [.int .i64 s.1, .bool s.2]

def statesL (ld : Int) (a : Al) : List (Int × Bool) → List Al
  | [] => []
  | s :: r => nextL ld a s :: statesL ld (nextL ld a s) r
def foldL (ld : Int) (a : Al) (l : List (Int × Bool)) : Al := l.foldl (nextL ld) a

theorem foldL_snoc (ld : Int) (a : Al) (l : List (Int × Bool)) (s : Int × Bool) : foldL ld a (l ++ [s]) = nextL ld (foldL ld a l) s := by simp [foldL]
theorem statesL_snoc (ld : Int) : ∀ (l : List (Int × Bool)) (a : Al) (s : Int × Bool), statesL ld a (l ++ [s]) = statesL ld a l ++ [nextL ld (foldL ld a l) s]
  | [], a, s => rfl
  | x :: r, a, s => by
    show nextL ld a x :: statesL ld (nextL ld a x) (r ++ [s]) = nextL ld a x :: (statesL ld (nextL ld a x) r ++ [nextL ld (foldL ld (nextL ld a x) r) s])
    rw [statesL_snoc ld r]
theorem take_snoc {α : Type} {l : List α} {k : Nat} {x : α} (h : l[k]? = some x) : l.take (k + 1) = l.take k ++ [x] := by
  rw [List.take_add_one, h]; rfl

set_option maxHeartbeats 400000 in
theorem demand_any (nm : ByteArray) (pl fl ld pe wa qu : Int) (c : Int) (q : Bool) (w : World) :
    Calls Try.prog 39 #[.agg #[.string nm, .int .i64 pl, .int .i64 fl, .int .i64 ld, .int .i64 pe, .int .i64 wa, .int .i64 qu], .agg #[.int .i64 c, .bool q]] w fun e w' => e = .returned (.int .i64 (demandL ld c q)) ∧ Below w.heap.size w w' := by
  go_enter Try.func39, Try.ntmps39
  go_wp2
  all_goals
    go_ret
    refine ⟨ret_int ?_, ((Below.refl _ _).alloc (Nat.le_refl _) _).alloc (by simp <;> omega) _⟩
    simp only [demandL]
  · rw [if_pos (by assumption), if_pos (by assumption)]
  · rw [if_pos (by assumption), if_neg (by omega), if_pos (by assumption)]
  · rw [if_pos (by assumption), if_neg (by omega), if_neg (by omega)]
  · rw [if_neg (by omega)]; simp [*]
  · rw [if_neg (by omega)]; simp [*]

set_option maxHeartbeats 400000 in
theorem refDemand_any (nm : ByteArray) (pl fl ld pe wa qu : Int) (c : Int) (q : Bool) (w : World) :
    Calls Try.prog 18 #[.agg #[.string nm, .int .i64 pl, .int .i64 fl, .int .i64 ld, .int .i64 pe, .int .i64 wa, .int .i64 qu], .agg #[.int .i64 c, .bool q]] w fun e w' => e = .returned (.int .i64 (demandL ld c q)) ∧ Below w.heap.size w w' := by
  go_enter Try.func18, Try.ntmps18
  go_wp2
  all_goals
    go_ret
    refine ⟨ret_int ?_, ((Below.refl _ _).alloc (Nat.le_refl _) _).alloc (by simp <;> omega) _⟩
    simp only [demandL]
  · rw [if_neg (by omega)]; simp [*]
  · rw [if_neg (by omega)]; simp [*]
  · rw [if_pos (by assumption), if_pos (by assumption)]
  · rw [if_pos (by assumption), if_neg (by omega), if_pos (by assumption)]
  · rw [if_pos (by assumption), if_neg (by omega), if_neg (by omega)]

set_option maxHeartbeats 1000000 in
theorem next_any (nm : ByteArray) (pl fl ld pe wa qu : Int) (c : Int) (q : Bool) (l0 c0 t0 : Int) (w : World) :
    Calls Try.prog 16 #[.agg #[.string nm, .int .i64 pl, .int .i64 fl, .int .i64 ld, .int .i64 pe, .int .i64 wa, .int .i64 qu], .agg #[.int .i64 l0, .int .i64 c0, .int .i64 t0], .agg #[.int .i64 c, .bool q]] w fun e w' => e = .returned (.agg #[.int .i64 (nextL ld ⟨l0, c0, t0⟩ (c, q)).l, .int .i64 (nextL ld ⟨l0, c0, t0⟩ (c, q)).c, .int .i64 (nextL ld ⟨l0, c0, t0⟩ (c, q)).t]) ∧ Below w.heap.size w w' := by
  go_enter Try.func16, Try.ntmps16
  go_wp2_with (go_at_call 39; refine (demand_any _ _ _ _ _ _ _ _ _ _).mono ?_; rintro e w1 ⟨rfl, hb1⟩; obtain ⟨hc1, hf1⟩ := bcell hb1; have hz1 := hb1.size; simp at hz1)
  all_goals
    refine bodyPost_ret (v := .agg #[.int .i64 (nextL ld ⟨l0, c0, t0⟩ (c, q)).l, .int .i64 (nextL ld ⟨l0, c0, t0⟩ (c, q)).c, .int .i64 (nextL ld ⟨l0, c0, t0⟩ (c, q)).t]) ?_ rfl ⟨rfl, ?_⟩
    · simp [results, Try.results16, go_sem, *]
      clear hb1 hc1 hf1 hz1
      try simp only [bne_iff_ne, ne_eq, bne_eq_false_iff_eq] at *
      unfold nextL
      dsimp only
      (repeat' split) <;> (refine ⟨?_, ?_, ?_⟩) <;> dsimp only <;> omega
    · exact (((((((((Below.refl _ _).alloc (Nat.le_refl _) _).alloc (by simp <;> omega) _).alloc (by simp <;> omega) _).alloc (by simp <;> omega) _).trans (hb1.mono (by simp <;> omega))).setCell (by simp <;> omega) _).setCell (by simp <;> omega) _).setCell (by simp <;> omega) _)

set_option maxHeartbeats 1000000 in
theorem refNext_any (nm : ByteArray) (pl fl ld pe wa qu : Int) (c : Int) (q : Bool) (l0 c0 t0 : Int) (w : World) :
    Calls Try.prog 17 #[.agg #[.string nm, .int .i64 pl, .int .i64 fl, .int .i64 ld, .int .i64 pe, .int .i64 wa, .int .i64 qu], .agg #[.int .i64 l0, .int .i64 c0, .int .i64 t0], .agg #[.int .i64 c, .bool q]] w fun e w' => e = .returned (.agg #[.int .i64 (nextL ld ⟨l0, c0, t0⟩ (c, q)).l, .int .i64 (nextL ld ⟨l0, c0, t0⟩ (c, q)).c, .int .i64 (nextL ld ⟨l0, c0, t0⟩ (c, q)).t]) ∧ Below w.heap.size w w' := by
  by_cases hz0 : c0 = 0
  · subst hz0
    go_enter Try.func17, Try.ntmps17
    go_wp2_with (go_at_call 18; refine (refDemand_any _ _ _ _ _ _ _ _ _ _).mono ?_; rintro e w1 ⟨rfl, hb1⟩; obtain ⟨hc1, hf1⟩ := bcell hb1; have hz1 := hb1.size; simp at hz1)
    all_goals
      refine bodyPost_ret (v := .agg #[.int .i64 (nextL ld ⟨l0, 0, t0⟩ (c, q)).l, .int .i64 (nextL ld ⟨l0, 0, t0⟩ (c, q)).c, .int .i64 (nextL ld ⟨l0, 0, t0⟩ (c, q)).t]) ?_ rfl ⟨rfl, ?_⟩
      · simp [results, Try.results17, go_sem, *]
        clear hb1 hc1 hf1 hz1
        try simp only [bne_iff_ne, ne_eq, bne_eq_false_iff_eq] at *
        unfold nextL
        dsimp only
        (repeat' split) <;> (refine ⟨?_, ?_, ?_⟩) <;> dsimp only <;> (first | omega | exact (IntWalk.wrap64_in (0 + 1) ⟨by omega, by omega⟩).symm)
      · exact (((((((((Below.refl _ _).alloc (Nat.le_refl _) _).alloc (by simp <;> omega) _).alloc (by simp <;> omega) _).alloc (by simp <;> omega) _).trans (hb1.mono (by simp <;> omega))).setCell (by simp <;> omega) _).setCell (by simp <;> omega) _).setCell (by simp <;> omega) _)
  · have hz0' : (c0 != 0) = true := by simp [hz0]
    go_enter Try.func17, Try.ntmps17
    go_wp2_with (go_at_call 18; refine (refDemand_any _ _ _ _ _ _ _ _ _ _).mono ?_; rintro e w1 ⟨rfl, hb1⟩; obtain ⟨hc1, hf1⟩ := bcell hb1; have hz1 := hb1.size; simp at hz1)
    all_goals
      refine bodyPost_ret (v := .agg #[.int .i64 (nextL ld ⟨l0, c0, t0⟩ (c, q)).l, .int .i64 (nextL ld ⟨l0, c0, t0⟩ (c, q)).c, .int .i64 (nextL ld ⟨l0, c0, t0⟩ (c, q)).t]) ?_ rfl ⟨rfl, ?_⟩
      · simp [results, Try.results17, go_sem, *]
        clear hb1 hc1 hf1 hz1
        try simp only [bne_iff_ne, ne_eq] at *
        unfold nextL
        dsimp only
        (repeat' split) <;> (refine ⟨?_, ?_, ?_⟩) <;> dsimp only <;> omega
      · exact (((((((((Below.refl _ _).alloc (Nat.le_refl _) _).alloc (by simp <;> omega) _).alloc (by simp <;> omega) _).alloc (by simp <;> omega) _).trans (hb1.mono (by simp <;> omega))).setCell (by simp <;> omega) _).setCell (by simp <;> omega) _).setCell (by simp <;> omega) _)

end Go.Proofs.Ytlhaoiplbebgnaa
