/- The example that each law of layer 43 checks first. -/
import Derived.Test.YtlhaoiplbebgnaaAlarmC
import Derived.Deep.QuietTactic
import Derived.BigQuiet
set_option linter.unusedSimpArgs false
namespace Go.Proofs.Ytlhaoiplbebgnaa
open Go.RowKit

def exSights : List (Int × Bool) := [(9, false), (8, false), (4, false), (5, false), (-1, false), (-1, true), (-1, false)]
def exWant : List Int := [1, 2, 3, 3, 3, 3, 1]
theorem exLevels : (statesL 3 ⟨0, 0, 0⟩ exSights).map (·.l) = exWant := by decide +kernel
theorem exLevel {k : Nat} {x : Al} (h : (statesL 3 ⟨0, 0, 0⟩ exSights)[k]? = some x) : exWant[k]? = some x.l := by
  rw [← exLevels, List.getElem?_map, h]; rfl

theorem Below.of_Sl {α : Type} {c : α → List Value} {sz : Nat} {w : World} {A : Option Addr} {n : Nat} {l : List α} (h : Sl (Pl c) sz w w.heap.size A n l) (o : Obj) : Sl (Pl c) sz (w.alloc o) w.heap.size A n l :=
  h.keep (Pl.lasts c) ((Below.refl _ _).alloc (Nat.le_refl _) o) (Nat.le_refl _)

set_option maxRecDepth 100000 in
set_option maxHeartbeats 400000 in
theorem small_any (w : World) : Calls Try.prog 13 #[] w fun e w' => e = .returned (.bool true) ∧ Below w.heap.size w w' := by
  go_enter Try.func13, Try.ntmps13
  go_wp2_with fail
  refine (run_any _ _ _ _ _ _ _ _ 7 7 exSights _ (by omega) ?_).mono ?_
  · refine ⟨rfl, fun k x hx => ?_⟩
    refine ⟨w.heap.size + 1, 0, sightC x, rfl, by simp, rfl, fun j u hu => ?_⟩
    rw [(Bk.newAt _ (by simp) _ _).cell]
    have := flatMap_get sightC 2 (fun _ => rfl) exSights k x hx j u hu
    rw [← this, show 0 + k * 2 + j = k * 2 + j by omega]
    simp [exSights, sightC]
  · rintro e w1 ⟨A', cap', rfl, hb1, hs1⟩
    simp only [World.size_alloc] at hb1
    go_wp2
    go_loopw [4] (fun i wr => ∃ k : Nat, k ≤ 7 ∧ i = .int .i64 k ∧ Below (w1.heap.size + 1) (w1.alloc (.cells #[.int .i64 1, .int .i64 2, .int .i64 3, .int .i64 3, .int .i64 3, .int .i64 3, .int .i64 1] 3)) wr) (fun i _ => 7 - (intOf i).toNat)
    case atStart => exact ⟨0, by omega, rfl, Below.refl _ _⟩
    case round =>
      obtain ⟨k, hk, rfl, hb⟩ := hrel
      by_cases hlt : k < 7
      · obtain ⟨b, o, x, rfl, hbl, hx, hcx⟩ := (Below.of_Sl hs1 _).at_ hlt
        have hx' := exLevel hx
        have e0 := hcx wr (hb.mono (by omega)) 0 _ rfl
        simp only [Nat.add_zero] at e0
        have e1 : wr.cell? ⟨w1.heap.size, k, none⟩ = some (.int .i64 x.l) := by
          have h1 := ((Bk.new w1 _ _).below hb (by omega)).cell k
          rw [h1]
          have : (exWant.map (Value.int .i64))[k]? = some (.int .i64 x.l) := by rw [List.getElem?_map, hx']; rfl
          rw [← this]; simp [exWant]
        clear hx hx' hcx hs1
        have hg : decide ((7 : Int) ≤ (k : Int)) = false := by simp; omega
        have hg2 : (k : Int) < 7 := by omega
        go_wp2_with fail
        go_quiet (fail)
        go_wp2
        go_roundw
        case rel => exact ⟨k + 1, by omega, by go_num, below_toN hb _⟩
        case measure => simp [intOf]; omega
      · have hk7 : k = 7 := by omega
        subst hk7
        go_wp2
        go_ret
        exact ⟨rfl, ((((Below.refl _ _).alloc (Nat.le_refl _) _).alloc (by simp) _).trans (hb1.mono (by omega))).trans (((Below.refl _ _).alloc (by have := hb1.size; simp at this; omega) _).trans (hb.mono (by have := hb1.size; simp at this; omega)))⟩

end Go.Proofs.Ytlhaoiplbebgnaa
