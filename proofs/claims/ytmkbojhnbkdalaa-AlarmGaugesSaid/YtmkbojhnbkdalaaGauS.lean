/- The example that each law of layer 43 checks first. -/
import Derived.Test.YtmkbojhnbkdalaaLib
import Derived.StillTailTactics
import Derived.Deep.QuietTactic
import Derived.BigQuiet
set_option linter.unusedSimpArgs false
set_option linter.unusedVariables false
namespace Go.Proofs.Ytmkbojhnbkdalaa
open Go.RowKit

def demandL (ld c : Int) (q : Bool) : Int := if 0 ≤ c then (if c ≤ wrap64 (ld + 1) then 3 else if c ≤ wrap64 (wrap64 (2 * ld) + 2) then 2 else 1) else if q then 1 else 0

structure Al where
  l : Int
  c : Int
  t : Int

def nextL (ld : Int) (a : Al) (s : Int × Bool) : Al :=
  if a.l ≤ demandL ld s.1 s.2 then ⟨demandL ld s.1 s.2, 0, 0⟩
  else if 3 ≤ a.l ∧ 0 ≤ s.1 then ⟨a.l, 0, 0⟩
  else
    if 2 ≤ a.c then ⟨if a.c = 0 then demandL ld s.1 s.2 else max (demandL ld s.1 s.2) a.t, 0, 0⟩
    else ⟨a.l, wrap64 (a.c + 1), if a.c = 0 then demandL ld s.1 s.2 else max (demandL ld s.1 s.2) a.t⟩

def alC (a : Al) : List Value := [.int .i64 a.l, .int .i64 a.c, .int .i64 a.t]
def sightC (s : Int × Bool) : List Value := [.int .i64 s.1, .bool s.2]

def statesL (ld : Int) (a : Al) : List (Int × Bool) → List Al
  | [] => []
  | s :: r => nextL ld a s :: statesL ld (nextL ld a s) r
def foldL (ld : Int) (a : Al) (l : List (Int × Bool)) : Al := l.foldl (nextL ld) a

theorem foldL_snoc (ld : Int) (a : Al) (l : List (Int × Bool)) (s : Int × Bool) : foldL ld a (l ++ [s]) = nextL ld (foldL ld a l) s := by simp [foldL]
theorem statesL_snoc (ld : Int) : ∀ (l : List (Int × Bool)) (a : Al) (s : Int × Bool), statesL ld a (l ++ [s]) = statesL ld a l ++ [nextL ld (foldL ld a l) s]
  | [], a, s => rfl
  | x :: r, a, s => by
    show nextL ld a x :: statesL ld (nextL ld a x) (r ++ [s]) = nextL ld a x :: (statesL ld (nextL ld a x) r ++ [nextL ld (foldL ld (nextL ld a x) r) s])
    rw [statesL_snoc ld r]
theorem take_snoc {α : Type} {l : List α} {k : Nat} {x : α} (h : l[k]? = some x) : l.take (k + 1) = l.take k ++ [x] := by
  rw [List.take_add_one, h]; rfl

set_option maxHeartbeats 400000 in
theorem demand_any (nm : ByteArray) (pl fl ld pe wa qu : Int) (c : Int) (q : Bool) (w : World) :
    Calls Try.prog 67 #[.agg #[.string nm, .int .i64 pl, .int .i64 fl, .int .i64 ld, .int .i64 pe, .int .i64 wa, .int .i64 qu], .agg #[.int .i64 c, .bool q]] w fun e w' => e = .returned (.int .i64 (demandL ld c q)) ∧ Below w.heap.size w w' := by
  go_enter Try.func67, Try.ntmps67
  go_wp2
  all_goals
    go_ret
    refine ⟨ret_int ?_, ((Below.refl _ _).alloc (Nat.le_refl _) _).alloc (by simp <;> omega) _⟩
    simp only [demandL]
  · rw [if_pos (by assumption), if_pos (by assumption)]
  · rw [if_pos (by assumption), if_neg (by omega), if_pos (by assumption)]
  · rw [if_pos (by assumption), if_neg (by omega), if_neg (by omega)]
  · rw [if_neg (by omega)]; simp [*]
  · rw [if_neg (by omega)]; simp [*]

set_option maxHeartbeats 1000000 in
theorem next_any (nm : ByteArray) (pl fl ld pe wa qu : Int) (c : Int) (q : Bool) (l0 c0 t0 : Int) (w : World) :
    Calls Try.prog 28 #[.agg #[.string nm, .int .i64 pl, .int .i64 fl, .int .i64 ld, .int .i64 pe, .int .i64 wa, .int .i64 qu], .agg #[.int .i64 l0, .int .i64 c0, .int .i64 t0], .agg #[.int .i64 c, .bool q]] w fun e w' => e = .returned (.agg #[.int .i64 (nextL ld ⟨l0, c0, t0⟩ (c, q)).l, .int .i64 (nextL ld ⟨l0, c0, t0⟩ (c, q)).c, .int .i64 (nextL ld ⟨l0, c0, t0⟩ (c, q)).t]) ∧ Below w.heap.size w w' := by
  go_enter Try.func28, Try.ntmps28
  go_wp2_with (go_at_call 67; refine (demand_any _ _ _ _ _ _ _ _ _ _).mono ?_; rintro e w1 ⟨rfl, hb1⟩; obtain ⟨hc1, hf1⟩ := bcell hb1; have hz1 := hb1.size; simp at hz1)
  all_goals
    refine bodyPost_ret (v := .agg #[.int .i64 (nextL ld ⟨l0, c0, t0⟩ (c, q)).l, .int .i64 (nextL ld ⟨l0, c0, t0⟩ (c, q)).c, .int .i64 (nextL ld ⟨l0, c0, t0⟩ (c, q)).t]) ?_ rfl ⟨rfl, ?_⟩
    · simp [results, Try.results28, go_sem, *]
      clear hb1 hc1 hf1 hz1
      try simp only [bne_iff_ne, ne_eq, bne_eq_false_iff_eq] at *
      unfold nextL
      dsimp only
      (repeat' split) <;> (refine ⟨?_, ?_, ?_⟩) <;> dsimp only <;> omega
    · exact (((((((((Below.refl _ _).alloc (Nat.le_refl _) _).alloc (by simp <;> omega) _).alloc (by simp <;> omega) _).alloc (by simp <;> omega) _).trans (hb1.mono (by simp <;> omega))).setCell (by simp <;> omega) _).setCell (by simp <;> omega) _).setCell (by simp <;> omega) _)


theorem foldL_take {ld : Int} {a : Al} {l : List (Int × Bool)} {k : Nat} {x : Int × Bool} (h : l[k]? = some x) : foldL ld a (l.take (k + 1)) = nextL ld (foldL ld a (l.take k)) x := by
  rw [take_snoc h, foldL_snoc]
theorem statesL_take {ld : Int} {a : Al} {l : List (Int × Bool)} {k : Nat} {x : Int × Bool} (h : l[k]? = some x) : statesL ld a (l.take (k + 1)) = statesL ld a (l.take k) ++ [nextL ld (foldL ld a (l.take k)) x] := by
  rw [take_snoc h, statesL_snoc]

def RunRel (w wr : World) (tt ta : TypeId) (town : Array Value) (ld : Int) (ss : List (Int × Bool)) (k : Nat) (out : Value) : Prop :=
  Below w.heap.size w wr ∧ Bk wr w.heap.size tt town ∧ Bk wr (w.heap.size + 1) ta (alC (foldL ld ⟨0, 0, 0⟩ (ss.take k))).toArray ∧
  wr.ownsRow (w.heap.size + 2) ta 3 out k ((statesL ld ⟨0, 0, 0⟩ (ss.take k)).flatMap alC)

theorem info_al : (Try.prog.info? 55).map (fun i => (i.zero, i.size, i.bytes)) = some (some (.agg #[.int .i64 0, .int .i64 0, .int .i64 0]), 3, 24) := by kernel_rfl

set_option maxRecDepth 100000 in
set_option maxHeartbeats 400000 in
theorem run_any (nm : ByteArray) (pl fl ld pe wa qu : Int) (A : Option Addr) (n cap : Nat) (ss : List (Int × Bool)) (w : World) (hn : n ≤ 100) (hs : Sl (Pl sightC) 2 w w.heap.size A n ss) :
    Calls Try.prog 10 #[.agg #[.string nm, .int .i64 pl, .int .i64 fl, .int .i64 ld, .int .i64 pe, .int .i64 wa, .int .i64 qu], .slice A n cap] w fun e w' =>
      ∃ A' cap', e = .returned (.slice A' n cap') ∧ Below w.heap.size w w' ∧ Sl (Pl alC) 3 w' w'.heap.size A' n (statesL ld ⟨0, 0, 0⟩ ss) := by
  obtain ⟨i0, ti0, ti1, ti2, ti3⟩ := info_parts info_al
  go_enter Try.func10, Try.ntmps10
  go_wp2
  go_loopw [6, 8, 11] (fun out _ i wr => ∃ k : Nat, k ≤ n ∧ i = .int .i64 k ∧ RunRel w wr 41 55 #[.string nm, .int .i64 pl, .int .i64 fl, .int .i64 ld, .int .i64 pe, .int .i64 wa, .int .i64 qu] ld ss k out) (fun _ _ i _ => n - (intOf i).toNat)
  case atStart =>
    refine ⟨0, Nat.zero_le _, rfl, ((Below.refl _ _).alloc (Nat.le_refl _) _).alloc (by simp) _, (Bk.new w _ _).alloc _, ?_, World.ownsRow_nil _ _ _ _⟩
    exact Bk.newAt _ (by simp) _ _
  case round =>
    obtain ⟨k, hk, rfl, hb, h1, h2, ho⟩ := hrel
    by_cases hlt : k < n
    · obtain ⟨b, o, x, rfl, hbl, hx, hcx⟩ := hs.at_ hlt
      have e0 := hcx wr hb 0 _ rfl
      have e1 := hcx wr hb 1 _ rfl
      simp only [Nat.add_zero] at e0
      have hA := h1.cell
      obtain ⟨a, ha⟩ : ∃ a, a = foldL ld ⟨0, 0, 0⟩ (ss.take k) := ⟨_, rfl⟩
      rw [← ha] at h2
      have HA := Lib.hid ha
      clear ha
      have hB : ∀ i, wr.cell? ⟨w.heap.size + 1, i, none⟩ = #[.int .i64 a.l, .int .i64 a.c, .int .i64 a.t][i]? := h2.cell
      have hBf := h2.frozen
      have hz := h2.lt
      have hz' := h1.lt
      have HX := Lib.hid hx
      have HO := Lib.hid ho
      clear hx ho hcx
      go_wp2_with fail
      refine (next_any _ _ _ _ _ _ _ _ _ _ _ _ _).mono ?_
      rintro e w1 ⟨rfl, hb1⟩
      generalize hN : nextL ld _ _ = a'
      have HN := Lib.hid hN
      clear hN
      obtain ⟨hc1, hf1⟩ := bcell hb1
      have hz1 := hb1.size
      simp only [World.size_alloc] at hz1
      have HO' := Lib.hid (own_below (HO.out.alloc (.cells #[.int .i64 x.1, .bool x.2] 52)) hb1)
      go_wp2_with (at_builtin; go_must (refine wpList_append_own _ rfl (.tmp 19) (.tmp 21) _ rfl (w.heap.size + 2) 55 i0 (.agg #[.int .i64 0, .int .i64 0, .int .i64 0]) 3 24 Try.underlying49 ti0 ti1 ti2 ti3 rfl (by decide) u6 k ((statesL ld ⟨0, 0, 0⟩ (ss.take k)).flatMap alC) rfl ?hown ⟨w1.heap.size, 0, none⟩ 1 1 (alC a') rfl rfl ?c1 ?c2 ?c3 ?c4 ?c5 ?_))
      case hown => exact ownsRow_setCell_below (ownsRow_setCell_below (ownsRow_setCell_below HO'.out (by show w.heap.size + 1 < _; omega) _) (by show w.heap.size + 1 < _; omega) _) (by show w.heap.size + 1 < _; omega) _ |>.alloc _
      case c1 => exact new_cells _ (by simp) _ _
      case c2 => intro u hu; simp [alC] at hu; rcases hu with rfl | rfl | rfl <;> rfl
      case c3 => unfold maxLen; omega
      case c4 => omega
      case c5 => simp; omega
      intro v2 w2 hown2 hg2 _
      have hob : ∀ j, u6.ownBlock = some j → w.heap.size + 2 ≤ j := fun j hj => (HO.out.lt j hj).1
      have hbw : Below w.heap.size w w2 := ((((((hb.alloc (by omega) _).trans (hb1.mono (by simp; omega))).setCell (by simp) _).setCell (by simp) _).setCell (by simp) _).alloc (by simp; omega) _).grown hg2 (by simp; omega) (fun j hj => by have := hob j hj; omega)
      have hk1 : Bk w2 w.heap.size 41 _ := ((((((h1.alloc _).below hb1 (by simp; omega)).far (by simp) _).far (by simp) _).far (by simp) _).alloc _).grown hg2 (fun e => by have := hob _ e.symm; omega)
      have hk2 : Bk w2 (w.heap.size + 1) 55 (alC a').toArray := ((((((h2.alloc _).below hb1 (by simp; omega)).set_ 0 _).set_ 1 _).set_ 2 _).alloc _).grown hg2 (fun e => by have := hob _ e.symm; omega)
      clear hA hB hBf hc1 hf1 hg2 h1 h2
      have HR : Hid (RunRel w w2 41 55 #[.string nm, .int .i64 pl, .int .i64 fl, .int .i64 ld, .int .i64 pe, .int .i64 wa, .int .i64 qu] ld ss (k + 1) v2) := by
        have e : a' = nextL ld (foldL ld ⟨0, 0, 0⟩ (ss.take k)) x := by rw [← HN.out, HA.out]
        refine ⟨hbw, hk1, ?_, ?_⟩
        · rw [foldL_take HX.out, ← e]; exact hk2
        · rw [statesL_take HX.out, ← e, List.flatMap_append]; simpa using hown2
      go_wp2
      go_roundw
      case rel => exact ⟨k + 1, by omega, by go_num, HR.out⟩
      case measure => simp [intOf]; omega
    · have hkn : k = n := by omega
      subst hkn
      go_wp2
      obtain ⟨A', cap', rfl, hsl⟩ := Sl.of_own (sz := 3) (fun _ => rfl) (by decide) ho
      go_ret
      exact ⟨A', cap', rfl, hb, by rw [List.take_of_length_le (by rw [hs.1]; exact Nat.le_refl _)] at hsl; exact hsl⟩


def exSights : List (Int × Bool) := [(9, false), (8, false), (4, false), (5, false), (-1, false), (-1, true), (-1, false)]
def exWant : List Int := [1, 2, 3, 3, 3, 3, 1]
theorem exLevels : (statesL 3 ⟨0, 0, 0⟩ exSights).map (·.l) = exWant := by decide +kernel
theorem exLevel {k : Nat} {x : Al} (h : (statesL 3 ⟨0, 0, 0⟩ exSights)[k]? = some x) : exWant[k]? = some x.l := by
  rw [← exLevels, List.getElem?_map, h]; rfl

theorem Below.of_Sl {α : Type} {c : α → List Value} {sz : Nat} {w : World} {A : Option Addr} {n : Nat} {l : List α} (h : Sl (Pl c) sz w w.heap.size A n l) (o : Obj) : Sl (Pl c) sz (w.alloc o) w.heap.size A n l :=
  h.keep (Pl.lasts c) ((Below.refl _ _).alloc (Nat.le_refl _) o) (Nat.le_refl _)

set_option maxRecDepth 100000 in
set_option maxHeartbeats 400000 in
theorem small_any (w : World) : Calls Try.prog 4 #[] w fun e w' => e = .returned (.bool true) ∧ Below w.heap.size w w' := by
  go_enter Try.func4, Try.ntmps4
  go_wp2_with fail
  refine (run_any _ _ _ _ _ _ _ _ 7 7 exSights _ (by omega) ?_).mono ?_
  · refine ⟨rfl, fun k x hx => ?_⟩
    refine ⟨w.heap.size + 1, 0, sightC x, rfl, by simp, rfl, fun j u hu => ?_⟩
    rw [(Bk.newAt _ (by simp) _ _).cell]
    have := flatMap_get sightC 2 (fun _ => rfl) exSights k x hx j u hu
    rw [← this, show 0 + k * 2 + j = k * 2 + j by omega]
    simp [exSights, sightC]
  · rintro e w1 ⟨A', cap', rfl, hb1, hs1⟩
    simp only [World.size_alloc] at hb1
    go_wp2
    go_loopw [4] (fun i wr => ∃ k : Nat, k ≤ 7 ∧ i = .int .i64 k ∧ Below (w1.heap.size + 1) (w1.alloc (.cells #[.int .i64 1, .int .i64 2, .int .i64 3, .int .i64 3, .int .i64 3, .int .i64 3, .int .i64 1] 3)) wr) (fun i _ => 7 - (intOf i).toNat)
    case atStart => exact ⟨0, by omega, rfl, Below.refl _ _⟩
    case round =>
      obtain ⟨k, hk, rfl, hb⟩ := hrel
      by_cases hlt : k < 7
      · obtain ⟨b, o, x, rfl, hbl, hx, hcx⟩ := (Below.of_Sl hs1 _).at_ hlt
        have hx' := exLevel hx
        have e0 := hcx wr (hb.mono (by omega)) 0 _ rfl
        simp only [Nat.add_zero] at e0
        have e1 : wr.cell? ⟨w1.heap.size, k, none⟩ = some (.int .i64 x.l) := by
          have h1 := ((Bk.new w1 _ _).below hb (by omega)).cell k
          rw [h1]
          have : (exWant.map (Value.int .i64))[k]? = some (.int .i64 x.l) := by rw [List.getElem?_map, hx']; rfl
          rw [← this]; simp [exWant]
        clear hx hx' hcx hs1
        have hg : decide ((7 : Int) ≤ (k : Int)) = false := by simp; omega
        have hg2 : (k : Int) < 7 := by omega
        go_wp2_with fail
        go_quiet (fail)
        go_wp2
        go_roundw
        case rel => exact ⟨k + 1, by omega, by go_num, below_toN hb _⟩
        case measure => simp [intOf]; omega
      · have hk7 : k = 7 := by omega
        subst hk7
        go_wp2
        go_ret
        exact ⟨rfl, ((((Below.refl _ _).alloc (Nat.le_refl _) _).alloc (by simp) _).trans (hb1.mono (by omega))).trans (((Below.refl _ _).alloc (by have := hb1.size; simp at this; omega) _).trans (hb.mono (by have := hb1.size; simp at this; omega)))⟩

end Go.Proofs.Ytmkbojhnbkdalaa
