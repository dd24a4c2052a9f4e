/- The walk of alarm.Run: it returns the alarms behind each sight. -/
import Derived.Test.YtlhaoiplbebgnaaAlarmA
namespace Go.Proofs.Ytlhaoiplbebgnaa
open Go.RowKit

theorem foldL_take {ld : Int} {a : Al} {l : List (Int × Bool)} {k : Nat} {x : Int × Bool} (h : l[k]? = some x) : foldL ld a (l.take (k + 1)) = nextL ld (foldL ld a (l.take k)) x := by
  rw [take_snoc h, foldL_snoc]
theorem statesL_take {ld : Int} {a : Al} {l : List (Int × Bool)} {k : Nat} {x : Int × Bool} (h : l[k]? = some x) : statesL ld a (l.take (k + 1)) = statesL ld a (l.take k) ++ [nextL ld (foldL ld a (l.take k)) x] := by
  rw [take_snoc h, statesL_snoc]

def RunRel (w wr : World) (tt ta : TypeId) (town : Array Value) (ld : Int) (ss : List (Int × Bool)) (k : Nat) (out : Value) : Prop :=
  Below w.heap.size w wr ∧ Bk wr w.heap.size tt town ∧ Bk wr (w.heap.size + 1) ta (alC (foldL ld ⟨0, 0, 0⟩ (ss.take k))).toArray ∧
  wr.ownsRow (w.heap.size + 2) ta 3 out k ((statesL ld ⟨0, 0, 0⟩ (ss.take k)).flatMap alC)

theorem info_al : (Try.prog.info? 25).map (fun i => (i.zero, i.size, i.bytes)) = some (some (.agg #[.int .i64 0, .int .i64 0, .int .i64 0]), 3, 24) := by kernel_rfl

set_option maxRecDepth 100000 in
set_option maxHeartbeats 400000 in
theorem run_any (nm : ByteArray) (pl fl ld pe wa qu : Int) (A : Option Addr) (n cap : Nat) (ss : List (Int × Bool)) (w : World) (hn : n ≤ 100) (hs : Sl (Pl sightC) 2 w w.heap.size A n ss) :
    Calls Try.prog 14 #[.agg #[.string nm, .int .i64 pl, .int .i64 fl, .int .i64 ld, .int .i64 pe, .int .i64 wa, .int .i64 qu], .slice A n cap] w fun e w' =>
      ∃ A' cap', e = .returned (.slice A' n cap') ∧ Below w.heap.size w w' ∧ Sl (Pl alC) 3 w' w'.heap.size A' n (statesL ld ⟨0, 0, 0⟩ ss) := by
  obtain ⟨i0, ti0, ti1, ti2, ti3⟩ := info_parts info_al
  go_enter Try.func14, Try.ntmps14
  go_wp2
  go_loopw [6, 8, 11] (fun out _ i wr => ∃ k : Nat, k ≤ n ∧ i = .int .i64 k ∧ RunRel w wr 23 25 #[.string nm, .int .i64 pl, .int .i64 fl, .int .i64 ld, .int .i64 pe, .int .i64 wa, .int .i64 qu] ld ss k out) (fun _ _ i _ => n - (intOf i).toNat)
  case atStart =>
    refine ⟨0, Nat.zero_le _, rfl, ((Below.refl _ _).alloc (Nat.le_refl _) _).alloc (by simp) _, (Bk.new w _ _).alloc _, ?_, World.ownsRow_nil _ _ _ _⟩
    exact Bk.newAt _ (by simp) _ _
  case round =>
    obtain ⟨k, hk, rfl, hb, h1, h2, ho⟩ := hrel
    by_cases hlt : k < n
    · obtain ⟨b, o, x, rfl, hbl, hx, hcx⟩ := hs.at_ hlt
      have e0 := hcx wr hb 0 _ rfl
      have e1 := hcx wr hb 1 _ rfl
      simp only [Nat.add_zero] at e0
      have hA := h1.cell
      obtain ⟨a, ha⟩ : ∃ a, a = foldL ld ⟨0, 0, 0⟩ (ss.take k) := ⟨_, rfl⟩
      rw [← ha] at h2
      have HA := Lib.hid ha
      clear ha
      have hB : ∀ i, wr.cell? ⟨w.heap.size + 1, i, none⟩ = #[.int .i64 a.l, .int .i64 a.c, .int .i64 a.t][i]? := h2.cell
      have hBf := h2.frozen
      have hz := h2.lt
      have hz' := h1.lt
      have HX := Lib.hid hx
      have HO := Lib.hid ho
      clear hx ho hcx
      go_wp2_with fail
      refine (next_any _ _ _ _ _ _ _ _ _ _ _ _ _).mono ?_
      rintro e w1 ⟨rfl, hb1⟩
      generalize hN : nextL ld _ _ = a'
      have HN := Lib.hid hN
      clear hN
      obtain ⟨hc1, hf1⟩ := bcell hb1
      have hz1 := hb1.size
      simp only [World.size_alloc] at hz1
      have HO' := Lib.hid (own_below (HO.out.alloc (.cells #[.int .i64 x.1, .bool x.2] 32)) hb1)
      go_wp2_with (at_builtin; go_must (refine wpList_append_own _ rfl (.tmp 19) (.tmp 21) _ rfl (w.heap.size + 2) 25 i0 (.agg #[.int .i64 0, .int .i64 0, .int .i64 0]) 3 24 Try.underlying28 ti0 ti1 ti2 ti3 rfl (by decide) u6 k ((statesL ld ⟨0, 0, 0⟩ (ss.take k)).flatMap alC) rfl ?hown ⟨w1.heap.size, 0, none⟩ 1 1 (alC a') rfl rfl ?c1 ?c2 ?c3 ?c4 ?c5 ?_))
      case hown => exact ownsRow_setCell_below (ownsRow_setCell_below (ownsRow_setCell_below HO'.out (by show w.heap.size + 1 < _; omega) _) (by show w.heap.size + 1 < _; omega) _) (by show w.heap.size + 1 < _; omega) _ |>.alloc _
      case c1 => exact new_cells _ (by simp) _ _
      case c2 => intro u hu; simp [alC] at hu; rcases hu with rfl | rfl | rfl <;> rfl
      case c3 => unfold maxLen; omega
      case c4 => omega
      case c5 => simp; omega
      intro v2 w2 hown2 hg2 _
      have hob : ∀ j, u6.ownBlock = some j → w.heap.size + 2 ≤ j := fun j hj => (HO.out.lt j hj).1
      have hbw : Below w.heap.size w w2 := ((((((hb.alloc (by omega) _).trans (hb1.mono (by simp; omega))).setCell (by simp) _).setCell (by simp) _).setCell (by simp) _).alloc (by simp; omega) _).grown hg2 (by simp; omega) (fun j hj => by have := hob j hj; omega)
      have hk1 : Bk w2 w.heap.size 23 _ := ((((((h1.alloc _).below hb1 (by simp; omega)).far (by simp) _).far (by simp) _).far (by simp) _).alloc _).grown hg2 (fun e => by have := hob _ e.symm; omega)
      have hk2 : Bk w2 (w.heap.size + 1) 25 (alC a').toArray := ((((((h2.alloc _).below hb1 (by simp; omega)).set_ 0 _).set_ 1 _).set_ 2 _).alloc _).grown hg2 (fun e => by have := hob _ e.symm; omega)
      clear hA hB hBf hc1 hf1 hg2 h1 h2
      have HR : Hid (RunRel w w2 23 25 #[.string nm, .int .i64 pl, .int .i64 fl, .int .i64 ld, .int .i64 pe, .int .i64 wa, .int .i64 qu] ld ss (k + 1) v2) := by
        have e : a' = nextL ld (foldL ld ⟨0, 0, 0⟩ (ss.take k)) x := by rw [← HN.out, HA.out]
        refine ⟨hbw, hk1, ?_, ?_⟩
        · rw [foldL_take HX.out, ← e]; exact hk2
        · rw [statesL_take HX.out, ← e, List.flatMap_append]; simpa using hown2
      go_wp2
      go_roundw
      case rel => exact ⟨k + 1, by omega, by go_num, HR.out⟩
      case measure => simp [intOf]; omega
    · have hkn : k = n := by omega
      subst hkn
      go_wp2
      obtain ⟨A', cap', rfl, hsl⟩ := Sl.of_own (sz := 3) (fun _ => rfl) (by decide) ho
      go_ret
      exact ⟨A', cap', rfl, hb, by rw [List.take_of_length_le (by rw [hs.1]; exact Nat.le_refl _)] at hsl; exact hsl⟩

end Go.Proofs.Ytlhaoiplbebgnaa
