/- Law AlarmFalls: for every town and list of sights it returns true. -/
import Derived.Test.YtlhaoiplbebgnaaAlarmD
import Derived.Test.YtlhaoiplbebgnaaAlarmLaw
import Derived.Test.YtlhaoiplbebgnaaRegion
set_option linter.unusedSimpArgs false
set_option linter.unusedVariables false
namespace Go.Proofs.Ytlhaoiplbebgnaa
open Go.RowKit

theorem below_chain {a W w' : World} (k : Below W.heap.size W w') (h : Below a.heap.size a W) : Below a.heap.size a w' := h.trans (k.mono h.size)

set_option maxRecDepth 100000 in
set_option maxHeartbeats 2000000 in
theorem falls_any (nm : ByteArray) (pl fl ld pe wa qu : Int) (A : Option Addr) (n cap : Nat) (ss : List (Int × Bool)) (w : World) (hn : n ≤ 100) (hs : Sl (Pl sightC) 2 w w.heap.size A n ss) :
    Calls Try.prog 5 #[.agg #[.string nm, .int .i64 pl, .int .i64 fl, .int .i64 ld, .int .i64 pe, .int .i64 wa, .int .i64 qu], .slice A n cap] w fun e w' =>
      e = .returned (.bool true) ∧ Below w.heap.size w w' := by
  go_enter Try.func5, Try.ntmps5
  go_wp2_with fail
  refine (small_any _).mono ?_
  rintro e w0 ⟨rfl, hb0⟩
  simp only [World.size_alloc] at hb0
  have hz0 := hb0.size
  simp only [World.size_alloc] at hz0
  have hbw0 : Below w.heap.size w w0 := ((Below.refl _ _).alloc (Nat.le_refl _) _).trans (hb0.mono (by omega))
  have ht0 : Bk w0 w.heap.size 23 #[.string nm, .int .i64 pl, .int .i64 fl, .int .i64 ld, .int .i64 pe, .int .i64 wa, .int .i64 qu] := (Bk.new w _ _).below hb0 (by omega)
  have hs0 := hs.keep (Pl.lasts _) hbw0 (Nat.le_trans (by omega) hz0)
  clear hb0
  have htc := ht0.cell
  go_wp2_with fail
  refine (run_any _ _ _ _ _ _ _ _ _ _ _ _ hn hs0).mono ?_
  rintro e w1 ⟨A1, cap1, rfl, hb1, hs1⟩
  have hz1 := hb1.size
  have ht1 := ht0.below hb1 (by omega)
  have hs01 := hs0.keep (Pl.lasts _) hb1 hz1
  have hbw1 : Below w.heap.size w w1 := hbw0.trans (hb1.mono (by omega))
  clear htc hs0 ht0 hs
  go_wp2
  go_loopw [7, 8] (fun v i wr => ∃ k : Nat, k ≤ n ∧ v = .int .i64 (stL ld ss k).l ∧ i = .int .i64 k ∧ Below w1.heap.size w1 wr) (fun _ i _ => n - (intOf i).toNat)
  case atStart => exact ⟨0, by omega, rfl, rfl, Below.refl _ _⟩
  case round =>
    obtain ⟨k, hk, rfl, rfl, hb⟩ := hrel
    by_cases hlt : k < n
    · obtain ⟨b0, o0, s, rfl, hl0', hx0, hc0⟩ := hs01.at_ hlt
      obtain ⟨b1, o1, x, rfl, hl1', hx1, hc1⟩ := hs1.at_ hlt
      have hkn : (k : Int) < (n : Int) := by omega
      have hk0 : (0 : Int) ≤ (k : Int) := by omega
      have hxs : x = stL ld ss (k + 1) := statesL_get ld ss _ k x hx1
      obtain ⟨was, hwas⟩ : ∃ was, was = (stL ld ss k).l := ⟨_, rfl⟩
      have hrise : was < x.l → x.l = demandL ld s.1 s.2 := fun h => by rw [hxs]; exact level_rises hx0 (by rw [← hxs, ← hwas]; exact h)
      have hfall : x.l < was → _ := fun h => level_falls (ld := ld) hx0 (by rw [← hxs, ← hwas]; exact h)
      rw [← hxs, ← hwas] at hfall
      rw [← hwas]
      have KS : ∀ w', Below wr.heap.size wr w' → (Below wr.heap.size wr w' ∧ w'.cell? ⟨w.heap.size, 0, none⟩ = some (.string nm) ∧ w'.cell? ⟨w.heap.size, 1, none⟩ = some (.int .i64 pl) ∧ w'.cell? ⟨w.heap.size, 2, none⟩ = some (.int .i64 fl) ∧ w'.cell? ⟨w.heap.size, 3, none⟩ = some (.int .i64 ld) ∧ w'.cell? ⟨w.heap.size, 4, none⟩ = some (.int .i64 pe) ∧ w'.cell? ⟨w.heap.size, 5, none⟩ = some (.int .i64 wa) ∧ w'.cell? ⟨w.heap.size, 6, none⟩ = some (.int .i64 qu) ∧
          w'.cell? ⟨b0, o0 + k * 2, none⟩ = some (.int .i64 s.1) ∧ w'.cell? ⟨b0, o0 + k * 2 + 1, none⟩ = some (.bool s.2)) := by
        intro w' h
        have hb' := hb.trans (h.mono hb.size)
        have t := (ht1.below hb' (by omega)).cell
        exact ⟨h, t 0, t 1, t 2, t 3, t 4, t 5, t 6, hc0 _ hb' 0 _ rfl, hc0 _ hb' 1 _ rfl⟩
      have KK := Lib.hid KS
      have HX := Lib.hid hxs
      have HS := Lib.hid hx0
      have HW := Lib.hid hwas
      have HR := Lib.hid hrise
      have HF := Lib.hid hfall
      clear KS hx1 hxs hx0 hc0 hwas hrise hfall
      go_wp2_with fail
      refine wp_region_head 7 (fun w' => Below wr.heap.size wr w' ∧ w'.cell? ⟨w.heap.size, 0, none⟩ = some (.string nm) ∧ w'.cell? ⟨w.heap.size, 1, none⟩ = some (.int .i64 pl) ∧ w'.cell? ⟨w.heap.size, 2, none⟩ = some (.int .i64 fl) ∧ w'.cell? ⟨w.heap.size, 3, none⟩ = some (.int .i64 ld) ∧ w'.cell? ⟨w.heap.size, 4, none⟩ = some (.int .i64 pe) ∧ w'.cell? ⟨w.heap.size, 5, none⟩ = some (.int .i64 wa) ∧ w'.cell? ⟨w.heap.size, 6, none⟩ = some (.int .i64 qu) ∧
          w'.cell? ⟨b0, o0 + k * 2, none⟩ = some (.int .i64 s.1) ∧ w'.cell? ⟨b0, o0 + k * 2 + 1, none⟩ = some (.bool s.2)) (by kernel_rfl) (by kernel_rfl) (KK.out _ (Below.refl _ _).drew) ?_
      iterate 5 (refine chain_pure (by rfl) ?_; apply Exists.intro; apply And.intro; (case left => (intro w hSw; (try dsimp only at hSw); go_simp; try with_reducible rfl)); (try simp only [Act.put, List.setIfInBounds_toArray, List.set_cons_zero, List.set_cons_succ]))
      (refine chain_call (by rfl) ?_; apply Exists.intro; apply Exists.intro; apply And.intro; (case left => (intro w; go_simp; exact ⟨rfl, rfl⟩)))
      refine ⟨.int .i64 (demandL ld s.1 s.2), (fun W hSW => ?_), ?_⟩
      · refine (refDemand_any _ _ _ _ _ _ _ _ _ _).mono ?_
        rintro e w' ⟨rfl, hb'⟩
        exact ⟨rfl, KK.out _ (below_chain hb' hSW.1)⟩
      (try simp only [Act.put, List.setIfInBounds_toArray, List.set_cons_zero, List.set_cons_succ])
      iterate 1 (refine chain_pure (by rfl) ?_; apply Exists.intro; apply And.intro; (case left => (intro w hSw; (try dsimp only at hSw); go_simp; try with_reducible rfl)); (try simp only [Act.put, List.setIfInBounds_toArray, List.set_cons_zero, List.set_cons_succ]))
      intro W hSW
      have hbW : Below wr.heap.size wr W := hSW.1
      clear hSW
      have hbk := hb.trans (hbW.mono hb.size)
      have eL : W.cell? ⟨b1, o1 + k * 3, none⟩ = some (.int .i64 x.l) := hc1 W hbk 0 _ rfl
      have RE : ∀ W', Below W.heap.size W W' → ∃ k' : Nat, k' ≤ n ∧ Value.int .i64 x.l = .int .i64 (stL ld ss k').l ∧ Value.int .i64 ((k : Int) + 1) = .int .i64 (k' : Int) ∧ Below w1.heap.size w1 W' :=
        fun W' h => ⟨k + 1, by omega, by rw [HX.out], by go_num, hbk.trans (h.mono hbk.size)⟩
      have RR := Lib.hid RE
      clear RE hc1
      generalize hd : demandL ld s.1 s.2 = d
      rw [hd] at HR HF
      have HD := Lib.hid hd
      clear hd
      rcases Int.lt_trichotomy x.l was with h | h | h
      · obtain ⟨hk3, hv1, hv2, s1, s2, hs1', hs2', hd0, hd1, hd2, hmx⟩ := HF.out h
        obtain ⟨b2, o2, y1, hA, _, hy1, hc2⟩ := hs1.at_ (k := k - 1) (by omega)
        obtain ⟨rfl, rfl⟩ : b1 = b2 ∧ o1 = o2 := by injection hA with h; injection h with h1 h2 _; exact ⟨h1, h2⟩
        clear hA
        obtain ⟨b2, o2, y2, hA, _, hy2, hc3⟩ := hs1.at_ (k := k - 2) (by omega)
        obtain ⟨rfl, rfl⟩ : b1 = b2 ∧ o1 = o2 := by injection hA with h; injection h with h1 h2 _; exact ⟨h1, h2⟩
        clear hA
        obtain ⟨b2, o2, y3, hA, _, hy3, hc4⟩ := hs1.at_ (k := k - 3) (by omega)
        obtain ⟨rfl, rfl⟩ : b1 = b2 ∧ o1 = o2 := by injection hA with h; injection h with h1 h2 _; exact ⟨h1, h2⟩
        clear hA
        obtain ⟨b2, o2, t1, hA, _, ht1', hc5⟩ := hs01.at_ (k := k - 1) (by omega)
        obtain ⟨rfl, rfl⟩ : b0 = b2 ∧ o0 = o2 := by injection hA with h; injection h with h1 h2 _; exact ⟨h1, h2⟩
        clear hA
        obtain ⟨b2, o2, t2, hA, _, ht2', hc6⟩ := hs01.at_ (k := k - 2) (by omega)
        obtain ⟨rfl, rfl⟩ : b0 = b2 ∧ o0 = o2 := by injection hA with h; injection h with h1 h2 _; exact ⟨h1, h2⟩
        clear hA
        have e1 : t1 = s1 := by rw [hs1'] at ht1'; injection ht1' with h; exact h.symm
        have e2 : t2 = s2 := by rw [hs2'] at ht2'; injection ht2' with h; exact h.symm
        subst e1 e2
        have ey1 : y1.l = was := by rw [statesL_get ld ss _ (k - 1) y1 hy1, show k - 1 + 1 = k by omega]; exact HW.out.symm
        have ey2 : y2.l = was := by rw [statesL_get ld ss _ (k - 2) y2 hy2, show k - 2 + 1 = k - 1 by omega]; exact hv1
        have ey3 : y3.l = was := by rw [statesL_get ld ss _ (k - 3) y3 hy3, show k - 3 + 1 = k - 2 by omega]; exact hv2
        have KS2 : ∀ w', Below W.heap.size W w' → (Below W.heap.size W w' ∧ w'.cell? ⟨w.heap.size, 0, none⟩ = some (.string nm) ∧ w'.cell? ⟨w.heap.size, 1, none⟩ = some (.int .i64 pl) ∧ w'.cell? ⟨w.heap.size, 2, none⟩ = some (.int .i64 fl) ∧ w'.cell? ⟨w.heap.size, 3, none⟩ = some (.int .i64 ld) ∧ w'.cell? ⟨w.heap.size, 4, none⟩ = some (.int .i64 pe) ∧ w'.cell? ⟨w.heap.size, 5, none⟩ = some (.int .i64 wa) ∧ w'.cell? ⟨w.heap.size, 6, none⟩ = some (.int .i64 qu) ∧
          w'.cell? ⟨b0, o0 + (k - 1) * 2, none⟩ = some (.int .i64 t1.1) ∧ w'.cell? ⟨b0, o0 + (k - 1) * 2 + 1, none⟩ = some (.bool t1.2) ∧
          w'.cell? ⟨b0, o0 + (k - 2) * 2, none⟩ = some (.int .i64 t2.1) ∧ w'.cell? ⟨b0, o0 + (k - 2) * 2 + 1, none⟩ = some (.bool t2.2)) := by
          intro w' h
          have hb' := hbk.trans (h.mono hbk.size)
          have t := (ht1.below hb' (by omega)).cell
          exact ⟨h, t 0, t 1, t 2, t 3, t 4, t 5, t 6, hc5 _ hb' 0 _ rfl, hc5 _ hb' 1 _ rfl, hc6 _ hb' 0 _ rfl, hc6 _ hb' 1 _ rfl⟩
        have eY : ∀ w', Below W.heap.size W w' → w'.cell? ⟨b1, o1 + k * 3, none⟩ = some (.int .i64 x.l) ∧ w'.cell? ⟨b1, o1 + (k - 1) * 3, none⟩ = some (.int .i64 was) ∧ w'.cell? ⟨b1, o1 + (k - 2) * 3, none⟩ = some (.int .i64 was) ∧ w'.cell? ⟨b1, o1 + (k - 3) * 3, none⟩ = some (.int .i64 was) := by
          intro w' h
          have hb' := hbk.trans (h.mono hbk.size)
          refine ⟨(h.cell (p := ⟨b1, o1 + k * 3, none⟩) (by have := hbk.size; show b1 < _; omega)).trans eL, ?_, ?_, ?_⟩
          · rw [← ey1]; exact hc2 _ hb' 0 _ rfl
          · rw [← ey2]; exact hc3 _ hb' 0 _ rfl
          · rw [← ey3]; exact hc4 _ hb' 0 _ rfl
        have KK2 := Lib.hid KS2
        have YY := Lib.hid eY
        have HM := Lib.hid hmx
        have h1 : decide (was < x.l) = false := by simp; omega
        have h2 : decide (x.l < was) = true := by simpa using h
        have h3 : decide ((k : Int) < 3) = false := by simp; omega
        have k3 : (3 : Int) ≤ (k : Int) := by omega
        have m1 : IntKind.i64.wrap ((k : Int) - 1) = (k : Int) - 1 := IntWalk.i64_in _ (by omega)
        have m2 : IntKind.i64.wrap ((k : Int) - 2) = (k : Int) - 2 := IntWalk.i64_in _ (by omega)
        have n1 : ((k : Int) - 1).toNat = k - 1 := by omega
        have n2 : ((k : Int) - 2).toNat = k - 2 := by omega
        have p1 : (0 : Int) ≤ (k : Int) - 1 := by omega
        have p2 : (0 : Int) ≤ (k : Int) - 2 := by omega
        have p3 : (1 : Int) ≤ (k : Int) := by omega
        have p4 : (2 : Int) ≤ (k : Int) := by omega
        have q1 : (k : Int) - 1 < (n : Int) := by omega
        have q2 : (k : Int) - 2 < (n : Int) := by omega
        clear KS2 eY hmx hc2 hc3 hc4 hc5 hc6 hy1 hy2 hy3 ht1' ht2' hs1' hs2' ey1 ey2 ey3 hv1 hv2
        go_wp2_with fail
        refine wp_region_head 17 (fun w' => Below W.heap.size W w' ∧ w'.cell? ⟨w.heap.size, 0, none⟩ = some (.string nm) ∧ w'.cell? ⟨w.heap.size, 1, none⟩ = some (.int .i64 pl) ∧ w'.cell? ⟨w.heap.size, 2, none⟩ = some (.int .i64 fl) ∧ w'.cell? ⟨w.heap.size, 3, none⟩ = some (.int .i64 ld) ∧ w'.cell? ⟨w.heap.size, 4, none⟩ = some (.int .i64 pe) ∧ w'.cell? ⟨w.heap.size, 5, none⟩ = some (.int .i64 wa) ∧ w'.cell? ⟨w.heap.size, 6, none⟩ = some (.int .i64 qu) ∧
          w'.cell? ⟨b0, o0 + (k - 1) * 2, none⟩ = some (.int .i64 t1.1) ∧ w'.cell? ⟨b0, o0 + (k - 1) * 2 + 1, none⟩ = some (.bool t1.2) ∧
          w'.cell? ⟨b0, o0 + (k - 2) * 2, none⟩ = some (.int .i64 t2.1) ∧ w'.cell? ⟨b0, o0 + (k - 2) * 2 + 1, none⟩ = some (.bool t2.2)) (by kernel_rfl) (by kernel_rfl) (KK2.out _ (Below.refl _ _).drew) ?_
        iterate 7 (refine chain_pure (by rfl) ?_; apply Exists.intro; apply And.intro; (case left => (intro w hSw; (try dsimp only at hSw); go_simp; try with_reducible rfl)); (try simp only [Act.put, List.setIfInBounds_toArray, List.set_cons_zero, List.set_cons_succ]))
        (refine chain_call (by rfl) ?_; apply Exists.intro; apply Exists.intro; apply And.intro; (case left => (intro w; go_simp; exact ⟨rfl, rfl⟩)))
        refine ⟨.int .i64 (demandL ld t1.1 t1.2), (fun W hSW => ?_), ?_⟩
        · refine (refDemand_any _ _ _ _ _ _ _ _ _ _).mono ?_
          rintro e w' ⟨rfl, hb'⟩
          exact ⟨rfl, KK2.out _ (below_chain hb' hSW.1)⟩
        (try simp only [Act.put, List.setIfInBounds_toArray, List.set_cons_zero, List.set_cons_succ])
        iterate 6 (refine chain_pure (by rfl) ?_; apply Exists.intro; apply And.intro; (case left => (intro w hSw; (try dsimp only at hSw); go_simp; try with_reducible rfl)); (try simp only [Act.put, List.setIfInBounds_toArray, List.set_cons_zero, List.set_cons_succ]))
        (refine chain_call (by rfl) ?_; apply Exists.intro; apply Exists.intro; apply And.intro; (case left => (intro w; go_simp; exact ⟨rfl, rfl⟩)))
        refine ⟨.int .i64 (demandL ld t2.1 t2.2), (fun W hSW => ?_), ?_⟩
        · refine (refDemand_any _ _ _ _ _ _ _ _ _ _).mono ?_
          rintro e w' ⟨rfl, hb'⟩
          exact ⟨rfl, KK2.out _ (below_chain hb' hSW.1)⟩
        (try simp only [Act.put, List.setIfInBounds_toArray, List.set_cons_zero, List.set_cons_succ])
        iterate 2 (refine chain_pure (by rfl) ?_; apply Exists.intro; apply And.intro; (case left => (intro w hSw; (try dsimp only at hSw); go_simp; try with_reducible rfl)); (try simp only [Act.put, List.setIfInBounds_toArray, List.set_cons_zero, List.set_cons_succ]))
        intro W2 hSW2
        have hbW2 : Below W.heap.size W W2 := hSW2.1
        clear hSW2 m1 m2 n1 n2
        obtain ⟨f0, f1, f2, f3⟩ := YY.out W2 hbW2
        have hM : (if (if d < demandL ld t1.1 t1.2 then demandL ld t1.1 t1.2 else d) < demandL ld t2.1 t2.2 then demandL ld t2.1 t2.2 else if d < demandL ld t1.1 t1.2 then demandL ld t1.1 t1.2 else d) = x.l := by
          rw [HM.out]; (repeat' split) <;> omega
        rw [hM]
        have h5 : decide (was ≤ x.l) = false := by simp; omega
        clear hM hd0 hd1 hd2 eL
        go_wp2
        go_roundw
        case rel => exact RR.out _ hbW2
        case measure => simp [intOf]; omega
      · have h1 : decide (was < x.l) = false := by simp; omega
        have h2 : decide (x.l < was) = false := by simp; omega
        clear h
        go_wp2
        go_roundw
        case rel => exact RR.out _ (Below.refl _ _)
        case measure => simp [intOf]; omega
      · have h1 : decide (was < x.l) = true := by simpa using h
        have h2 : decide (x.l < was) = false := by simp; omega
        have h3 : (x.l != d) = false := by simp [HR.out h]
        go_wp2
        go_roundw
        case rel => exact RR.out _ (Below.refl _ _)
        case measure => simp [intOf]; omega
    · have hkn : k = n := by omega
      subst hkn
      go_wp2
      go_ret
      exact ⟨rfl, hbw1.trans (hb.mono (by omega))⟩

set_option maxHeartbeats 1000000 in
theorem falls_all (nm : ByteArray) (pl fl ld pe wa qu : Int) (A : Option Addr) (n cap : Nat) (ss : List (Int × Bool)) (w : World) (hnm : n ≤ maxLen) (hs : Sl (Pl sightC) 2 w w.heap.size A n ss) :
    Calls Try.prog 5 #[.agg #[.string nm, .int .i64 pl, .int .i64 fl, .int .i64 ld, .int .i64 pe, .int .i64 wa, .int .i64 qu], .slice A n cap] w fun e w' =>
      e = .returned (.bool true) ∧ Below w.heap.size w w' := by
  unfold maxLen at hnm
  by_cases hn : n ≤ 100
  · exact falls_any nm pl fl ld pe wa qu A n cap ss w hn hs
  · have hn' : (100 : Int) < (n : Int) := by omega
    go_enter Try.func5, Try.ntmps5
    go_wp2_with (go_at_call 13; refine (small_any _).mono ?_; rintro e w0 ⟨rfl, hb0⟩)
    go_ret
    exact ⟨rfl, ((Below.refl _ _).alloc (Nat.le_refl _) _).trans (hb0.mono (by simp))⟩

end Go.Proofs.Ytlhaoiplbebgnaa
