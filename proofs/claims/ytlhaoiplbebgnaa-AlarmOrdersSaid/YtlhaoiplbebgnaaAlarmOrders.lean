/- Law AlarmOrders: for every town and list of sights it returns true. -/
import Derived.Test.YtlhaoiplbebgnaaAlarmD
import Derived.Test.YtlhaoiplbebgnaaAlarmLaw
import Derived.Test.YtlhaoiplbebgnaaRegion
set_option linter.unusedSimpArgs false
set_option linter.unusedVariables false
namespace Go.Proofs.Ytlhaoiplbebgnaa
open Go.RowKit

theorem below_chain {a W w' : World} (k : Below W.heap.size W w') (h : Below a.heap.size a W) : Below a.heap.size a w' := h.trans (k.mono h.size)

set_option maxRecDepth 100000 in
set_option maxHeartbeats 2000000 in
theorem orders_any (nm : ByteArray) (pl fl ld pe wa qu : Int) (A : Option Addr) (n cap : Nat) (ss : List (Int × Bool)) (w : World) (hn : n ≤ 100) (hl0 : 0 ≤ ld) (hl1 : ld ≤ 24) (hs : Sl (Pl sightC) 2 w w.heap.size A n ss) :
    Calls Try.prog 4 #[.agg #[.string nm, .int .i64 pl, .int .i64 fl, .int .i64 ld, .int .i64 pe, .int .i64 wa, .int .i64 qu], .slice A n cap] w fun e w' =>
      e = .returned (.bool true) ∧ Below w.heap.size w w' := by
  go_enter Try.func4, Try.ntmps4
  go_wp2_with fail
  refine (small_any _).mono ?_
  rintro e w0 ⟨rfl, hb0⟩
  simp only [World.size_alloc] at hb0
  have hz0 := hb0.size
  simp only [World.size_alloc] at hz0
  have hbw0 : Below w.heap.size w w0 := ((Below.refl _ _).alloc (Nat.le_refl _) _).trans (hb0.mono (by omega))
  have ht0 : Bk w0 w.heap.size 23 #[.string nm, .int .i64 pl, .int .i64 fl, .int .i64 ld, .int .i64 pe, .int .i64 wa, .int .i64 qu] := (Bk.new w _ _).below hb0 (by omega)
  have hs0 := hs.keep (Pl.lasts _) hbw0 (Nat.le_trans (by omega) hz0)
  clear hb0
  have htc := ht0.cell
  go_wp2_with fail
  refine (run_any _ _ _ _ _ _ _ _ _ _ _ _ hn hs0).mono ?_
  rintro e w1 ⟨A1, cap1, rfl, hb1, hs1⟩
  have hz1 := hb1.size
  have ht1 := ht0.below hb1 (by omega)
  have hs01 := hs0.keep (Pl.lasts _) hb1 hz1
  have hbw1 : Below w.heap.size w w1 := hbw0.trans (hb1.mono (by omega))
  clear htc hs0 ht0 hs
  go_wp2
  go_loopw [7] (fun i wr => ∃ k : Nat, k ≤ n ∧ i = .int .i64 k ∧ Below w1.heap.size w1 wr) (fun i _ => n - (intOf i).toNat)
  case atStart => exact ⟨0, by omega, rfl, Below.refl _ _⟩
  case round =>
    obtain ⟨k, hk, rfl, hb⟩ := hrel
    by_cases hlt : k < n
    · obtain ⟨b0, o0, s, rfl, hl0', hx0, hc0⟩ := hs01.at_ hlt
      obtain ⟨b1, o1, x, rfl, hl1', hx1, hc1⟩ := hs1.at_ hlt
      have hkn : (k : Int) < (n : Int) := by omega
      have hk0 : (0 : Int) ≤ (k : Int) := by omega
      have hxs : x = stL ld ss (k + 1) := statesL_get ld ss _ k x hx1
      have hst := order_stands (ld := ld) hx0
      rw [← hxs] at hst
      have hw1 : IntKind.i64.wrap (ld + 1) = ld + 1 := IntWalk.i64_in _ (by omega)
      have hdl : (decide (x.l < demandL ld s.1 s.2)) = false := by simpa using hst.1
      have h3 : (0 ≤ s.1 ∧ s.1 ≤ ld + 1 ∧ x.l = 3) ∨ (0 ≤ s.1 ∧ ld + 1 < s.1) ∨ s.1 < 0 := by
        rcases Int.lt_or_le s.1 0 with h | h
        · exact .inr (.inr h)
        · rcases Int.lt_or_le (ld + 1) s.1 with h' | h'
          · exact .inr (.inl ⟨h, h'⟩)
          · have := order_when (q := s.2) hl0 hl1 h h'
            exact .inl ⟨h, h', by have h5 := hst.2; have h4 := hst.1; omega⟩
      have KS : ∀ w', Below wr.heap.size wr w' → (Below wr.heap.size wr w' ∧
          w'.cell? ⟨w.heap.size, 0, none⟩ = some (.string nm) ∧ w'.cell? ⟨w.heap.size, 1, none⟩ = some (.int .i64 pl) ∧ w'.cell? ⟨w.heap.size, 2, none⟩ = some (.int .i64 fl) ∧ w'.cell? ⟨w.heap.size, 3, none⟩ = some (.int .i64 ld) ∧ w'.cell? ⟨w.heap.size, 4, none⟩ = some (.int .i64 pe) ∧ w'.cell? ⟨w.heap.size, 5, none⟩ = some (.int .i64 wa) ∧ w'.cell? ⟨w.heap.size, 6, none⟩ = some (.int .i64 qu) ∧
          w'.cell? ⟨b0, o0 + k * 2, none⟩ = some (.int .i64 s.1) ∧ w'.cell? ⟨b0, o0 + k * 2 + 1, none⟩ = some (.bool s.2) ∧
          w'.cell? ⟨b1, o1 + k * 3, none⟩ = some (.int .i64 x.l)) := by
        intro w' h
        have hb' := hb.trans (h.mono hb.size)
        have t := (ht1.below hb' (by omega)).cell
        exact ⟨h, t 0, t 1, t 2, t 3, t 4, t 5, t 6, hc0 _ hb' 0 _ rfl, hc0 _ hb' 1 _ rfl, hc1 _ hb' 0 _ rfl⟩
      have e0 := (KS wr (Below.refl _ _)).2.2.2.2.2.2.2.2.1
      have KK := Lib.hid KS
      have HX := Lib.hid hxs
      clear KS hx1 hxs
      go_wp2_with fail
      have HS := Lib.hid hx0
      clear hx0 hc0 hc1
      rcases h3 with ⟨h3a, h3b, h3c⟩ | ⟨h3a, h3b⟩ | h3a
      · have hd1 : decide (0 ≤ s.1) = true := by simpa using h3a
        have hd2 : decide (s.1 ≤ ld + 1) = true := by simpa using h3b
        refine wp_region_head 31 (fun w' => Below wr.heap.size wr w' ∧
          w'.cell? ⟨w.heap.size, 0, none⟩ = some (.string nm) ∧ w'.cell? ⟨w.heap.size, 1, none⟩ = some (.int .i64 pl) ∧ w'.cell? ⟨w.heap.size, 2, none⟩ = some (.int .i64 fl) ∧ w'.cell? ⟨w.heap.size, 3, none⟩ = some (.int .i64 ld) ∧ w'.cell? ⟨w.heap.size, 4, none⟩ = some (.int .i64 pe) ∧ w'.cell? ⟨w.heap.size, 5, none⟩ = some (.int .i64 wa) ∧ w'.cell? ⟨w.heap.size, 6, none⟩ = some (.int .i64 qu) ∧
          w'.cell? ⟨b0, o0 + k * 2, none⟩ = some (.int .i64 s.1) ∧ w'.cell? ⟨b0, o0 + k * 2 + 1, none⟩ = some (.bool s.2) ∧
          w'.cell? ⟨b1, o1 + k * 3, none⟩ = some (.int .i64 x.l)) (by kernel_rfl) (by kernel_rfl) (KK.out _ (Below.refl _ _).drew) ?_
        iterate 28 (refine chain_pure (by rfl) ?_; apply Exists.intro; apply And.intro; (case left => (intro w hSw; (try dsimp only at hSw); go_simp; try with_reducible rfl)); (try simp only [Act.put, List.setIfInBounds_toArray, List.set_cons_zero, List.set_cons_succ]))
        (refine chain_call (by rfl) ?_; apply Exists.intro; apply Exists.intro; apply And.intro; (case left => (intro w; go_simp; exact ⟨rfl, rfl⟩)))
        refine ⟨.int .i64 (demandL ld s.1 s.2), (fun W hSW => ?_), ?_⟩
        · refine (refDemand_any _ _ _ _ _ _ _ _ _ _).mono ?_
          rintro e w' ⟨rfl, hb'⟩
          exact ⟨rfl, KK.out _ (below_chain hb' hSW.1)⟩
        (try simp only [Act.put, List.setIfInBounds_toArray, List.set_cons_zero, List.set_cons_succ])
        iterate 2 (refine chain_pure (by rfl) ?_; apply Exists.intro; apply And.intro; (case left => (intro w hSw; (try dsimp only at hSw); go_simp; try with_reducible rfl)); (try simp only [Act.put, List.setIfInBounds_toArray, List.set_cons_zero, List.set_cons_succ]))
        intro W hSW
        have hbW : Below wr.heap.size wr W := hSW.1
        have eL : W.cell? ⟨b1, o1 + k * 3, none⟩ = some (.int .i64 x.l) := hSW.2.2.2.2.2.2.2.2.2.2
        clear hSW hdl
        have hbk := hb.trans (hbW.mono hb.size)
        have RE : Hid (∃ k' : Nat, k' ≤ n ∧ Value.int .i64 ((k : Int) + 1) = .int .i64 (k' : Int) ∧ Below w1.heap.size w1 W) := ⟨k + 1, by omega, by go_num, hbk⟩
        by_cases hk1 : k = 0
        · have hk1b : ((k : Int) == 0) = true := by simp [hk1]
          clear hk1
          go_wp2
          go_roundw
          case rel => exact RE.out
          case measure => simp [intOf]; omega
        · have hk1b : ((k : Int) == 0) = false := by simp [hk1]
          obtain ⟨b2, o2, y, hA2, _, hy, hc2⟩ := hs1.at_ (k := k - 1) (by omega)
          obtain ⟨rfl, rfl⟩ : b1 = b2 ∧ o1 = o2 := by injection hA2 with h; injection h with h1 h2 _; exact ⟨h1, h2⟩
          have eY : W.cell? ⟨b1, o1 + (k - 1) * 3, none⟩ = some (.int .i64 y.l) := hc2 W hbk 0 _ rfl
          have hys : y = stL ld ss k := by
            have := statesL_get ld ss _ (k - 1) y hy
            rw [this, show k - 1 + 1 = k by omega]; rfl
          have hkk : (1 : Int) ≤ (k : Int) := by omega
          have hkk' : (k : Int) - 1 < (n : Int) := by omega
          by_cases hy3 : y.l = 3
          · have hy3b : (y.l != 3) = false := by simp [hy3]
            by_cases hx3 : x.l = 3
            · have hx3b : (x.l == 3) = true := by simp [hx3]
              have HY := Lib.hid hys
              clear hy hys hc2 hA2 hy3 hx3
              go_wp2
              go_roundw
              case rel => exact RE.out
              case measure => simp [intOf]; omega
            · exact absurd h3c hx3
          · have hy3b : (y.l != 3) = true := by simp [hy3]
            clear hy hys hc2 hA2 hy3
            go_wp2
            go_roundw
            case rel => exact RE.out
            case measure => simp [intOf]; omega
      · have hd1 : decide (0 ≤ s.1) = true := by simpa using h3a
        have hd2 : decide (s.1 ≤ ld + 1) = false := by simpa using h3b
        refine wp_region_head 31 (fun w' => Below wr.heap.size wr w' ∧
          w'.cell? ⟨w.heap.size, 0, none⟩ = some (.string nm) ∧ w'.cell? ⟨w.heap.size, 1, none⟩ = some (.int .i64 pl) ∧ w'.cell? ⟨w.heap.size, 2, none⟩ = some (.int .i64 fl) ∧ w'.cell? ⟨w.heap.size, 3, none⟩ = some (.int .i64 ld) ∧ w'.cell? ⟨w.heap.size, 4, none⟩ = some (.int .i64 pe) ∧ w'.cell? ⟨w.heap.size, 5, none⟩ = some (.int .i64 wa) ∧ w'.cell? ⟨w.heap.size, 6, none⟩ = some (.int .i64 qu) ∧
          w'.cell? ⟨b0, o0 + k * 2, none⟩ = some (.int .i64 s.1) ∧ w'.cell? ⟨b0, o0 + k * 2 + 1, none⟩ = some (.bool s.2) ∧
          w'.cell? ⟨b1, o1 + k * 3, none⟩ = some (.int .i64 x.l)) (by kernel_rfl) (by kernel_rfl) (KK.out _ (Below.refl _ _).drew) ?_
        iterate 10 (refine chain_pure (by rfl) ?_; apply Exists.intro; apply And.intro; (case left => (intro w hSw; (try dsimp only at hSw); go_simp; try with_reducible rfl)); (try simp only [Act.put, List.setIfInBounds_toArray, List.set_cons_zero, List.set_cons_succ]))
        iterate 6 (refine chain_off (by rfl) ?_; (try simp only [Act.put, List.setIfInBounds_toArray, List.set_cons_zero, List.set_cons_succ]))
        iterate 12 (refine chain_pure (by rfl) ?_; apply Exists.intro; apply And.intro; (case left => (intro w hSw; (try dsimp only at hSw); go_simp; try with_reducible rfl)); (try simp only [Act.put, List.setIfInBounds_toArray, List.set_cons_zero, List.set_cons_succ]))
        (refine chain_call (by rfl) ?_; apply Exists.intro; apply Exists.intro; apply And.intro; (case left => (intro w; go_simp; exact ⟨rfl, rfl⟩)))
        refine ⟨.int .i64 (demandL ld s.1 s.2), (fun W hSW => ?_), ?_⟩
        · refine (refDemand_any _ _ _ _ _ _ _ _ _ _).mono ?_
          rintro e w' ⟨rfl, hb'⟩
          exact ⟨rfl, KK.out _ (below_chain hb' hSW.1)⟩
        (try simp only [Act.put, List.setIfInBounds_toArray, List.set_cons_zero, List.set_cons_succ])
        iterate 2 (refine chain_pure (by rfl) ?_; apply Exists.intro; apply And.intro; (case left => (intro w hSw; (try dsimp only at hSw); go_simp; try with_reducible rfl)); (try simp only [Act.put, List.setIfInBounds_toArray, List.set_cons_zero, List.set_cons_succ]))
        intro W hSW
        have hbW : Below wr.heap.size wr W := hSW.1
        have eL : W.cell? ⟨b1, o1 + k * 3, none⟩ = some (.int .i64 x.l) := hSW.2.2.2.2.2.2.2.2.2.2
        clear hSW hdl
        have hbk := hb.trans (hbW.mono hb.size)
        have RE : Hid (∃ k' : Nat, k' ≤ n ∧ Value.int .i64 ((k : Int) + 1) = .int .i64 (k' : Int) ∧ Below w1.heap.size w1 W) := ⟨k + 1, by omega, by go_num, hbk⟩
        by_cases hk1 : k = 0
        · have hk1b : ((k : Int) == 0) = true := by simp [hk1]
          clear hk1
          go_wp2
          go_roundw
          case rel => exact RE.out
          case measure => simp [intOf]; omega
        · have hk1b : ((k : Int) == 0) = false := by simp [hk1]
          obtain ⟨b2, o2, y, hA2, _, hy, hc2⟩ := hs1.at_ (k := k - 1) (by omega)
          obtain ⟨rfl, rfl⟩ : b1 = b2 ∧ o1 = o2 := by injection hA2 with h; injection h with h1 h2 _; exact ⟨h1, h2⟩
          have eY : W.cell? ⟨b1, o1 + (k - 1) * 3, none⟩ = some (.int .i64 y.l) := hc2 W hbk 0 _ rfl
          have hys : y = stL ld ss k := by
            have := statesL_get ld ss _ (k - 1) y hy
            rw [this, show k - 1 + 1 = k by omega]; rfl
          have hkk : (1 : Int) ≤ (k : Int) := by omega
          have hkk' : (k : Int) - 1 < (n : Int) := by omega
          by_cases hy3 : y.l = 3
          · have hy3b : (y.l != 3) = false := by simp [hy3]
            by_cases hx3 : x.l = 3
            · have hx3b : (x.l == 3) = true := by simp [hx3]
              have HY := Lib.hid hys
              clear hy hys hc2 hA2 hy3 hx3
              go_wp2
              go_roundw
              case rel => exact RE.out
              case measure => simp [intOf]; omega
            · have hx3b : (x.l == 3) = false := by simp [hx3]
              obtain ⟨hk3, hneg, s1, s2, hs1', hs2', hn1, hn2⟩ := order_ends (ld := ld) HS.out (by rw [← hys]; exact hy3) (by rw [← HX.out]; exact hx3)
              omega
          · have hy3b : (y.l != 3) = true := by simp [hy3]
            clear hy hys hc2 hA2 hy3
            go_wp2
            go_roundw
            case rel => exact RE.out
            case measure => simp [intOf]; omega
      · have hd1 : decide (0 ≤ s.1) = false := by simpa using h3a
        refine wp_region_head 31 (fun w' => Below wr.heap.size wr w' ∧
          w'.cell? ⟨w.heap.size, 0, none⟩ = some (.string nm) ∧ w'.cell? ⟨w.heap.size, 1, none⟩ = some (.int .i64 pl) ∧ w'.cell? ⟨w.heap.size, 2, none⟩ = some (.int .i64 fl) ∧ w'.cell? ⟨w.heap.size, 3, none⟩ = some (.int .i64 ld) ∧ w'.cell? ⟨w.heap.size, 4, none⟩ = some (.int .i64 pe) ∧ w'.cell? ⟨w.heap.size, 5, none⟩ = some (.int .i64 wa) ∧ w'.cell? ⟨w.heap.size, 6, none⟩ = some (.int .i64 qu) ∧
          w'.cell? ⟨b0, o0 + k * 2, none⟩ = some (.int .i64 s.1) ∧ w'.cell? ⟨b0, o0 + k * 2 + 1, none⟩ = some (.bool s.2) ∧
          w'.cell? ⟨b1, o1 + k * 3, none⟩ = some (.int .i64 x.l)) (by kernel_rfl) (by kernel_rfl) (KK.out _ (Below.refl _ _).drew) ?_
        iterate 3 (refine chain_pure (by rfl) ?_; apply Exists.intro; apply And.intro; (case left => (intro w hSw; (try dsimp only at hSw); go_simp; try with_reducible rfl)); (try simp only [Act.put, List.setIfInBounds_toArray, List.set_cons_zero, List.set_cons_succ]))
        iterate 5 (refine chain_off (by rfl) ?_; (try simp only [Act.put, List.setIfInBounds_toArray, List.set_cons_zero, List.set_cons_succ]))
        iterate 2 (refine chain_pure (by rfl) ?_; apply Exists.intro; apply And.intro; (case left => (intro w hSw; (try dsimp only at hSw); go_simp; try with_reducible rfl)); (try simp only [Act.put, List.setIfInBounds_toArray, List.set_cons_zero, List.set_cons_succ]))
        iterate 6 (refine chain_off (by rfl) ?_; (try simp only [Act.put, List.setIfInBounds_toArray, List.set_cons_zero, List.set_cons_succ]))
        iterate 12 (refine chain_pure (by rfl) ?_; apply Exists.intro; apply And.intro; (case left => (intro w hSw; (try dsimp only at hSw); go_simp; try with_reducible rfl)); (try simp only [Act.put, List.setIfInBounds_toArray, List.set_cons_zero, List.set_cons_succ]))
        (refine chain_call (by rfl) ?_; apply Exists.intro; apply Exists.intro; apply And.intro; (case left => (intro w; go_simp; exact ⟨rfl, rfl⟩)))
        refine ⟨.int .i64 (demandL ld s.1 s.2), (fun W hSW => ?_), ?_⟩
        · refine (refDemand_any _ _ _ _ _ _ _ _ _ _).mono ?_
          rintro e w' ⟨rfl, hb'⟩
          exact ⟨rfl, KK.out _ (below_chain hb' hSW.1)⟩
        (try simp only [Act.put, List.setIfInBounds_toArray, List.set_cons_zero, List.set_cons_succ])
        iterate 2 (refine chain_pure (by rfl) ?_; apply Exists.intro; apply And.intro; (case left => (intro w hSw; (try dsimp only at hSw); go_simp; try with_reducible rfl)); (try simp only [Act.put, List.setIfInBounds_toArray, List.set_cons_zero, List.set_cons_succ]))
        intro W hSW
        have hbW : Below wr.heap.size wr W := hSW.1
        have eL : W.cell? ⟨b1, o1 + k * 3, none⟩ = some (.int .i64 x.l) := hSW.2.2.2.2.2.2.2.2.2.2
        clear hSW hdl
        have hbk := hb.trans (hbW.mono hb.size)
        have RE : Hid (∃ k' : Nat, k' ≤ n ∧ Value.int .i64 ((k : Int) + 1) = .int .i64 (k' : Int) ∧ Below w1.heap.size w1 W) := ⟨k + 1, by omega, by go_num, hbk⟩
        by_cases hk1 : k = 0
        · have hk1b : ((k : Int) == 0) = true := by simp [hk1]
          clear hk1
          go_wp2
          go_roundw
          case rel => exact RE.out
          case measure => simp [intOf]; omega
        · have hk1b : ((k : Int) == 0) = false := by simp [hk1]
          obtain ⟨b2, o2, y, hA2, _, hy, hc2⟩ := hs1.at_ (k := k - 1) (by omega)
          obtain ⟨rfl, rfl⟩ : b1 = b2 ∧ o1 = o2 := by injection hA2 with h; injection h with h1 h2 _; exact ⟨h1, h2⟩
          have eY : W.cell? ⟨b1, o1 + (k - 1) * 3, none⟩ = some (.int .i64 y.l) := hc2 W hbk 0 _ rfl
          have hys : y = stL ld ss k := by
            have := statesL_get ld ss _ (k - 1) y hy
            rw [this, show k - 1 + 1 = k by omega]; rfl
          have hkk : (1 : Int) ≤ (k : Int) := by omega
          have hkk' : (k : Int) - 1 < (n : Int) := by omega
          by_cases hy3 : y.l = 3
          · have hy3b : (y.l != 3) = false := by simp [hy3]
            by_cases hx3 : x.l = 3
            · have hx3b : (x.l == 3) = true := by simp [hx3]
              have HY := Lib.hid hys
              clear hy hys hc2 hA2 hy3 hx3
              go_wp2
              go_roundw
              case rel => exact RE.out
              case measure => simp [intOf]; omega
            · have hx3b : (x.l == 3) = false := by simp [hx3]
              obtain ⟨hk3, hneg, s1, s2, hs1', hs2', hn1, hn2⟩ := order_ends (ld := ld) HS.out (by rw [← hys]; exact hy3) (by rw [← HX.out]; exact hx3)
              obtain ⟨b3, o3, t1, hA3, _, ht1', hc3⟩ := hs01.at_ (k := k - 1) (by omega)
              obtain ⟨rfl, rfl⟩ : b0 = b3 ∧ o0 = o3 := by injection hA3 with h; injection h with h1 h2 _; exact ⟨h1, h2⟩
              obtain ⟨b4, o4, t2, hA4, _, ht2', hc4⟩ := hs01.at_ (k := k - 2) (by omega)
              obtain ⟨rfl, rfl⟩ : b0 = b4 ∧ o0 = o4 := by injection hA4 with h; injection h with h1 h2 _; exact ⟨h1, h2⟩
              have e1 : t1 = s1 := by rw [hs1'] at ht1'; injection ht1' with h; exact h.symm
              have e2 : t2 = s2 := by rw [hs2'] at ht2'; injection ht2' with h; exact h.symm
              subst e1 e2
              have eS1 : W.cell? ⟨b0, o0 + (k - 1) * 2, none⟩ = some (.int .i64 t1.1) := hc3 W hbk 0 _ rfl
              have eS2 : W.cell? ⟨b0, o0 + (k - 2) * 2, none⟩ = some (.int .i64 t2.1) := hc4 W hbk 0 _ rfl
              have hk3' : (3 : Int) ≤ (k : Int) := by omega
              clear hy hys hc2 hA2 hy3 hx3 hs1' hs2' ht1' ht2' hc3 hc4 hA3 hA4
              go_wp2
              go_roundw
              case rel => exact RE.out
              case measure => simp [intOf]; omega
          · have hy3b : (y.l != 3) = true := by simp [hy3]
            clear hy hys hc2 hA2 hy3
            go_wp2
            go_roundw
            case rel => exact RE.out
            case measure => simp [intOf]; omega
    · have hkn : k = n := by omega
      subst hkn
      go_wp2
      go_ret
      exact ⟨rfl, hbw1.trans (hb.mono (by omega))⟩

set_option maxHeartbeats 1000000 in
theorem orders_all (nm : ByteArray) (pl fl ld pe wa qu : Int) (A : Option Addr) (n cap : Nat) (ss : List (Int × Bool)) (w : World) (hnm : n ≤ maxLen) (hs : Sl (Pl sightC) 2 w w.heap.size A n ss) :
    Calls Try.prog 4 #[.agg #[.string nm, .int .i64 pl, .int .i64 fl, .int .i64 ld, .int .i64 pe, .int .i64 wa, .int .i64 qu], .slice A n cap] w fun e w' =>
      e = .returned (.bool true) ∧ Below w.heap.size w w' := by
  unfold maxLen at hnm
  by_cases hn : n ≤ 100
  · by_cases hl0 : 0 ≤ ld
    · by_cases hl1 : ld ≤ 24
      · exact orders_any nm pl fl ld pe wa qu A n cap ss w hn hl0 hl1 hs
      · have hl1' : 24 < ld := by omega
        have hn' : (n : Int) ≤ 100 := by omega
        go_enter Try.func4, Try.ntmps4
        go_wp2_with (go_at_call 13; refine (small_any _).mono ?_; rintro e w0 ⟨rfl, hb0⟩; obtain ⟨hc1, hf1⟩ := bcell hb0)
        go_ret
        exact ⟨rfl, ((Below.refl _ _).alloc (Nat.le_refl _) _).trans (hb0.mono (by simp))⟩
    · have hl0' : ld < 0 := by omega
      have hn' : (n : Int) ≤ 100 := by omega
      go_enter Try.func4, Try.ntmps4
      go_wp2_with (go_at_call 13; refine (small_any _).mono ?_; rintro e w0 ⟨rfl, hb0⟩; obtain ⟨hc1, hf1⟩ := bcell hb0)
      go_ret
      exact ⟨rfl, ((Below.refl _ _).alloc (Nat.le_refl _) _).trans (hb0.mono (by simp))⟩
  · have hn' : (100 : Int) < (n : Int) := by omega
    go_enter Try.func4, Try.ntmps4
    go_wp2_with (go_at_call 13; refine (small_any _).mono ?_; rintro e w0 ⟨rfl, hb0⟩; obtain ⟨hc1, hf1⟩ := bcell hb0)
    go_ret
    exact ⟨rfl, ((Below.refl _ _).alloc (Nat.le_refl _) _).trans (hb0.mono (by simp))⟩

end Go.Proofs.Ytlhaoiplbebgnaa
