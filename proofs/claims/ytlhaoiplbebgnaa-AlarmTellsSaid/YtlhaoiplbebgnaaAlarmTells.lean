/- Law AlarmTells: for every town, alarm and list of sights it returns true. -/
import Derived.Test.YtlhaoiplbebgnaaAlarmD
import Derived.Deep.RegionHeld3
set_option linter.unusedSimpArgs false
namespace Go.Proofs.Ytlhaoiplbebgnaa
open Go.RowKit

theorem below_chain {a W w' : World} (k : Below W.heap.size W w') (h : Below a.heap.size a W) : Below a.heap.size a w' := h.trans (k.mono h.size)

set_option maxRecDepth 100000 in
set_option maxHeartbeats 1000000 in
theorem tells_any (nm : ByteArray) (pl fl ld pe wa qu l0 c0 t0 : Int) (A : Option Addr) (n cap : Nat) (ss : List (Int × Bool)) (w : World) (hnm : n ≤ maxLen) (hs : Sl (Pl sightC) 2 w w.heap.size A n ss) :
    Calls Try.prog 3 #[.agg #[.string nm, .int .i64 pl, .int .i64 fl, .int .i64 ld, .int .i64 pe, .int .i64 wa, .int .i64 qu], .agg #[.int .i64 l0, .int .i64 c0, .int .i64 t0], .slice A n cap] w fun e w' =>
      e = .returned (.bool true) ∧ Below w.heap.size w w' := by
  unfold maxLen at hnm
  by_cases hn : n ≤ 100
  · go_enter Try.func3, Try.ntmps3
    go_wp2_with fail
    refine (small_any _).mono ?_
    rintro e w0 ⟨rfl, hb0⟩
    simp only [World.size_alloc] at hb0
    have hz0 := hb0.size
    simp only [World.size_alloc] at hz0
    have hbw0 : Below w.heap.size w w0 := (((Below.refl _ _).alloc (Nat.le_refl _) _).alloc (by simp) _).trans (hb0.mono (by omega))
    have ht0 : Bk w0 w.heap.size 23 #[.string nm, .int .i64 pl, .int .i64 fl, .int .i64 ld, .int .i64 pe, .int .i64 wa, .int .i64 qu] := ((Bk.new w _ _).alloc _).below hb0 (by omega)
    have ha0 : Bk w0 (w.heap.size + 1) 25 #[.int .i64 l0, .int .i64 c0, .int .i64 t0] := (Bk.newAt _ (by simp) _ _).below hb0 (by omega)
    have hs0 := hs.keep (Pl.lasts _) hbw0 (Nat.le_trans (by omega) hz0)
    clear hb0
    have htc := ht0.cell
    go_wp2_with fail
    refine (run_any _ _ _ _ _ _ _ _ _ _ _ _ hn hs0).mono ?_
    rintro e w1 ⟨A1, cap1, rfl, hb1, hs1⟩
    have hz1 := hb1.size
    have ht1 := ht0.below hb1 (by omega)
    have ha1 := ha0.below hb1 (by omega)
    have hs01 := hs0.keep (Pl.lasts _) hb1 hz1
    clear htc
    have htc := ht1.cell
    go_wp2_with fail
    refine (refRun_any _ _ _ _ _ _ _ _ _ _ _ _ hn hs01).mono ?_
    rintro e w2 ⟨A2, cap2, rfl, hb2, hs2⟩
    have hz2 := hb2.size
    have ht2 := ht1.below hb2 (by omega)
    have ha2 := ha1.below hb2 (by omega)
    have hs02 := hs01.keep (Pl.lasts _) hb2 hz2
    have hs12 := hs1.keep (Pl.lasts _) hb2 hz2
    have hbw2 : Below w.heap.size w w2 := (hbw0.trans (hb1.mono (by omega))).trans (hb2.mono (by omega))
    clear htc hs0 hs01 hs1 ht0 ht1 ha0 ha1 hs
    go_wp2
    go_loopw [10] (fun i wr => ∃ k : Nat, k ≤ n ∧ i = .int .i64 k ∧ Below w2.heap.size w2 wr) (fun i _ => n - (intOf i).toNat)
    case atStart => exact ⟨0, by omega, rfl, Below.refl _ _⟩
    case round =>
      obtain ⟨k, hk, rfl, hb⟩ := hrel
      by_cases hlt : k < n
      · obtain ⟨b0, o0, s, rfl, hl0, hx0, hc0⟩ := hs02.at_ hlt
        obtain ⟨b1, o1, x1, rfl, hl1, hx1, hc1⟩ := hs12.at_ hlt
        obtain ⟨b2, o2, x2, rfl, hl2, hx2, hc2⟩ := hs2.at_ hlt
        have hxe : x2 = x1 := by rw [hx1] at hx2; injection hx2 with h; exact h.symm
        subst hxe
        have hkn : (k : Int) < (n : Int) := by omega
        have hk0 : (0 : Int) ≤ (k : Int) := by omega
        have KS : ∀ w', Below wr.heap.size wr w' → (Below wr.heap.size wr w' ∧
            w'.cell? ⟨w.heap.size, 0, none⟩ = some (.string nm) ∧ w'.cell? ⟨w.heap.size, 1, none⟩ = some (.int .i64 pl) ∧ w'.cell? ⟨w.heap.size, 2, none⟩ = some (.int .i64 fl) ∧ w'.cell? ⟨w.heap.size, 3, none⟩ = some (.int .i64 ld) ∧ w'.cell? ⟨w.heap.size, 4, none⟩ = some (.int .i64 pe) ∧ w'.cell? ⟨w.heap.size, 5, none⟩ = some (.int .i64 wa) ∧ w'.cell? ⟨w.heap.size, 6, none⟩ = some (.int .i64 qu) ∧
            w'.cell? ⟨w.heap.size + 1, 0, none⟩ = some (.int .i64 l0) ∧ w'.cell? ⟨w.heap.size + 1, 1, none⟩ = some (.int .i64 c0) ∧ w'.cell? ⟨w.heap.size + 1, 2, none⟩ = some (.int .i64 t0) ∧
            w'.cell? ⟨b0, o0 + k * 2, none⟩ = some (.int .i64 s.1) ∧ w'.cell? ⟨b0, o0 + k * 2 + 1, none⟩ = some (.bool s.2) ∧
            w'.cell? ⟨b1, o1 + k * 3, none⟩ = some (.int .i64 x2.l) ∧ w'.cell? ⟨b1, o1 + k * 3 + 1, none⟩ = some (.int .i64 x2.c) ∧ w'.cell? ⟨b1, o1 + k * 3 + 2, none⟩ = some (.int .i64 x2.t) ∧
            w'.cell? ⟨b2, o2 + k * 3, none⟩ = some (.int .i64 x2.l) ∧ w'.cell? ⟨b2, o2 + k * 3 + 1, none⟩ = some (.int .i64 x2.c) ∧ w'.cell? ⟨b2, o2 + k * 3 + 2, none⟩ = some (.int .i64 x2.t)) := by
          intro w' h
          have hb' := hb.trans (h.mono hb.size)
          have t := (ht2.below hb' (by omega)).cell
          have a := (ha2.below hb' (by omega)).cell
          exact ⟨h, t 0, t 1, t 2, t 3, t 4, t 5, t 6, a 0, a 1, a 2, hc0 _ hb' 0 _ rfl, hc0 _ hb' 1 _ rfl, hc1 _ hb' 0 _ rfl, hc1 _ hb' 1 _ rfl, hc1 _ hb' 2 _ rfl, hc2 _ hb' 0 _ rfl, hc2 _ hb' 1 _ rfl, hc2 _ hb' 2 _ rfl⟩
        clear hx0 hx1 hx2 hc0 hc1 hc2 ht2 ha2 hs02 hs12 hs2
        have KK := Lib.hid KS
        clear KS
        go_wp2_with fail
        go_region_held3 (fun w' => Below wr.heap.size wr w' ∧
            w'.cell? ⟨w.heap.size, 0, none⟩ = some (.string nm) ∧ w'.cell? ⟨w.heap.size, 1, none⟩ = some (.int .i64 pl) ∧ w'.cell? ⟨w.heap.size, 2, none⟩ = some (.int .i64 fl) ∧ w'.cell? ⟨w.heap.size, 3, none⟩ = some (.int .i64 ld) ∧ w'.cell? ⟨w.heap.size, 4, none⟩ = some (.int .i64 pe) ∧ w'.cell? ⟨w.heap.size, 5, none⟩ = some (.int .i64 wa) ∧ w'.cell? ⟨w.heap.size, 6, none⟩ = some (.int .i64 qu) ∧
            w'.cell? ⟨w.heap.size + 1, 0, none⟩ = some (.int .i64 l0) ∧ w'.cell? ⟨w.heap.size + 1, 1, none⟩ = some (.int .i64 c0) ∧ w'.cell? ⟨w.heap.size + 1, 2, none⟩ = some (.int .i64 t0) ∧
            w'.cell? ⟨b0, o0 + k * 2, none⟩ = some (.int .i64 s.1) ∧ w'.cell? ⟨b0, o0 + k * 2 + 1, none⟩ = some (.bool s.2) ∧
            w'.cell? ⟨b1, o1 + k * 3, none⟩ = some (.int .i64 x2.l) ∧ w'.cell? ⟨b1, o1 + k * 3 + 1, none⟩ = some (.int .i64 x2.c) ∧ w'.cell? ⟨b1, o1 + k * 3 + 2, none⟩ = some (.int .i64 x2.t) ∧
            w'.cell? ⟨b2, o2 + k * 3, none⟩ = some (.int .i64 x2.l) ∧ w'.cell? ⟨b2, o2 + k * 3 + 1, none⟩ = some (.int .i64 x2.c) ∧ w'.cell? ⟨b2, o2 + k * 3 + 2, none⟩ = some (.int .i64 x2.t))
          (first
            | exact KK.out _ (Below.refl _ _).drew
            | (refine KK.out _ (below_chain (by assumption) ?_); (try go_split_ands); assumption))
          (first
            | (go_at_call 16; refine (next_any _ _ _ _ _ _ _ _ _ _ _ _ _).mono ?_; rintro e w' ⟨rfl, hb'⟩)
            | (go_at_call 17; refine (refNext_any _ _ _ _ _ _ _ _ _ _ _ _ _).mono ?_; rintro e w' ⟨rfl, hb'⟩))
        go_split_ands
        go_wp2
        go_roundw
        case rel => exact ⟨k + 1, by omega, by go_num, hb.trans (Below.mono (B := wr.heap.size) (by assumption) hb.size)⟩
        case measure => simp [intOf]; omega
      · have hkn : k = n := by omega
        subst hkn
        go_wp2
        go_ret
        exact ⟨rfl, hbw2.trans (hb.mono (by omega))⟩
  · have hn' : (100 : Int) < (n : Int) := by omega
    go_enter Try.func3, Try.ntmps3
    go_wp2_with (go_at_call 13; refine (small_any _).mono ?_; rintro e w0 ⟨rfl, hb0⟩)
    go_ret
    exact ⟨rfl, (((Below.refl _ _).alloc (Nat.le_refl _) _).alloc (by simp) _).trans (hb0.mono (by simp; omega))⟩

end Go.Proofs.Ytlhaoiplbebgnaa
