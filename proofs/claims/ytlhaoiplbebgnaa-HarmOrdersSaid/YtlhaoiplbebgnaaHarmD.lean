/- The walks of exact.Sub and of harm's flooded. -/
import Derived.Test.YtlhaoiplbebgnaaHarmC
import Derived.Test.YtlhaoiplbebgnaaAlarmO
set_option linter.unusedSimpArgs false
set_option linter.unusedVariables false
namespace Go.Proofs.Ytlhaoiplbebgnaa
open Go.RowKit

set_option maxHeartbeats 1000000 in
theorem subE_any (a b : Int) (w : World) (ha : R64 a) (hb : R64 b) :
    Calls Try.prog 55 #[.int .i64 a, .int .i64 b] w fun e w' => e = .returned (.int .i64 (satI (a - b))) ∧ w = w' := by
  unfold R64 at ha hb
  have h6 : (a < 0 ∧ 0 ≤ b ∧ -9223372036854775808 ≤ a - b) ∨ (a < 0 ∧ 0 ≤ b ∧ a - b < -9223372036854775808) ∨ (0 ≤ a ∧ b < 0 ∧ a - b ≤ 9223372036854775807) ∨ (0 ≤ a ∧ b < 0 ∧ 9223372036854775807 < a - b) ∨ (a < 0 ∧ b < 0) ∨ (0 ≤ a ∧ 0 ≤ b) := by omega
  have hda : a < 0 → decide (a < 0) = true := fun h => by simpa using h
  have hda' : 0 ≤ a → decide (a < 0) = false := fun h => by simpa using h
  have hdb : b < 0 → decide (b < 0) = true := fun h => by simpa using h
  have hdb' : 0 ≤ b → decide (b < 0) = false := fun h => by simpa using h
  rcases h6 with ⟨h1, h2, h3⟩ | ⟨h1, h2, h3⟩ | ⟨h1, h2, h3⟩ | ⟨h1, h2, h3⟩ | ⟨h1, h2⟩ | ⟨h1, h2⟩
  · have hs := satI_in (n := a - b) (by omega) (by omega)
    have HS := Lib.hid hs
    have h4 : a - b ≤ 9223372036854775807 := by omega
    have h5 : -9223372036854775808 ≤ a - b := by omega
    have h7 : a - b < 0 := by omega
    first | have hD1 := hda h1 | have hD1 := hda' h1
    first | have hD2 := hdb h2 | have hD2 := hdb' h2
    clear hda hda' hdb hdb'
    clear hs
    go_enter Try.func55, Try.ntmps55
    go_wp2
    go_ret
    exact ⟨ret_int HS.out.symm, rfl⟩
  · have hs := satI_lo h3
    have HS := Lib.hid hs
    have h4 : 0 ≤ wrap64 (a - b) := by unfold wrap64; omega
    have h5 : decide (wrap64 (a - b) < 0) = false := by simpa using h4
    first | have hD1 := hda h1 | have hD1 := hda' h1
    first | have hD2 := hdb h2 | have hD2 := hdb' h2
    clear hda hda' hdb hdb'
    clear hs h3 h4
    go_enter Try.func55, Try.ntmps55
    go_wp2_with fail
    refine (end_any _ _).mono ?_
    rintro e w1 ⟨rfl, rfl⟩
    go_wp2
    go_ret
    exact ⟨ret_int (by rw [HS.out]), rfl⟩
  · have hs := satI_in (n := a - b) (by omega) (by omega)
    have HS := Lib.hid hs
    have h4 : a - b ≤ 9223372036854775807 := by omega
    have h5 : -9223372036854775808 ≤ a - b := by omega
    have h7 : 0 ≤ a - b := by omega
    first | have hD1 := hda h1 | have hD1 := hda' h1
    first | have hD2 := hdb h2 | have hD2 := hdb' h2
    clear hda hda' hdb hdb'
    clear hs
    go_enter Try.func55, Try.ntmps55
    go_wp2
    go_ret
    exact ⟨ret_int HS.out.symm, rfl⟩
  · have hs := satI_hi h3
    have HS := Lib.hid hs
    have h4 : wrap64 (a - b) < 0 := by unfold wrap64; omega
    have h5 : decide (wrap64 (a - b) < 0) = true := by simpa using h4
    first | have hD1 := hda h1 | have hD1 := hda' h1
    first | have hD2 := hdb h2 | have hD2 := hdb' h2
    clear hda hda' hdb hdb'
    have h8 : ¬ a < 0 := by omega
    clear hs h3 h4
    go_enter Try.func55, Try.ntmps55
    go_wp2_with fail
    refine (end_any _ _).mono ?_
    rintro e w1 ⟨rfl, rfl⟩
    go_wp2
    go_ret
    exact ⟨ret_int (by rw [HS.out]), rfl⟩
  all_goals
    have hs := satI_in (n := a - b) (by omega) (by omega)
    have HS := Lib.hid hs
    have h4 : a - b ≤ 9223372036854775807 := by omega
    have h5 : -9223372036854775808 ≤ a - b := by omega
    first | have hD1 := hda h1 | have hD1 := hda' h1
    first | have hD2 := hdb h2 | have hD2 := hdb' h2
    clear hda hda' hdb hdb'
    clear hs
    go_enter Try.func55, Try.ntmps55
    go_wp2
    go_ret
    exact ⟨ret_int HS.out.symm, rfl⟩

/-- How many towns whose place's peak is above what they bear. -/
def floodN (l : List Town) (pl : Int) (pk : Int → Int) : Int := match l with
  | [] => 0
  | x :: r => (if 0 ≤ x.pl ∧ x.pl < pl ∧ x.fl < pk x.pl then 1 else 0) + floodN r pl pk
theorem floodN_app (l : List Town) (x : Town) (pl : Int) (pk : Int → Int) : floodN (l ++ [x]) pl pk = floodN l pl pk + if 0 ≤ x.pl ∧ x.pl < pl ∧ x.fl < pk x.pl then 1 else 0 := by
  induction l with
  | nil => simp [floodN]
  | cons a r ih => rw [List.cons_append]; unfold floodN; rw [ih]; omega
theorem floodN_bd (l : List Town) (pl : Int) (pk : Int → Int) : 0 ≤ floodN l pl pk ∧ floodN l pl pk ≤ l.length := by
  induction l with
  | nil => simp [floodN]
  | cons a r ih => unfold floodN; rw [List.length_cons]; split <;> omega
theorem floodN_take {l : List Town} {k : Nat} {x : Town} {pl : Int} {pk : Int → Int} (h : l[k]? = some x) : floodN (l.take (k + 1)) pl pk = if 0 ≤ x.pl ∧ x.pl < pl ∧ x.fl < pk x.pl then floodN (l.take k) pl pk + 1 else floodN (l.take k) pl pk := by
  rw [take_snocH h, floodN_app]; split <;> omega

set_option maxRecDepth 100000 in
set_option maxHeartbeats 2000000 in
theorem flooded_any (v0 v1 v2 v3 v4 v6 v7 v8 v9 v10 : Value) (A : Option Addr) (n cap : Nat) (l : List Town) (pl : Int) (fid : Nat) (cp : Array Value) (pk : Int → Int) (w : World) (hn : n ≤ maxLen) (hs : Sl (Pl townC) 7 w w.heap.size A n l) 
    (hcf : ∀ (args : Array Value) (W : World), (callFunc fid args).run Try.prog W = .ok (.enter fid args) W) (hpk : ∀ W p, Below w.heap.size w W → 0 ≤ p → p < pl → Calls Try.prog fid (#[.int .i64 p] ++ cp) W (fun e w' => e = .returned (.int .i64 (pk p)) ∧ Below W.heap.size W w')) :
    Calls Try.prog 45 #[.agg #[v0, v1, v2, v3, v4, .slice A n cap, v6, v7, v8, v9, v10], .int .i64 pl, .func (.func fid) #[] cp] w fun e w' => e = .returned (.int .i64 (floodN l pl pk)) ∧ Below w.heap.size w w' := by
  unfold maxLen at hn
  have HPK := Lib.hid hpk
  clear hpk
  go_enter Try.func45, Try.ntmps45
  have hb0 := Bk.new w 93 #[v0, v1, v2, v3, v4, .slice A n cap, v6, v7, v8, v9, v10]
  have c0 := hb0.cell
  have hbw : Below w.heap.size w (w.alloc (.cells #[v0, v1, v2, v3, v4, .slice A n cap, v6, v7, v8, v9, v10] 93)) := (Below.refl _ _).alloc (Nat.le_refl _) _
  have HBW := Lib.hid hbw
  clear hb0 hbw
  go_wp2
  go_loopw [7, 13] (fun v7 i wr => ∃ k : Nat, k ≤ n ∧ i = .int .i64 k ∧ v7 = .int .i64 (floodN (l.take k) pl pk) ∧ Below w.heap.size w wr) (fun _ i _ => n - (intOf i).toNat)
  case atStart => exact ⟨0, Nat.zero_le _, rfl, rfl, HBW.out⟩
  case round =>
    obtain ⟨k, hk, rfl, rfl, hb⟩ := hrel
    obtain ⟨wo, rfl⟩ : ∃ wo : World, wo = wr := ⟨_, rfl⟩
    clear c0
    by_cases hlt : k < n
    · obtain ⟨bo, oo, x, rfl, hbl, hx, hc⟩ := hs.at_ hlt
      have e0 := hc wo hb 0 _ rfl
      have e1 := hc wo hb 1 _ rfl
      have e2 := hc wo hb 2 _ rfl
      have e3 := hc wo hb 3 _ rfl
      have e4 := hc wo hb 4 _ rfl
      have e5 := hc wo hb 5 _ rfl
      have e6 := hc wo hb 6 _ rfl
      simp only [Nat.add_zero] at e0
      have hst := floodN_take (pl := pl) (pk := pk) hx
      have hbd := floodN_bd (l.take k) pl pk
      have htk : (l.take k).length ≤ k := List.length_take_le _ _
      have HST := Lib.hid hst
      have hkn : (k : Int) < (n : Int) := by omega
      have hk0 : (0 : Int) ≤ (k : Int) := by omega
      obtain ⟨X, hX⟩ : ∃ X, X = wo.heap.size := ⟨_, rfl⟩
      have hbX := Bk.new wo 23 #[.string x.nm, .int .i64 x.pl, .int .i64 x.fl, .int .i64 x.ld, .int .i64 x.pe, .int .i64 x.wa, .int .i64 x.qu]
      have hb1 : Below w.heap.size w (wo.alloc (.cells #[.string x.nm, .int .i64 x.pl, .int .i64 x.fl, .int .i64 x.ld, .int .i64 x.pe, .int .i64 x.wa, .int .i64 x.qu] 23)) := hb.alloc hb.size _
      rw [← hX] at hbX
      have HX := Lib.hid hX
      have HBX := Lib.hid hbX
      have HB1 := Lib.hid hb1
      have HBD := Lib.hid (hb1.drew)
      have cX : ∀ j, (wo.alloc (.cells #[.string x.nm, .int .i64 x.pl, .int .i64 x.fl, .int .i64 x.ld, .int .i64 x.pe, .int .i64 x.wa, .int .i64 x.qu] 23)).drew.cell? ⟨X, j, none⟩ = #[.string x.nm, .int .i64 x.pl, .int .i64 x.fl, .int .i64 x.ld, .int .i64 x.pe, .int .i64 x.wa, .int .i64 x.qu][j]? := hbX.cell
      clear hst hx hc hX hb1 hbX
      generalize floodN (l.take k) pl pk = c at *
      rcases (show x.pl < 0 ∨ (0 ≤ x.pl ∧ pl ≤ x.pl) ∨ (0 ≤ x.pl ∧ x.pl < pl) by omega) with h1 | ⟨h1, h2⟩ | ⟨h1, h2⟩
      · have hd1 : decide (0 ≤ x.pl) = false := by simpa using h1
        have HN := Lib.hid (show ¬ (0 ≤ x.pl ∧ x.pl < pl ∧ x.fl < pk x.pl) by omega)
        go_wp2_with fail
        rw [show wo.heap.size = X from HX.out.symm]
        refine wp_region_M [0, 1, 2, 3, 4, 5, 6, 7, 8, 9, 10, 11, 12, 13, 14, 15, 16, 17] [] (fun w' => ∀ j, w'.cell? ⟨X, j, none⟩ = #[.string x.nm, .int .i64 x.pl, .int .i64 x.fl, .int .i64 x.ld, .int .i64 x.pe, .int .i64 x.wa, .int .i64 x.qu][j]?) (by kernel_rfl) (by kernel_rfl) cX ?_
        iterate 4 (refine M_pure (by rfl) (by rfl) ?_; apply Exists.intro; apply And.intro; (case left => (intro w hSw; (try dsimp only at hSw); go_simp; try with_reducible rfl)); (try simp only [Act.put, List.setIfInBounds_toArray, List.set_cons_zero, List.set_cons_succ]))
        iterate 4 (refine M_off (by rfl) (by rfl) ?_; (try simp only [Act.put, List.setIfInBounds_toArray, List.set_cons_zero, List.set_cons_succ]))
        iterate 2 (refine M_pure (by rfl) (by rfl) ?_; apply Exists.intro; apply And.intro; (case left => (intro w hSw; (try dsimp only at hSw); go_simp; try with_reducible rfl)); (try simp only [Act.put, List.setIfInBounds_toArray, List.set_cons_zero, List.set_cons_succ]))
        iterate 7 (refine M_off (by rfl) (by rfl) ?_; (try simp only [Act.put, List.setIfInBounds_toArray, List.set_cons_zero, List.set_cons_succ]))
        iterate 1 (refine M_pure (by rfl) (by rfl) ?_; apply Exists.intro; apply And.intro; (case left => (intro w hSw; (try dsimp only at hSw); go_simp; try with_reducible rfl)); (try simp only [Act.put, List.setIfInBounds_toArray, List.set_cons_zero, List.set_cons_succ]))
        refine M_nil ?_
        try dsimp only
        go_wp2
        go_roundw
        case rel => exact ⟨k + 1, by omega, by go_num, by rw [HST.out, if_neg HN.out], HB1.out.drew⟩
        case measure => simp [intOf]; omega
      · have hd1 : decide (0 ≤ x.pl) = true := by simpa using h1
        have hd2 : decide (x.pl < pl) = false := by simpa using h2
        have HN := Lib.hid (show ¬ (0 ≤ x.pl ∧ x.pl < pl ∧ x.fl < pk x.pl) by omega)
        go_wp2_with fail
        rw [show wo.heap.size = X from HX.out.symm]
        refine wp_region_M [0, 1, 2, 3, 4, 5, 6, 7, 8, 9, 10, 11, 12, 13, 14, 15, 16, 17] [] (fun w' => ∀ j, w'.cell? ⟨X, j, none⟩ = #[.string x.nm, .int .i64 x.pl, .int .i64 x.fl, .int .i64 x.ld, .int .i64 x.pe, .int .i64 x.wa, .int .i64 x.qu][j]?) (by kernel_rfl) (by kernel_rfl) cX ?_
        iterate 10 (refine M_pure (by rfl) (by rfl) ?_; apply Exists.intro; apply And.intro; (case left => (intro w hSw; (try dsimp only at hSw); go_simp; try with_reducible rfl)); (try simp only [Act.put, List.setIfInBounds_toArray, List.set_cons_zero, List.set_cons_succ]))
        iterate 7 (refine M_off (by rfl) (by rfl) ?_; (try simp only [Act.put, List.setIfInBounds_toArray, List.set_cons_zero, List.set_cons_succ]))
        iterate 1 (refine M_pure (by rfl) (by rfl) ?_; apply Exists.intro; apply And.intro; (case left => (intro w hSw; (try dsimp only at hSw); go_simp; try with_reducible rfl)); (try simp only [Act.put, List.setIfInBounds_toArray, List.set_cons_zero, List.set_cons_succ]))
        refine M_nil ?_
        try dsimp only
        go_wp2
        go_roundw
        case rel => exact ⟨k + 1, by omega, by go_num, by rw [HST.out, if_neg HN.out], HB1.out.drew⟩
        case measure => simp [intOf]; omega
      · have hd1 : decide (0 ≤ x.pl) = true := by simpa using h1
        have hd2 : decide (x.pl < pl) = true := by simpa using h2
        have H12 := Lib.hid (And.intro h1 h2)
        go_wp2_with fail
        rw [show wo.heap.size = X from HX.out.symm]
        refine wp_region_M [0, 1, 2, 3, 4, 5, 6, 7, 8, 9, 10, 11, 12, 14, 15, 13, 16, 17] [13] (fun w' => ∀ j, w'.cell? ⟨X, j, none⟩ = #[.string x.nm, .int .i64 x.pl, .int .i64 x.fl, .int .i64 x.ld, .int .i64 x.pe, .int .i64 x.wa, .int .i64 x.qu][j]?) (by kernel_rfl) (by kernel_rfl) cX ?_
        iterate 15 (refine M_pure (by rfl) (by rfl) ?_; apply Exists.intro; apply And.intro; (case left => (intro w hSw; (try dsimp only at hSw); go_simp; try with_reducible rfl)); (try simp only [Act.put, List.setIfInBounds_toArray, List.set_cons_zero, List.set_cons_succ]))
        (refine M_call (by rfl) (by rfl) ?_; apply Exists.intro; apply Exists.intro; apply And.intro; (case left => (go_simp; first | exact ⟨rfl, rfl⟩ | rfl)))
        refine (HPK.out _ x.pl HBD.out H12.out.1 H12.out.2).mono ?_
        rintro e W ⟨rfl, hbW⟩
        have hbx2 := (HBX.out.drew).below hbW HBX.out.lt
        have HBW2 := Lib.hid (HBD.out.trans (hbW.mono HBD.out.size))
        clear hbW
        refine ⟨_, rfl, hbx2.cell, ?_⟩
        clear hbx2
        (try simp only [Act.put, List.setIfInBounds_toArray, List.set_cons_zero, List.set_cons_succ])
        iterate 2 (refine M_pure (by rfl) (by rfl) ?_; apply Exists.intro; apply And.intro; (case left => (intro w hSw; (try dsimp only at hSw); go_simp; try with_reducible rfl)); (try simp only [Act.put, List.setIfInBounds_toArray, List.set_cons_zero, List.set_cons_succ]))
        refine M_nil ?_
        try dsimp only
        by_cases h3 : x.fl < pk x.pl
        · have HN := Lib.hid (show 0 ≤ x.pl ∧ x.pl < pl ∧ x.fl < pk x.pl from ⟨h1, h2, h3⟩)
          go_wp2
          go_roundw
          case rel => exact ⟨k + 1, by omega, by go_num, by rw [HST.out, if_pos HN.out], HBW2.out⟩
          case measure => simp [intOf]; omega
        · have HN := Lib.hid (show ¬ (0 ≤ x.pl ∧ x.pl < pl ∧ x.fl < pk x.pl) by omega)
          go_wp2
          go_roundw
          case rel => exact ⟨k + 1, by omega, by go_num, by rw [HST.out, if_neg HN.out], HBW2.out⟩
          case measure => simp [intOf]; omega
    · have hkn : k = n := by omega
      subst hkn
      rw [List.take_of_length_le (by rw [hs.1]; exact Nat.le_refl _)]
      go_wp2
      go_ret
      exact ⟨rfl, hb⟩


end Go.Proofs.Ytlhaoiplbebgnaa
