/- Law HarmOrders: the walk. -/
import Derived.Test.YtlhaoiplbebgnaaHarmW
import Derived.Deep.DeepCutAuto
set_option linter.unusedSimpArgs false
set_option linter.unusedVariables false
namespace Go.Proofs.Ytlhaoiplbebgnaa
open Go.RowKit

def PlainP (p : Bool) (L : List Int) (k : Nat) : Prop := p = true ↔ ∀ n ∈ L.take k, -1152921504606846976 ≤ n ∧ n ≤ 1152921504606846976
def l12 (x y z : Hm) : List Int := [x.fl, x.sp, x.sh, x.mv, y.fl, y.sp, y.sh, y.mv, z.fl, z.sp, z.sh, z.mv]

set_option maxRecDepth 100000 in
set_option maxHeartbeats 8000000 in
theorem harmOrders_any (x y z : Hm) (w : World) (hx : HmOk x) (hy : HmOk y) (hz : HmOk z) :
    Calls Try.prog 12 #[.agg #[.int .i64 x.fl, .int .i64 x.sp, .int .i64 x.sh, .int .i64 x.mv], .agg #[.int .i64 y.fl, .int .i64 y.sp, .int .i64 y.sh, .int .i64 y.mv], .agg #[.int .i64 z.fl, .int .i64 z.sp, .int .i64 z.sh, .int .i64 z.mv]] w fun e w' => e = .returned (.bool true) ∧ Below w.heap.size w w' := by
  have HXO := Lib.hid hx
  have HYO := Lib.hid hy
  have HZO := Lib.hid hz
  clear hx hy hz
  go_enter Try.func12, Try.ntmps12
  go_wp2_with fail
  obtain ⟨w0, hw0⟩ : ∃ w0, w0 = (((w.alloc (.cells #[.int .i64 x.fl, .int .i64 x.sp, .int .i64 x.sh, .int .i64 x.mv] 61)).alloc (.cells #[.int .i64 y.fl, .int .i64 y.sp, .int .i64 y.sh, .int .i64 y.mv] 61)).alloc (.cells #[.int .i64 z.fl, .int .i64 z.sp, .int .i64 z.sh, .int .i64 z.mv] 61)) := ⟨_, rfl⟩
  have k0 : Bk w0 w.heap.size 61 #[.int .i64 x.fl, .int .i64 x.sp, .int .i64 x.sh, .int .i64 x.mv] := by rw [hw0]; exact ((Bk.new w _ _).alloc _).alloc _
  have k1 : Bk w0 (w.heap.size + 1) 61 #[.int .i64 y.fl, .int .i64 y.sp, .int .i64 y.sh, .int .i64 y.mv] := by rw [hw0]; exact (Bk.newAt _ (by simp) _ _).alloc _
  have k2 : Bk w0 (w.heap.size + 1 + 1) 61 #[.int .i64 z.fl, .int .i64 z.sp, .int .i64 z.sh, .int .i64 z.mv] := by rw [hw0]; exact Bk.newAt _ (by simp) _ _
  have hbw : Below w.heap.size w w0 := by rw [hw0]; exact (((Below.refl _ _).alloc (Nat.le_refl _) _).alloc (by simp) _).alloc (by simp; omega) _
  rw [← hw0]
  obtain ⟨X, e0⟩ : ∃ B, B = w.heap.size := ⟨_, rfl⟩
  obtain ⟨Y, e1⟩ : ∃ B, B = w.heap.size + 1 := ⟨_, rfl⟩
  obtain ⟨Z, e2⟩ : ∃ B, B = w.heap.size + 1 + 1 := ⟨_, rfl⟩
  rw [← e2, ← e1, ← e0]
  rw [← e0] at k0
  rw [← e1] at k1
  rw [← e2] at k2
  have HE := Lib.hid (And.intro e0 (And.intro e1 e2))
  have hkeep : ∀ W, Below w0.heap.size w0 W → (∀ j, W.cell? ⟨X, j, none⟩ = #[.int .i64 x.fl, .int .i64 x.sp, .int .i64 x.sh, .int .i64 x.mv][j]?) ∧ (∀ j, W.cell? ⟨Y, j, none⟩ = #[.int .i64 y.fl, .int .i64 y.sp, .int .i64 y.sh, .int .i64 y.mv][j]?) ∧ (∀ j, W.cell? ⟨Z, j, none⟩ = #[.int .i64 z.fl, .int .i64 z.sp, .int .i64 z.sh, .int .i64 z.mv][j]?) := fun W h => ⟨(k0.below h k0.lt).cell, (k1.below h k1.lt).cell, (k2.below h k2.lt).cell⟩
  have HK := Lib.hid hkeep
  have HBW := Lib.hid hbw
  clear k0 k1 k2 hbw hw0 e0 e1 e2 hkeep
  refine (small33_any _).mono ?_
  rintro e wa ⟨rfl, hba⟩
  obtain ⟨c1, c2, c3⟩ := HK.out wa hba
  have HBA := Lib.hid hba
  clear hba
  go_wp2_with fail
  refine (less_any x y _).mono ?_
  rintro e wb ⟨rfl, hbb⟩
  have HBB := Lib.hid (HBA.out.trans (hbb.mono HBA.out.size))
  clear hbb c1 c2 c3
  obtain ⟨c1, c2, c3⟩ := HK.out wb HBB.out
  go_wp2_with fail
  refine (less_any y x _).mono ?_
  rintro e wcc ⟨rfl, hbc⟩
  have HBC := Lib.hid (HBB.out.trans (hbc.mono HBB.out.size))
  clear hbc c1 c2 c3
  obtain ⟨c1, c2, c3⟩ := HK.out wcc HBC.out
  have h1 := lessB_iff x y
  have h2 := lessB_iff y x
  have hadd : (∀ n ∈ l12 x y z, -1152921504606846976 ≤ n ∧ n ≤ 1152921504606846976) → lessB (addH x z) (addH y z) = lessB x y := fun h => by
    rw [Bool.eq_iff_iff, lessB_iff, lessB_iff]
    exact ltH_add h
  obtain ⟨o1, ho1⟩ : ∃ o1, o1 = lessB x y := ⟨_, rfl⟩
  obtain ⟨o2, ho2⟩ : ∃ o2, o2 = lessB y x := ⟨_, rfl⟩
  rw [← ho1] at h1 hadd
  rw [← ho2] at h2
  rw [← ho1, ← ho2]
  have HADD := Lib.hid hadd
  have hup : 0 ≤ z.fl → 0 ≤ z.sp → 0 ≤ z.sh → 0 ≤ z.mv → lessB (addH x z) x = false := fun a1 a2 a3 a4 => (lessB_false _ _).2 (not_less_up HXO.out a1 a2 a3 a4)
  have HUP := Lib.hid hup
  have HCM := Lib.hid (addH_comm x y)
  have HZE := Lib.hid (addH_zero HXO.out)
  have hc4 : (o1 = true ∧ o2 = false ∧ x ≠ y) ∨ (o1 = false ∧ o2 = true ∧ x ≠ y) ∨ (o1 = false ∧ o2 = false ∧ x = y) := by
    cases o1 with
    | true =>
      have a1 := h1.1 rfl
      cases o2 with
      | true => exact absurd (h2.1 rfl) (ltH_asymm a1)
      | false => exact .inl ⟨rfl, rfl, fun h => by rw [h] at a1; exact ltH_asymm a1 a1⟩
    | false =>
      cases o2 with
      | true => exact .inr (.inl ⟨rfl, rfl, fun h => by have a2 := h2.1 rfl; rw [h] at a2; exact ltH_asymm a2 a2⟩)
      | false => exact .inr (.inr ⟨rfl, rfl, eqH (fun h => by have := h1.2 h; cases this) (fun h => by have := h2.2 h; cases this)⟩)
  have H1 := Lib.hid h1
  clear ho1 ho2 h1 h2 hadd hup
  go_upto_region 4 with fail
  go_cut [50] (fun s50 wx => s50 = .bool false ∧ Below w0.heap.size w0 wx)
  case first =>
    rcases hc4 with ⟨rfl, rfl, hne⟩ | ⟨rfl, rfl, hne⟩ | ⟨rfl, rfl, heq⟩
    · have hw5 := ways5 x y
      have hq : ((x.fl == y.fl) = false) ∨ ((x.fl == y.fl) = true ∧ (x.sp == y.sp) = false) ∨ ((x.fl == y.fl) = true ∧ (x.sp == y.sp) = true ∧ (x.sh == y.sh) = false) ∨ ((x.fl == y.fl) = true ∧ (x.sp == y.sp) = true ∧ (x.sh == y.sh) = true ∧ (x.mv == y.mv) = false) := by
        rcases hw5 with ⟨_, _, _, _, h5⟩ | ⟨_, h⟩
        · exact absurd h5 hne
        · simpa using h
      clear hw5 hne
      rcases hq with q1 | ⟨q1, q2⟩ | ⟨q1, q2, q3⟩ | ⟨q1, q2, q3, q4⟩
      all_goals
        go_wp2_with fail
        refine (less_any y z _).mono ?_
        rintro e wd ⟨rfl, hbd⟩
        have HBD := Lib.hid (HBC.out.trans (hbd.mono HBC.out.size))
        clear hbd c1 c2 c3
        obtain ⟨c1, c2, c3⟩ := HK.out wd HBD.out
        cases hyz : lessB y z with
        | true =>
          have hxz : lessB x z = true := (lessB_iff x z).2 (ltH_trans (H1.out.1 (by trivial)) ((lessB_iff y z).1 hyz))
          have HXZ := Lib.hid hxz
          clear hyz hxz
          go_wp2_with fail
          refine (less_any x z _).mono ?_
          rintro e we ⟨rfl, hbe⟩
          have HBE := Lib.hid (HBD.out.trans (hbe.mono HBD.out.size))
          clear hbe c1 c2 c3
          rw [HXZ.out]
          go_wp2_with fail
          go_meet
          exact ⟨rfl, HBE.out⟩
        | false =>
          clear hyz
          go_wp2_with fail
          go_meet
          exact ⟨rfl, HBD.out⟩
    · have hw5 := ways5 x y
      have hq : ((x.fl == y.fl) = false) ∨ ((x.fl == y.fl) = true ∧ (x.sp == y.sp) = false) ∨ ((x.fl == y.fl) = true ∧ (x.sp == y.sp) = true ∧ (x.sh == y.sh) = false) ∨ ((x.fl == y.fl) = true ∧ (x.sp == y.sp) = true ∧ (x.sh == y.sh) = true ∧ (x.mv == y.mv) = false) := by
        rcases hw5 with ⟨_, _, _, _, h5⟩ | ⟨_, h⟩
        · exact absurd h5 hne
        · simpa using h
      clear hw5 hne
      rcases hq with q1 | ⟨q1, q2⟩ | ⟨q1, q2, q3⟩ | ⟨q1, q2, q3, q4⟩
      all_goals
        go_wp2_with fail
        go_meet
        exact ⟨rfl, HBC.out⟩
    · subst heq
      go_wp2_with fail
      go_meet
      exact ⟨rfl, HBC.out⟩
  case rest =>
    obtain ⟨rfl, hbx⟩ := hcut
    obtain ⟨wm, rfl⟩ : ∃ wm : World, wm = wc := ⟨_, rfl⟩
    clear c1 c2 c3 hc4
    obtain ⟨c1, c2, c3⟩ := HK.out wm hbx
    have hbs := Bk.new wm 3 #[.int .i64 x.fl, .int .i64 x.sp, .int .i64 x.sh, .int .i64 x.mv, .int .i64 y.fl, .int .i64 y.sp, .int .i64 y.sh, .int .i64 y.mv, .int .i64 z.fl, .int .i64 z.sp, .int .i64 z.sh, .int .i64 z.mv]
    have hbn : Below w0.heap.size w0 (wm.alloc (.cells #[.int .i64 x.fl, .int .i64 x.sp, .int .i64 x.sh, .int .i64 x.mv, .int .i64 y.fl, .int .i64 y.sp, .int .i64 y.sh, .int .i64 y.mv, .int .i64 z.fl, .int .i64 z.sp, .int .i64 z.sh, .int .i64 z.mv] 3)) := hbx.alloc hbx.size _
    have hz0 := hbx.size
    obtain ⟨wn, hwn⟩ : ∃ wn, wn = wm.alloc (.cells #[.int .i64 x.fl, .int .i64 x.sp, .int .i64 x.sh, .int .i64 x.mv, .int .i64 y.fl, .int .i64 y.sp, .int .i64 y.sh, .int .i64 y.mv, .int .i64 z.fl, .int .i64 z.sp, .int .i64 z.sh, .int .i64 z.mv] 3) := ⟨_, rfl⟩
    rw [← hwn] at hbs hbn
    have HBS := Lib.hid hbs
    have HBN := Lib.hid hbn
    have HWN := Lib.hid hwn
    clear hbs hbn hwn
    go_wp2_with fail
    rw [← HWN.out]
    obtain ⟨d1, d2, d3⟩ := HK.out wn HBN.out
    clear c1 c2 c3
    go_loop [12, 13] (fun v12 v13 => ∃ (k : Nat) (p : Bool), k ≤ 12 ∧ v13 = .int .i64 (k : Int) ∧ v12 = .bool p ∧ PlainP p (l12 x y z) k) (fun _ v13 => 12 - (intOf v13).toNat)
    case atStart => exact ⟨0, true, by omega, rfl, rfl, by unfold PlainP; simp⟩
    case round =>
      obtain ⟨k, p, hk, rfl, rfl, hp⟩ := hrel
      have HP := Lib.hid hp
      clear hp
      by_cases hlt : k < 12
      · obtain ⟨n, hn⟩ : ∃ n, (l12 x y z)[k]? = some n := ⟨_, List.getElem?_eq_getElem (show k < (l12 x y z).length from hlt)⟩
        have e0 : wn.cell? ⟨wm.heap.size, k, none⟩ = some (.int .i64 n) := by
          rw [HBS.out.cell k]
          have hm : ((l12 x y z).map fun n => (Value.int .i64 n))[k]? = some (.int .i64 n) := by rw [List.getElem?_map, hn]; rfl
          rw [← Array.getElem?_toList]
          exact hm
        have HTK := Lib.hid (take_snocH hn)
        have hk12 : (k : Int) < 12 := by omega
        have hk0 : (0 : Int) ≤ (k : Int) := by omega
        clear hn
        cases p with
        | false =>
          have hpf : PlainP false (l12 x y z) (k + 1) := ⟨(fun h => by cases h), fun h => HP.out.2 (fun n hn => h n (by rw [HTK.out]; exact List.mem_append_left _ hn))⟩
          have HPF := Lib.hid hpf
          clear hpf
          go_wp2
          go_round
          case rel => exact ⟨k + 1, false, by omega, by go_num, rfl, HPF.out⟩
          case measure => simp [intOf]; omega
        | true =>
          have hall : ∀ (h1 : -1152921504606846976 ≤ n) (h2 : n ≤ 1152921504606846976), PlainP true (l12 x y z) (k + 1) := fun h1 h2 => by
            refine ⟨fun _ n' hn' => ?_, fun _ => rfl⟩
            rw [HTK.out] at hn'
            rcases List.mem_append.1 hn' with h | h
            · exact HP.out.1 rfl n' h
            · rw [List.mem_singleton.1 h]; exact ⟨h1, h2⟩
          have hnone : ¬ (-1152921504606846976 ≤ n ∧ n ≤ 1152921504606846976) → PlainP false (l12 x y z) (k + 1) := fun h => ⟨(fun h' => by cases h'), fun h' => absurd (h' n (by rw [HTK.out]; exact List.mem_append_right _ (List.mem_singleton.2 rfl))) h⟩
          have HALL := Lib.hid hall
          have HNONE := Lib.hid hnone
          clear hall hnone
          rcases (show n < -1152921504606846976 ∨ (-1152921504606846976 ≤ n ∧ n ≤ 1152921504606846976) ∨ (-1152921504606846976 ≤ n ∧ 1152921504606846976 < n) by omega) with h1 | ⟨h1, h2⟩ | ⟨h1, h2⟩
          · have HPF := Lib.hid (HNONE.out (by omega))
            have h3 : ¬ -1152921504606846976 ≤ n := by omega
            go_wp2
            go_round
            case rel => exact ⟨k + 1, false, by omega, by go_num, rfl, HPF.out⟩
            case measure => simp [intOf]; omega
          · have HPF := Lib.hid (HALL.out h1 h2)
            go_wp2
            go_round
            case rel => exact ⟨k + 1, true, by omega, by go_num, rfl, HPF.out⟩
            case measure => simp [intOf]; omega
          · have HPF := Lib.hid (HNONE.out (by omega))
            have h3 : ¬ n ≤ 1152921504606846976 := by omega
            go_wp2
            go_round
            case rel => exact ⟨k + 1, false, by omega, by go_num, rfl, HPF.out⟩
            case measure => simp [intOf]; omega
      · have hk12 : k = 12 := by omega
        subst hk12
        go_upto_region 13 with fail
        go_cut [111] (fun s111 wx => s111 = .bool false ∧ Below w0.heap.size w0 wx)
        case first =>
          have HD := Lib.hid (show Below w0.heap.size w0 wn.drew from HBN.out.drew)
          cases p with
          | false =>
            go_wp2_with fail
            refine wp_region_M [0, 1, 2, 3, 4, 5, 6, 7, 8, 9, 10, 11] [] (fun w' => (∀ j, w'.cell? ⟨X, j, none⟩ = #[.int .i64 x.fl, .int .i64 x.sp, .int .i64 x.sh, .int .i64 x.mv][j]?) ∧ (∀ j, w'.cell? ⟨Y, j, none⟩ = #[.int .i64 y.fl, .int .i64 y.sp, .int .i64 y.sh, .int .i64 y.mv][j]?) ∧ (∀ j, w'.cell? ⟨Z, j, none⟩ = #[.int .i64 z.fl, .int .i64 z.sp, .int .i64 z.sh, .int .i64 z.mv][j]?)) (by kernel_rfl) (by kernel_rfl) (HK.out _ HD.out) ?_
            iterate 2 (refine M_pure (by rfl) (by rfl) ?_; apply Exists.intro; apply And.intro; (case left => (intro w hSw; (try dsimp only at hSw); go_simp; try with_reducible rfl)); (try simp only [Act.put, List.setIfInBounds_toArray, List.set_cons_zero, List.set_cons_succ]))
            iterate 9 (refine M_off (by rfl) (by rfl) ?_; (try simp only [Act.put, List.setIfInBounds_toArray, List.set_cons_zero, List.set_cons_succ]))
            iterate 1 (refine M_pure (by rfl) (by rfl) ?_; apply Exists.intro; apply And.intro; (case left => (intro w hSw; (try dsimp only at hSw); go_simp; try with_reducible rfl)); (try simp only [Act.put, List.setIfInBounds_toArray, List.set_cons_zero, List.set_cons_succ]))
            refine M_nil ?_
            try dsimp only
            go_wp2_with fail
            go_meet
            exact ⟨rfl, HD.out⟩
          | true =>
            have hb := HADD.out (fun n hn => HP.out.1 (by trivial) n (by rw [List.take_of_length_le (by show 12 ≤ 12; omega)]; exact hn))
            have HADD2 := Lib.hid hb
            have hoo : (o1 != o1) = false := by simp
            clear hb
            go_wp2_with fail
            refine wp_region_M [0, 1, 2, 3, 4, 6, 7, 5, 8, 9, 10, 11] [5, 8, 9] (fun w' => (∀ j, w'.cell? ⟨X, j, none⟩ = #[.int .i64 x.fl, .int .i64 x.sp, .int .i64 x.sh, .int .i64 x.mv][j]?) ∧ (∀ j, w'.cell? ⟨Y, j, none⟩ = #[.int .i64 y.fl, .int .i64 y.sp, .int .i64 y.sh, .int .i64 y.mv][j]?) ∧ (∀ j, w'.cell? ⟨Z, j, none⟩ = #[.int .i64 z.fl, .int .i64 z.sp, .int .i64 z.sh, .int .i64 z.mv][j]?)) (by kernel_rfl) (by kernel_rfl) (HK.out _ HD.out) ?_
            iterate 7 (refine M_pure (by rfl) (by rfl) ?_; apply Exists.intro; apply And.intro; (case left => (intro w hSw; (try dsimp only at hSw); go_simp; try with_reducible rfl)); (try simp only [Act.put, List.setIfInBounds_toArray, List.set_cons_zero, List.set_cons_succ]))
            (refine M_call (by rfl) (by rfl) ?_; apply Exists.intro; apply Exists.intro; apply And.intro; (case left => (go_simp; first | exact ⟨rfl, rfl⟩ | rfl)))
            refine (addH_any x z _ HXO.out HZO.out).mono ?_
            rintro e W1 ⟨rfl, hb1⟩
            have HB1 := Lib.hid (HD.out.trans (hb1.mono HD.out.size))
            clear hb1
            refine ⟨_, rfl, HK.out W1 HB1.out, ?_⟩
            (try simp only [Act.put, List.setIfInBounds_toArray, List.set_cons_zero, List.set_cons_succ])
            (refine M_call (by rfl) (by rfl) ?_; apply Exists.intro; apply Exists.intro; apply And.intro; (case left => (go_simp; first | exact ⟨rfl, rfl⟩ | rfl)))
            refine (addH_any y z _ HYO.out HZO.out).mono ?_
            rintro e W2 ⟨rfl, hb2⟩
            have HB2 := Lib.hid (HB1.out.trans (hb2.mono HB1.out.size))
            clear hb2
            refine ⟨_, rfl, HK.out W2 HB2.out, ?_⟩
            (try simp only [Act.put, List.setIfInBounds_toArray, List.set_cons_zero, List.set_cons_succ])
            (refine M_call (by rfl) (by rfl) ?_; apply Exists.intro; apply Exists.intro; apply And.intro; (case left => (go_simp; first | exact ⟨rfl, rfl⟩ | rfl)))
            refine (less_any (addH x z) (addH y z) _).mono ?_
            rintro e W3 ⟨rfl, hb3⟩
            rw [HADD2.out]
            have HB3 := Lib.hid (HB2.out.trans (hb3.mono HB2.out.size))
            clear hb3
            refine ⟨_, rfl, HK.out W3 HB3.out, ?_⟩
            (try simp only [Act.put, List.setIfInBounds_toArray, List.set_cons_zero, List.set_cons_succ])
            iterate 2 (refine M_pure (by rfl) (by rfl) ?_; apply Exists.intro; apply And.intro; (case left => (intro w hSw; (try dsimp only at hSw); go_simp; try with_reducible rfl)); (try simp only [Act.put, List.setIfInBounds_toArray, List.set_cons_zero, List.set_cons_succ]))
            refine M_nil ?_
            try dsimp only
            go_wp2_with fail
            go_meet
            exact ⟨rfl, HB3.out⟩
        case rest =>
          obtain ⟨rfl, hby⟩ := hcut
          obtain ⟨wp, rfl⟩ : ∃ wp : World, wp = wc := ⟨_, rfl⟩
          clear d1 d2 d3
          obtain ⟨d1, d2, d3⟩ := HK.out wp hby
          have HBY := Lib.hid hby
          clear hby
          go_upto_region 15 with fail
          go_cut [136] (fun s136 wx => s136 = .bool false ∧ Below w0.heap.size w0 wx)
          case first =>
            have HD := Lib.hid (show Below w0.heap.size w0 wp.drew from HBY.out.drew)
            rcases (show z.fl < 0 ∨ (0 ≤ z.fl ∧ z.sp < 0) ∨ (0 ≤ z.fl ∧ 0 ≤ z.sp ∧ z.sh < 0) ∨ (0 ≤ z.fl ∧ 0 ≤ z.sp ∧ 0 ≤ z.sh ∧ z.mv < 0) ∨ (0 ≤ z.fl ∧ 0 ≤ z.sp ∧ 0 ≤ z.sh ∧ 0 ≤ z.mv) by omega) with h1 | ⟨h1, h2⟩ | ⟨h1, h2, h3⟩ | ⟨h1, h2, h3, h4⟩ | ⟨h1, h2, h3, h4⟩
            · have q1 : decide (0 ≤ z.fl) = false := by simpa using h1
              go_wp2_with fail
              refine wp_region_M [0, 1, 2, 3, 4, 5, 6, 7, 8, 9, 10, 11, 12, 13, 14, 15, 16, 17, 18, 19, 20, 21, 22, 23, 24] [] (fun w' => (∀ j, w'.cell? ⟨X, j, none⟩ = #[.int .i64 x.fl, .int .i64 x.sp, .int .i64 x.sh, .int .i64 x.mv][j]?) ∧ (∀ j, w'.cell? ⟨Y, j, none⟩ = #[.int .i64 y.fl, .int .i64 y.sp, .int .i64 y.sh, .int .i64 y.mv][j]?) ∧ (∀ j, w'.cell? ⟨Z, j, none⟩ = #[.int .i64 z.fl, .int .i64 z.sp, .int .i64 z.sh, .int .i64 z.mv][j]?)) (by kernel_rfl) (by kernel_rfl) (HK.out _ HD.out) ?_
              iterate 4 (refine M_pure (by rfl) (by rfl) ?_; apply Exists.intro; apply And.intro; (case left => (intro w hSw; (try dsimp only at hSw); go_simp; try with_reducible rfl)); (try simp only [Act.put, List.setIfInBounds_toArray, List.set_cons_zero, List.set_cons_succ]))
              iterate 3 (refine M_off (by rfl) (by rfl) ?_; (try simp only [Act.put, List.setIfInBounds_toArray, List.set_cons_zero, List.set_cons_succ]))
              iterate 2 (refine M_pure (by rfl) (by rfl) ?_; apply Exists.intro; apply And.intro; (case left => (intro w hSw; (try dsimp only at hSw); go_simp; try with_reducible rfl)); (try simp only [Act.put, List.setIfInBounds_toArray, List.set_cons_zero, List.set_cons_succ]))
              iterate 3 (refine M_off (by rfl) (by rfl) ?_; (try simp only [Act.put, List.setIfInBounds_toArray, List.set_cons_zero, List.set_cons_succ]))
              iterate 2 (refine M_pure (by rfl) (by rfl) ?_; apply Exists.intro; apply And.intro; (case left => (intro w hSw; (try dsimp only at hSw); go_simp; try with_reducible rfl)); (try simp only [Act.put, List.setIfInBounds_toArray, List.set_cons_zero, List.set_cons_succ]))
              iterate 3 (refine M_off (by rfl) (by rfl) ?_; (try simp only [Act.put, List.setIfInBounds_toArray, List.set_cons_zero, List.set_cons_succ]))
              iterate 2 (refine M_pure (by rfl) (by rfl) ?_; apply Exists.intro; apply And.intro; (case left => (intro w hSw; (try dsimp only at hSw); go_simp; try with_reducible rfl)); (try simp only [Act.put, List.setIfInBounds_toArray, List.set_cons_zero, List.set_cons_succ]))
              iterate 5 (refine M_off (by rfl) (by rfl) ?_; (try simp only [Act.put, List.setIfInBounds_toArray, List.set_cons_zero, List.set_cons_succ]))
              iterate 1 (refine M_pure (by rfl) (by rfl) ?_; apply Exists.intro; apply And.intro; (case left => (intro w hSw; (try dsimp only at hSw); go_simp; try with_reducible rfl)); (try simp only [Act.put, List.setIfInBounds_toArray, List.set_cons_zero, List.set_cons_succ]))
              refine M_nil ?_
              try dsimp only
              go_wp2_with fail
              go_meet
              exact ⟨rfl, HD.out⟩
            · have q1 : decide (0 ≤ z.fl) = true := by simpa using h1
              have q2 : decide (0 ≤ z.sp) = false := by simpa using h2
              go_wp2_with fail
              refine wp_region_M [0, 1, 2, 3, 4, 5, 6, 7, 8, 9, 10, 11, 12, 13, 14, 15, 16, 17, 18, 19, 20, 21, 22, 23, 24] [] (fun w' => (∀ j, w'.cell? ⟨X, j, none⟩ = #[.int .i64 x.fl, .int .i64 x.sp, .int .i64 x.sh, .int .i64 x.mv][j]?) ∧ (∀ j, w'.cell? ⟨Y, j, none⟩ = #[.int .i64 y.fl, .int .i64 y.sp, .int .i64 y.sh, .int .i64 y.mv][j]?) ∧ (∀ j, w'.cell? ⟨Z, j, none⟩ = #[.int .i64 z.fl, .int .i64 z.sp, .int .i64 z.sh, .int .i64 z.mv][j]?)) (by kernel_rfl) (by kernel_rfl) (HK.out _ HD.out) ?_
              iterate 9 (refine M_pure (by rfl) (by rfl) ?_; apply Exists.intro; apply And.intro; (case left => (intro w hSw; (try dsimp only at hSw); go_simp; try with_reducible rfl)); (try simp only [Act.put, List.setIfInBounds_toArray, List.set_cons_zero, List.set_cons_succ]))
              iterate 3 (refine M_off (by rfl) (by rfl) ?_; (try simp only [Act.put, List.setIfInBounds_toArray, List.set_cons_zero, List.set_cons_succ]))
              iterate 2 (refine M_pure (by rfl) (by rfl) ?_; apply Exists.intro; apply And.intro; (case left => (intro w hSw; (try dsimp only at hSw); go_simp; try with_reducible rfl)); (try simp only [Act.put, List.setIfInBounds_toArray, List.set_cons_zero, List.set_cons_succ]))
              iterate 3 (refine M_off (by rfl) (by rfl) ?_; (try simp only [Act.put, List.setIfInBounds_toArray, List.set_cons_zero, List.set_cons_succ]))
              iterate 2 (refine M_pure (by rfl) (by rfl) ?_; apply Exists.intro; apply And.intro; (case left => (intro w hSw; (try dsimp only at hSw); go_simp; try with_reducible rfl)); (try simp only [Act.put, List.setIfInBounds_toArray, List.set_cons_zero, List.set_cons_succ]))
              iterate 5 (refine M_off (by rfl) (by rfl) ?_; (try simp only [Act.put, List.setIfInBounds_toArray, List.set_cons_zero, List.set_cons_succ]))
              iterate 1 (refine M_pure (by rfl) (by rfl) ?_; apply Exists.intro; apply And.intro; (case left => (intro w hSw; (try dsimp only at hSw); go_simp; try with_reducible rfl)); (try simp only [Act.put, List.setIfInBounds_toArray, List.set_cons_zero, List.set_cons_succ]))
              refine M_nil ?_
              try dsimp only
              go_wp2_with fail
              go_meet
              exact ⟨rfl, HD.out⟩
            · have q1 : decide (0 ≤ z.fl) = true := by simpa using h1
              have q2 : decide (0 ≤ z.sp) = true := by simpa using h2
              have q3 : decide (0 ≤ z.sh) = false := by simpa using h3
              go_wp2_with fail
              refine wp_region_M [0, 1, 2, 3, 4, 5, 6, 7, 8, 9, 10, 11, 12, 13, 14, 15, 16, 17, 18, 19, 20, 21, 22, 23, 24] [] (fun w' => (∀ j, w'.cell? ⟨X, j, none⟩ = #[.int .i64 x.fl, .int .i64 x.sp, .int .i64 x.sh, .int .i64 x.mv][j]?) ∧ (∀ j, w'.cell? ⟨Y, j, none⟩ = #[.int .i64 y.fl, .int .i64 y.sp, .int .i64 y.sh, .int .i64 y.mv][j]?) ∧ (∀ j, w'.cell? ⟨Z, j, none⟩ = #[.int .i64 z.fl, .int .i64 z.sp, .int .i64 z.sh, .int .i64 z.mv][j]?)) (by kernel_rfl) (by kernel_rfl) (HK.out _ HD.out) ?_
              iterate 14 (refine M_pure (by rfl) (by rfl) ?_; apply Exists.intro; apply And.intro; (case left => (intro w hSw; (try dsimp only at hSw); go_simp; try with_reducible rfl)); (try simp only [Act.put, List.setIfInBounds_toArray, List.set_cons_zero, List.set_cons_succ]))
              iterate 3 (refine M_off (by rfl) (by rfl) ?_; (try simp only [Act.put, List.setIfInBounds_toArray, List.set_cons_zero, List.set_cons_succ]))
              iterate 2 (refine M_pure (by rfl) (by rfl) ?_; apply Exists.intro; apply And.intro; (case left => (intro w hSw; (try dsimp only at hSw); go_simp; try with_reducible rfl)); (try simp only [Act.put, List.setIfInBounds_toArray, List.set_cons_zero, List.set_cons_succ]))
              iterate 5 (refine M_off (by rfl) (by rfl) ?_; (try simp only [Act.put, List.setIfInBounds_toArray, List.set_cons_zero, List.set_cons_succ]))
              iterate 1 (refine M_pure (by rfl) (by rfl) ?_; apply Exists.intro; apply And.intro; (case left => (intro w hSw; (try dsimp only at hSw); go_simp; try with_reducible rfl)); (try simp only [Act.put, List.setIfInBounds_toArray, List.set_cons_zero, List.set_cons_succ]))
              refine M_nil ?_
              try dsimp only
              go_wp2_with fail
              go_meet
              exact ⟨rfl, HD.out⟩
            · have q1 : decide (0 ≤ z.fl) = true := by simpa using h1
              have q2 : decide (0 ≤ z.sp) = true := by simpa using h2
              have q3 : decide (0 ≤ z.sh) = true := by simpa using h3
              have q4 : decide (0 ≤ z.mv) = false := by simpa using h4
              go_wp2_with fail
              refine wp_region_M [0, 1, 2, 3, 4, 5, 6, 7, 8, 9, 10, 11, 12, 13, 14, 15, 16, 17, 18, 19, 20, 21, 22, 23, 24] [] (fun w' => (∀ j, w'.cell? ⟨X, j, none⟩ = #[.int .i64 x.fl, .int .i64 x.sp, .int .i64 x.sh, .int .i64 x.mv][j]?) ∧ (∀ j, w'.cell? ⟨Y, j, none⟩ = #[.int .i64 y.fl, .int .i64 y.sp, .int .i64 y.sh, .int .i64 y.mv][j]?) ∧ (∀ j, w'.cell? ⟨Z, j, none⟩ = #[.int .i64 z.fl, .int .i64 z.sp, .int .i64 z.sh, .int .i64 z.mv][j]?)) (by kernel_rfl) (by kernel_rfl) (HK.out _ HD.out) ?_
              iterate 19 (refine M_pure (by rfl) (by rfl) ?_; apply Exists.intro; apply And.intro; (case left => (intro w hSw; (try dsimp only at hSw); go_simp; try with_reducible rfl)); (try simp only [Act.put, List.setIfInBounds_toArray, List.set_cons_zero, List.set_cons_succ]))
              iterate 5 (refine M_off (by rfl) (by rfl) ?_; (try simp only [Act.put, List.setIfInBounds_toArray, List.set_cons_zero, List.set_cons_succ]))
              iterate 1 (refine M_pure (by rfl) (by rfl) ?_; apply Exists.intro; apply And.intro; (case left => (intro w hSw; (try dsimp only at hSw); go_simp; try with_reducible rfl)); (try simp only [Act.put, List.setIfInBounds_toArray, List.set_cons_zero, List.set_cons_succ]))
              refine M_nil ?_
              try dsimp only
              go_wp2_with fail
              go_meet
              exact ⟨rfl, HD.out⟩
            · have q1 : decide (0 ≤ z.fl) = true := by simpa using h1
              have q2 : decide (0 ≤ z.sp) = true := by simpa using h2
              have q3 : decide (0 ≤ z.sh) = true := by simpa using h3
              have q4 : decide (0 ≤ z.mv) = true := by simpa using h4
              have HU := Lib.hid (HUP.out h1 h2 h3 h4)
              go_wp2_with fail
              refine wp_region_M [0, 1, 2, 3, 4, 5, 6, 7, 8, 9, 10, 11, 12, 13, 14, 15, 16, 17, 18, 19, 20, 22, 21, 23, 24] [21, 23] (fun w' => (∀ j, w'.cell? ⟨X, j, none⟩ = #[.int .i64 x.fl, .int .i64 x.sp, .int .i64 x.sh, .int .i64 x.mv][j]?) ∧ (∀ j, w'.cell? ⟨Y, j, none⟩ = #[.int .i64 y.fl, .int .i64 y.sp, .int .i64 y.sh, .int .i64 y.mv][j]?) ∧ (∀ j, w'.cell? ⟨Z, j, none⟩ = #[.int .i64 z.fl, .int .i64 z.sp, .int .i64 z.sh, .int .i64 z.mv][j]?)) (by kernel_rfl) (by kernel_rfl) (HK.out _ HD.out) ?_
              iterate 22 (refine M_pure (by rfl) (by rfl) ?_; apply Exists.intro; apply And.intro; (case left => (intro w hSw; (try dsimp only at hSw); go_simp; try with_reducible rfl)); (try simp only [Act.put, List.setIfInBounds_toArray, List.set_cons_zero, List.set_cons_succ]))
              (refine M_call (by rfl) (by rfl) ?_; apply Exists.intro; apply Exists.intro; apply And.intro; (case left => (go_simp; first | exact ⟨rfl, rfl⟩ | rfl)))
              refine (addH_any x z _ HXO.out HZO.out).mono ?_
              rintro e W1 ⟨rfl, hb1⟩
              have HB1 := Lib.hid (HD.out.trans (hb1.mono HD.out.size))
              clear hb1
              refine ⟨_, rfl, HK.out W1 HB1.out, ?_⟩
              (try simp only [Act.put, List.setIfInBounds_toArray, List.set_cons_zero, List.set_cons_succ])
              (refine M_call (by rfl) (by rfl) ?_; apply Exists.intro; apply Exists.intro; apply And.intro; (case left => (go_simp; first | exact ⟨rfl, rfl⟩ | rfl)))
              refine (less_any (addH x z) x _).mono ?_
              rintro e W2 ⟨rfl, hb2⟩
              rw [HU.out]
              have HB2 := Lib.hid (HB1.out.trans (hb2.mono HB1.out.size))
              clear hb2
              refine ⟨_, rfl, HK.out W2 HB2.out, ?_⟩
              (try simp only [Act.put, List.setIfInBounds_toArray, List.set_cons_zero, List.set_cons_succ])
              iterate 1 (refine M_pure (by rfl) (by rfl) ?_; apply Exists.intro; apply And.intro; (case left => (intro w hSw; (try dsimp only at hSw); go_simp; try with_reducible rfl)); (try simp only [Act.put, List.setIfInBounds_toArray, List.set_cons_zero, List.set_cons_succ]))
              refine M_nil ?_
              try dsimp only
              go_wp2_with fail
              go_meet
              exact ⟨rfl, HB2.out⟩
          case rest =>
            obtain ⟨rfl, hbq⟩ := hcut
            obtain ⟨wq, rfl⟩ : ∃ wq : World, wq = wc := ⟨_, rfl⟩
            clear d1 d2 d3
            have HD := Lib.hid (show Below w0.heap.size w0 wq.drew from hbq.drew)
            clear hbq
            go_wp2_with fail
            refine wp_region_M [0, 1, 2, 3, 5, 6, 4, 7, 8, 9, 10, 11, 12, 14, 13, 15, 16, 17] [4, 7, 13] (fun w' => (∀ j, w'.cell? ⟨X, j, none⟩ = #[.int .i64 x.fl, .int .i64 x.sp, .int .i64 x.sh, .int .i64 x.mv][j]?) ∧ (∀ j, w'.cell? ⟨Y, j, none⟩ = #[.int .i64 y.fl, .int .i64 y.sp, .int .i64 y.sh, .int .i64 y.mv][j]?) ∧ (∀ j, w'.cell? ⟨Z, j, none⟩ = #[.int .i64 z.fl, .int .i64 z.sp, .int .i64 z.sh, .int .i64 z.mv][j]?)) (by kernel_rfl) (by kernel_rfl) (HK.out _ HD.out) ?_
            iterate 6 (refine M_pure (by rfl) (by rfl) ?_; apply Exists.intro; apply And.intro; (case left => (intro w hSw; (try dsimp only at hSw); go_simp; try with_reducible rfl)); (try simp only [Act.put, List.setIfInBounds_toArray, List.set_cons_zero, List.set_cons_succ]))
            (refine M_call (by rfl) (by rfl) ?_; apply Exists.intro; apply Exists.intro; apply And.intro; (case left => (go_simp; first | exact ⟨rfl, rfl⟩ | rfl)))
            refine (addH_any x y _ HXO.out HYO.out).mono ?_
            rintro e W1 ⟨rfl, hb1⟩
            have HB1 := Lib.hid (HD.out.trans (hb1.mono HD.out.size))
            clear hb1
            refine ⟨_, rfl, HK.out W1 HB1.out, ?_⟩
            (try simp only [Act.put, List.setIfInBounds_toArray, List.set_cons_zero, List.set_cons_succ])
            (refine M_call (by rfl) (by rfl) ?_; apply Exists.intro; apply Exists.intro; apply And.intro; (case left => (go_simp; first | exact ⟨rfl, rfl⟩ | rfl)))
            refine (addH_any y x _ HYO.out HXO.out).mono ?_
            rintro e W2 ⟨rfl, hb2⟩
            rw [← HCM.out]
            have HB2 := Lib.hid (HB1.out.trans (hb2.mono HB1.out.size))
            clear hb2
            refine ⟨_, rfl, HK.out W2 HB2.out, ?_⟩
            (try simp only [Act.put, List.setIfInBounds_toArray, List.set_cons_zero, List.set_cons_succ])
            iterate 6 (refine M_pure (by rfl) (by rfl) ?_; apply Exists.intro; apply And.intro; (case left => (intro w hSw; (try dsimp only at hSw); go_simp; try with_reducible rfl)); (try simp only [Act.put, List.setIfInBounds_toArray, List.set_cons_zero, List.set_cons_succ]))
            (refine M_call (by rfl) (by rfl) ?_; apply Exists.intro; apply Exists.intro; apply And.intro; (case left => (go_simp; first | exact ⟨rfl, rfl⟩ | rfl)))
            refine (addH_any x ⟨0, 0, 0, 0⟩ _ HXO.out ⟨by unfold R64; decide, by unfold R64; decide, by unfold R64; decide, by unfold R64; decide⟩).mono ?_
            rintro e W3 ⟨rfl, hb3⟩
            rw [HZE.out]
            have HB3 := Lib.hid (HB2.out.trans (hb3.mono HB2.out.size))
            clear hb3
            refine ⟨_, rfl, HK.out W3 HB3.out, ?_⟩
            (try simp only [Act.put, List.setIfInBounds_toArray, List.set_cons_zero, List.set_cons_succ])
            iterate 3 (refine M_pure (by rfl) (by rfl) ?_; apply Exists.intro; apply And.intro; (case left => (intro w hSw; (try dsimp only at hSw); go_simp; try with_reducible rfl)); (try simp only [Act.put, List.setIfInBounds_toArray, List.set_cons_zero, List.set_cons_succ]))
            refine M_nil ?_
            try dsimp only
            go_wp2
            go_ret
            exact ⟨rfl, HBW.out.trans (HB3.out.mono HBW.out.size)⟩

end Go.Proofs.Ytlhaoiplbebgnaa
