/- Law WardenClimbs: the walk. -/
import Derived.Test.YtlhaoiplbebgnaaWardenCl
set_option linter.unusedSimpArgs false
set_option linter.unusedVariables false
namespace Go.Proofs.Ytlhaoiplbebgnaa
open Go.RowKit

def ClInv (w3 wr : World) (g b : Nat) (wd : Int) (s : St) (town level hour who after : Int) (k : Nat) (d : Bool) : Prop :=
  Only2 w3 wr g b ∧ Post wr g b wd (sD s town level hour d) ∧ (d = true ↔ (0 ≤ who ∧ who < wd ∧ after + 1 < k))

set_option maxRecDepth 100000 in
set_option maxHeartbeats 4000000 in
theorem climbs_in (wd town level hour who after : Int) (A : Option Addr) (n cap : Nat) (l : List Stp) (w : World) (hn : n ≤ 40) (hw0 : 1 ≤ wd) (hw1 : wd ≤ 16) (ha0 : 0 ≤ after) (ha1 : after ≤ 255) (hs : Sl (Pl stepC) 8 w w.heap.size A n l) :
    Calls Try.prog 7 #[.int .i64 wd, .slice A n cap, .int .i64 town, .int .i64 level, .int .i64 hour, .int .i64 who, .int .u8 after] w fun e w' =>
      e = .returned (.bool true) ∧ Below w.heap.size w w' := by
  go_enter Try.func7, Try.ntmps7
  go_wp2_with fail
  refine (small44_any _).mono ?_
  rintro e w0 ⟨rfl, hb0⟩
  have hz0 := hb0.size
  have hs0 := hs.keep (Pl.lasts _) hb0 hz0
  have hln : l.length = n := hs.1
  clear hs
  go_wp2_with fail
  refine (new_in wd _ hw0 hw1).mono ?_
  rintro e w1 ⟨rfl, hb1, hz1, hp1⟩
  have hP1 : Post w1 (w0.heap.size + 1) w0.heap.size wd s0 := ⟨hp1⟩
  have hs1 := hs0.keep (Pl.lasts _) hb1 (Nat.le_refl _)
  have HP1 := Lib.hid hP1
  obtain ⟨b, hb⟩ : ∃ b, b = w0.heap.size := ⟨_, rfl⟩
  obtain ⟨g, hg⟩ : ∃ g, g = b + 1 := ⟨_, rfl⟩
  rw [← hb, ← hg] at HP1
  rw [← hb] at hz1 hs1
  rw [← hb, ← hg]
  have hbw1 := hb0.trans (hb1.mono (by omega))
  have hwb : w.heap.size ≤ b := by omega
  have hwg : w.heap.size ≤ g := by omega
  have hbg : b ≤ g := by omega
  clear hp1 hP1 hs0 hb1 hb0 hz0 hb hg
  go_wp2_with fail
  refine (run_warden g b wd s0 A n cap b l _ (by omega) (Good.start.mono (by omega)) HP1.out hs1 hbg (Nat.le_refl _)).mono ?_
  rintro e w2 ⟨rfl, ho2, hp2⟩
  have hgs : Good (runS wd s0 l) 1000 := (Good.run Good.start).mono (by omega)
  have hbw2 := hbw1.trans (ho2.to_below hwg hwb (by omega))
  have hz2 := ho2.size
  generalize runS wd s0 l = s at *
  have HGS := Lib.hid hgs
  have HP2 := Lib.hid hp2
  have hm0 := hgs.lo
  have hm1 := hgs.hi
  clear hgs hp2 ho2 hbw1 hs1
  go_wp2_with fail
  refine (raise_any g b wd town level hour s 1000 (by omega) HGS.out _ HP2.out).mono ?_
  rintro e w3 ⟨rfl, ho3, hp3⟩
  have hbw3 := hbw2.trans (ho3.to_below hwg hwb (by omega))
  have hz3 := ho3.size
  by_cases hr : raiseOk town level hour
  · rw [show raiseN s town level hour = s.many + 1 from if_pos hr]
    rw [sD_raise hr] at hp3
    have hnb : (s.many + 1 == 0) = false := by simp; omega
    have HR := Lib.hid hr
    have HP3 := Lib.hid hp3
    obtain ⟨t0, t1, l0, l1, u0, u1⟩ := hr
    clear hp3 ho3
    go_wp2_with fail
    go_loopw [18, 19] (fun v18 v19 wr => ∃ (k : Nat) (d : Bool), k ≤ 61 ∧ v18 = .bool d ∧ v19 = .int .i64 (hour - 1 + k) ∧ ClInv w3 wr g b wd s town level hour who after k d) (fun _ v19 _ => (hour + 60 - intOf v19).toNat)
    case atStart => exact ⟨0, false, by omega, rfl, by simp, Only2.refl _ _ _, HP3.out, by simp; omega⟩
    case round =>
      obtain ⟨k, d, hk, rfl, rfl, ho, hpr, hd⟩ := hrel
      obtain ⟨t, ht⟩ : ∃ t, t = hour - 1 + (k : Int) := ⟨_, rfl⟩
      rw [← ht]
      obtain ⟨wo, rfl⟩ : ∃ wo : World, wo = wr := ⟨_, rfl⟩
      by_cases hlt : k < 61
      · have htl : t < hour + 60 := by omega
        have hth : hour - 1 ≤ t := by omega
        have HT := Lib.hid ht
        have HPX := Lib.hid hpr
        have HOX := Lib.hid ho
        by_cases hack : t = hour + after ∧ 0 ≤ who ∧ who < wd
        · obtain ⟨k1, k2, k3⟩ := hack
          have hka : (k : Int) = after + 1 := by omega
          have hdf : d = false := by
            cases d with
            | false => rfl
            | true => have := hd.1 rfl; omega
          subst hdf
          have k1b : (t == hour + after) = true := by simp [k1]
          have hth' : hour ≤ t := by omega
          have HKA := Lib.hid hka
          clear k1 hka hd ht hpr ho
          go_wp2_with fail
          refine (ack_any g b wd ⟨town, 0, s.many + 1, who⟩ (sD s town level hour false) _ HPX.out).mono ?_
          rintro e W2 ⟨rfl, ho2, hp2⟩
          rw [show awaitsB (sD s town level hour false).F wd (⟨town, 0, s.many + 1, who⟩ : Cl).town (⟨town, 0, s.many + 1, who⟩ : Cl).number (⟨town, 0, s.many + 1, who⟩ : Cl).warden = true from sD_awaits k2 k3]
          rw [sD_ack k2 k3] at hp2
          have hkd : (true = true) ↔ (0 ≤ who ∧ who < wd ∧ after + 1 < ((k + 1 : Nat) : Int)) := ⟨fun _ => ⟨k2, k3, by have := HKA.out; omega⟩, fun _ => rfl⟩
          have HKD := Lib.hid hkd
          have hox := HOX.out.trans ho2
          have HPX := Lib.hid hp2
          have HOX := Lib.hid hox
          clear hp2 ho2 hox hkd
          have hgd := good_D HGS.out HR.out true
          have HGD := Lib.hid hgd
          clear hgd
          go_wp2_with fail
          refine (due_post g b wd t (sD s town level hour true) 1001 HGD.out _ HPX.out hw1 (by omega)).mono ?_
          rintro e W3 ⟨A3, cap3, rfl, hb3, hp3, _, hs3⟩
          have hlen := due_len (sD s town level hour true).F hw1 t
          have hget : ∀ (i : Nat) (y : Cl), (dueL (sD s town level hour true).F wd t)[i]? = some y → y.town = town → y = ⟨town, level, s.many + 1, (cnt town ((dueL (sD s town level hour true).F wd t).take i) : Nat)⟩ :=
            fun i y h1 h2 => (due_get (by omega) (by omega) (sD_at s town level hour true) h1 h2).1
          have hcnt := cnt_D (s := s) (wd := wd) (t := t) HR.out hw0 true
          have hcw : ((cnt town (dueL (sD s town level hour true).F wd t) : Nat) : Int) = 0 := by rw [hcnt.1 rfl]; rfl
          generalize hL : dueL (sD s town level hour true).F wd t = L at *
          generalize hN : L.length = N at *
          have HGET := Lib.hid hget
          have HCW := Lib.hid hcw
          have HLN := Lib.hid hN
          have HP3 := Lib.hid hp3
          have hoN := HOX.out.trans (Only2.of_below _ _ hb3)
          have HON := Lib.hid hoN
          clear hget hcw hN hp3 hL hcnt hoN hb3
          go_wp2_with fail
          go_loopw [22, 23] (fun got i wr => ∃ m : Nat, m ≤ N ∧ i = .int .i64 m ∧ got = .int .i64 (cnt town (L.take m) : Nat) ∧ Below W3.heap.size W3 wr) (fun _ i _ => N - (intOf i).toNat)
          case atStart => exact ⟨0, Nat.zero_le _, rfl, rfl, Below.refl _ _⟩
          case round =>
            obtain ⟨m, hm, rfl, rfl, hbm⟩ := hrel
            by_cases hmn : m < N
            · obtain ⟨b4, o4, y, rfl, hl4, hy, hc4⟩ := hs3.at_ hmn
              have f0 := hc4 wr hbm 0 _ rfl
              have f1 := hc4 wr hbm 1 _ rfl
              have f2 := hc4 wr hbm 2 _ rfl
              have f3 := hc4 wr hbm 3 _ rfl
              have hct := cnt_take town hy
              have hcl : cnt town (L.take m) ≤ m := Nat.le_trans (cnt_le _ _) (List.length_take_le _ _)
              have hmn' : (m : Int) < (N : Int) := by omega
              by_cases hyt : y.town = town
              · have hyy := HGET.out m y hy hyt
                rw [if_pos hyt] at hct
                have HCT := Lib.hid hct
                clear hct hc4 hyt hy
                subst hyy
                simp only [Nat.add_zero] at f0 f1 f2 f3
                generalize cnt town (L.take m) = c at *
                go_wp2
                go_roundw
                case rel => exact ⟨m + 1, by omega, by go_num, by rw [HCT.out]; go_num, hbm⟩
                case measure => simp [intOf]; omega
              · have hytb : (y.town != town) = true := by simp [hyt]
                rw [if_neg hyt] at hct
                have HCT := Lib.hid hct
                clear hct hc4 hyt hy
                simp only [Nat.add_zero] at f0 f1 f2 f3
                generalize cnt town (L.take m) = c at *
                go_wp2
                go_roundw
                case rel => exact ⟨m + 1, by omega, by go_num, by rw [HCT.out]; rfl, hbm⟩
                case measure => simp [intOf]; omega
            · have hmN : m = N := by omega
              have hcf : ((cnt town (L.take m) : Nat) : Int) = 0 := by rw [hmN, List.take_of_length_le (by rw [HLN.out]; exact Nat.le_refl _)]; exact HCW.out
              have hcb : (((cnt town (L.take m) : Nat) : Int) != (0)) = false := by rw [bne_eq_false_iff_eq, hcf]
              have hcl : cnt town (L.take m) ≤ m := Nat.le_trans (cnt_le _ _) (List.length_take_le _ _)
              generalize cnt town (L.take m) = c at *
              clear hcf hmN
              go_wp2
              go_roundw
              case rel => exact ⟨k + 1, true, by omega, rfl, by rw [HT.out]; go_num, HON.out.trans (Only2.of_below _ _ hbm), HP3.out.below hbm, by simpa using HKD.out⟩
              case measure => rw [HT.out]; simp [intOf]; omega
        · have hno : (t == hour + after) = false ∨ ((t == hour + after) = true ∧ who < 0) ∨ ((t == hour + after) = true ∧ 0 ≤ who ∧ wd ≤ who) := by
            by_cases h1 : t = hour + after
            · by_cases h2 : 0 ≤ who
              · refine .inr (.inr ⟨by simp [h1], h2, ?_⟩)
                rcases Int.lt_or_le who wd with h3 | h3
                · exact absurd ⟨h1, h2, h3⟩ hack
                · exact h3
              · exact .inr (.inl ⟨by simp [h1], by omega⟩)
            · exact .inl (by simp [h1])
          have hkd : (d = true) ↔ (0 ≤ who ∧ who < wd ∧ after + 1 < ((k + 1 : Nat) : Int)) := by
            rw [hd]
            constructor
            · rintro ⟨a1, a2, a3⟩; exact ⟨a1, a2, by omega⟩
            · rintro ⟨a1, a2, a3⟩
              refine ⟨a1, a2, ?_⟩
              have : (k : Int) ≠ after + 1 := fun hk' => hack ⟨by omega, a1, a2⟩
              omega
          have HKD := Lib.hid hkd
          clear hkd hd ht hpr ho hack
          by_cases hth2 : t < hour
          · rcases hno with h1 | ⟨h1, h2⟩ | ⟨h1, h2, h3⟩
            all_goals
              have hgd := good_D HGS.out HR.out d
              have HGD := Lib.hid hgd
              clear hgd
              go_wp2_with fail
              refine (due_post g b wd t (sD s town level hour d) 1001 HGD.out _ HPX.out hw1 (by omega)).mono ?_
              rintro e W3 ⟨A3, cap3, rfl, hb3, hp3, _, hs3⟩
              have hlen := due_len (sD s town level hour d).F hw1 t
              have hget : ∀ (i : Nat) (y : Cl), (dueL (sD s town level hour d).F wd t)[i]? = some y → y.town = town → y = ⟨town, level, s.many + 1, (cnt town ((dueL (sD s town level hour d).F wd t).take i) : Nat)⟩ :=
                fun i y h1 h2 => (due_get (by omega) (by omega) (sD_at s town level hour d) h1 h2).1
              have hcnt := cnt_D (s := s) (wd := wd) (t := t) HR.out hw0 d
              have hcw : ((cnt town (dueL (sD s town level hour d).F wd t) : Nat) : Int) = 0 := by rw [hcnt.2.1 hth2]; rfl
              generalize hL : dueL (sD s town level hour d).F wd t = L at *
              generalize hN : L.length = N at *
              have HGET := Lib.hid hget
              have HCW := Lib.hid hcw
              have HLN := Lib.hid hN
              have HP3 := Lib.hid hp3
              have hoN := HOX.out.trans (Only2.of_below _ _ hb3)
              have HON := Lib.hid hoN
              clear hget hcw hN hp3 hL hcnt hoN hb3
              go_wp2_with fail
              go_loopw [22, 23] (fun got i wr => ∃ m : Nat, m ≤ N ∧ i = .int .i64 m ∧ got = .int .i64 (cnt town (L.take m) : Nat) ∧ Below W3.heap.size W3 wr) (fun _ i _ => N - (intOf i).toNat)
              case atStart => exact ⟨0, Nat.zero_le _, rfl, rfl, Below.refl _ _⟩
              case round =>
                obtain ⟨m, hm, rfl, rfl, hbm⟩ := hrel
                by_cases hmn : m < N
                · obtain ⟨b4, o4, y, rfl, hl4, hy, hc4⟩ := hs3.at_ hmn
                  have f0 := hc4 wr hbm 0 _ rfl
                  have f1 := hc4 wr hbm 1 _ rfl
                  have f2 := hc4 wr hbm 2 _ rfl
                  have f3 := hc4 wr hbm 3 _ rfl
                  have hct := cnt_take town hy
                  have hcl : cnt town (L.take m) ≤ m := Nat.le_trans (cnt_le _ _) (List.length_take_le _ _)
                  have hmn' : (m : Int) < (N : Int) := by omega
                  by_cases hyt : y.town = town
                  · have hyy := HGET.out m y hy hyt
                    rw [if_pos hyt] at hct
                    have HCT := Lib.hid hct
                    clear hct hc4 hyt hy
                    subst hyy
                    simp only [Nat.add_zero] at f0 f1 f2 f3
                    generalize cnt town (L.take m) = c at *
                    go_wp2
                    go_roundw
                    case rel => exact ⟨m + 1, by omega, by go_num, by rw [HCT.out]; go_num, hbm⟩
                    case measure => simp [intOf]; omega
                  · have hytb : (y.town != town) = true := by simp [hyt]
                    rw [if_neg hyt] at hct
                    have HCT := Lib.hid hct
                    clear hct hc4 hyt hy
                    simp only [Nat.add_zero] at f0 f1 f2 f3
                    generalize cnt town (L.take m) = c at *
                    go_wp2
                    go_roundw
                    case rel => exact ⟨m + 1, by omega, by go_num, by rw [HCT.out]; rfl, hbm⟩
                    case measure => simp [intOf]; omega
                · have hmN : m = N := by omega
                  have hcf : ((cnt town (L.take m) : Nat) : Int) = 0 := by rw [hmN, List.take_of_length_le (by rw [HLN.out]; exact Nat.le_refl _)]; exact HCW.out
                  have hcb : (((cnt town (L.take m) : Nat) : Int) != (0)) = false := by rw [bne_eq_false_iff_eq, hcf]
                  have hcl : cnt town (L.take m) ≤ m := Nat.le_trans (cnt_le _ _) (List.length_take_le _ _)
                  generalize cnt town (L.take m) = c at *
                  clear hcf hmN
                  go_wp2
                  go_roundw
                  case rel => exact ⟨k + 1, d, by omega, rfl, by rw [HT.out]; go_num, HON.out.trans (Only2.of_below _ _ hbm), HP3.out.below hbm, by simpa using HKD.out⟩
                  case measure => rw [HT.out]; simp [intOf]; omega
          · have hth3 : hour ≤ t := by omega
            cases d with
            | false =>
              by_cases hmw : 1 + (t - hour) / 3 < wd
              · rcases hno with h1 | ⟨h1, h2⟩ | ⟨h1, h2, h3⟩
                all_goals
                  have hgd := good_D HGS.out HR.out false
                  have HGD := Lib.hid hgd
                  clear hgd
                  go_wp2_with fail
                  refine (due_post g b wd t (sD s town level hour false) 1001 HGD.out _ HPX.out hw1 (by omega)).mono ?_
                  rintro e W3 ⟨A3, cap3, rfl, hb3, hp3, _, hs3⟩
                  have hlen := due_len (sD s town level hour false).F hw1 t
                  have hget : ∀ (i : Nat) (y : Cl), (dueL (sD s town level hour false).F wd t)[i]? = some y → y.town = town → y = ⟨town, level, s.many + 1, (cnt town ((dueL (sD s town level hour false).F wd t).take i) : Nat)⟩ :=
                    fun i y h1 h2 => (due_get (by omega) (by omega) (sD_at s town level hour false) h1 h2).1
                  have hcnt := cnt_D (s := s) (wd := wd) (t := t) HR.out hw0 false
                  have hcw : ((cnt town (dueL (sD s town level hour false).F wd t) : Nat) : Int) = 1 + (t - hour) / 3 := by rw [hcnt.2.2 rfl hth3]; omega
                  generalize hL : dueL (sD s town level hour false).F wd t = L at *
                  generalize hN : L.length = N at *
                  have HGET := Lib.hid hget
                  have HCW := Lib.hid hcw
                  have HLN := Lib.hid hN
                  have HP3 := Lib.hid hp3
                  have hoN := HOX.out.trans (Only2.of_below _ _ hb3)
                  have HON := Lib.hid hoN
                  clear hget hcw hN hp3 hL hcnt hoN hb3
                  go_wp2_with fail
                  go_loopw [22, 23] (fun got i wr => ∃ m : Nat, m ≤ N ∧ i = .int .i64 m ∧ got = .int .i64 (cnt town (L.take m) : Nat) ∧ Below W3.heap.size W3 wr) (fun _ i _ => N - (intOf i).toNat)
                  case atStart => exact ⟨0, Nat.zero_le _, rfl, rfl, Below.refl _ _⟩
                  case round =>
                    obtain ⟨m, hm, rfl, rfl, hbm⟩ := hrel
                    by_cases hmn : m < N
                    · obtain ⟨b4, o4, y, rfl, hl4, hy, hc4⟩ := hs3.at_ hmn
                      have f0 := hc4 wr hbm 0 _ rfl
                      have f1 := hc4 wr hbm 1 _ rfl
                      have f2 := hc4 wr hbm 2 _ rfl
                      have f3 := hc4 wr hbm 3 _ rfl
                      have hct := cnt_take town hy
                      have hcl : cnt town (L.take m) ≤ m := Nat.le_trans (cnt_le _ _) (List.length_take_le _ _)
                      have hmn' : (m : Int) < (N : Int) := by omega
                      by_cases hyt : y.town = town
                      · have hyy := HGET.out m y hy hyt
                        rw [if_pos hyt] at hct
                        have HCT := Lib.hid hct
                        clear hct hc4 hyt hy
                        subst hyy
                        simp only [Nat.add_zero] at f0 f1 f2 f3
                        generalize cnt town (L.take m) = c at *
                        go_wp2
                        go_roundw
                        case rel => exact ⟨m + 1, by omega, by go_num, by rw [HCT.out]; go_num, hbm⟩
                        case measure => simp [intOf]; omega
                      · have hytb : (y.town != town) = true := by simp [hyt]
                        rw [if_neg hyt] at hct
                        have HCT := Lib.hid hct
                        clear hct hc4 hyt hy
                        simp only [Nat.add_zero] at f0 f1 f2 f3
                        generalize cnt town (L.take m) = c at *
                        go_wp2
                        go_roundw
                        case rel => exact ⟨m + 1, by omega, by go_num, by rw [HCT.out]; rfl, hbm⟩
                        case measure => simp [intOf]; omega
                    · have hmN : m = N := by omega
                      have hcf : ((cnt town (L.take m) : Nat) : Int) = 1 + (t - hour) / 3 := by rw [hmN, List.take_of_length_le (by rw [HLN.out]; exact Nat.le_refl _)]; exact HCW.out
                      have hcb : (((cnt town (L.take m) : Nat) : Int) != (1 + (t - hour) / 3)) = false := by rw [bne_eq_false_iff_eq, hcf]
                      have hcl : cnt town (L.take m) ≤ m := Nat.le_trans (cnt_le _ _) (List.length_take_le _ _)
                      generalize cnt town (L.take m) = c at *
                      clear hcf hmN
                      go_wp2
                      go_roundw
                      case rel => exact ⟨k + 1, false, by omega, rfl, by rw [HT.out]; go_num, HON.out.trans (Only2.of_below _ _ hbm), HP3.out.below hbm, by simpa using HKD.out⟩
                      case measure => rw [HT.out]; simp [intOf]; omega
              · have hmw2 : wd ≤ 1 + (t - hour) / 3 := by omega
                rcases hno with h1 | ⟨h1, h2⟩ | ⟨h1, h2, h3⟩
                all_goals
                  have hgd := good_D HGS.out HR.out false
                  have HGD := Lib.hid hgd
                  clear hgd
                  go_wp2_with fail
                  refine (due_post g b wd t (sD s town level hour false) 1001 HGD.out _ HPX.out hw1 (by omega)).mono ?_
                  rintro e W3 ⟨A3, cap3, rfl, hb3, hp3, _, hs3⟩
                  have hlen := due_len (sD s town level hour false).F hw1 t
                  have hget : ∀ (i : Nat) (y : Cl), (dueL (sD s town level hour false).F wd t)[i]? = some y → y.town = town → y = ⟨town, level, s.many + 1, (cnt town ((dueL (sD s town level hour false).F wd t).take i) : Nat)⟩ :=
                    fun i y h1 h2 => (due_get (by omega) (by omega) (sD_at s town level hour false) h1 h2).1
                  have hcnt := cnt_D (s := s) (wd := wd) (t := t) HR.out hw0 false
                  have hcw : ((cnt town (dueL (sD s town level hour false).F wd t) : Nat) : Int) = wd := by rw [hcnt.2.2 rfl hth3]; omega
                  generalize hL : dueL (sD s town level hour false).F wd t = L at *
                  generalize hN : L.length = N at *
                  have HGET := Lib.hid hget
                  have HCW := Lib.hid hcw
                  have HLN := Lib.hid hN
                  have HP3 := Lib.hid hp3
                  have hoN := HOX.out.trans (Only2.of_below _ _ hb3)
                  have HON := Lib.hid hoN
                  clear hget hcw hN hp3 hL hcnt hoN hb3
                  go_wp2_with fail
                  go_loopw [22, 23] (fun got i wr => ∃ m : Nat, m ≤ N ∧ i = .int .i64 m ∧ got = .int .i64 (cnt town (L.take m) : Nat) ∧ Below W3.heap.size W3 wr) (fun _ i _ => N - (intOf i).toNat)
                  case atStart => exact ⟨0, Nat.zero_le _, rfl, rfl, Below.refl _ _⟩
                  case round =>
                    obtain ⟨m, hm, rfl, rfl, hbm⟩ := hrel
                    by_cases hmn : m < N
                    · obtain ⟨b4, o4, y, rfl, hl4, hy, hc4⟩ := hs3.at_ hmn
                      have f0 := hc4 wr hbm 0 _ rfl
                      have f1 := hc4 wr hbm 1 _ rfl
                      have f2 := hc4 wr hbm 2 _ rfl
                      have f3 := hc4 wr hbm 3 _ rfl
                      have hct := cnt_take town hy
                      have hcl : cnt town (L.take m) ≤ m := Nat.le_trans (cnt_le _ _) (List.length_take_le _ _)
                      have hmn' : (m : Int) < (N : Int) := by omega
                      by_cases hyt : y.town = town
                      · have hyy := HGET.out m y hy hyt
                        rw [if_pos hyt] at hct
                        have HCT := Lib.hid hct
                        clear hct hc4 hyt hy
                        subst hyy
                        simp only [Nat.add_zero] at f0 f1 f2 f3
                        generalize cnt town (L.take m) = c at *
                        go_wp2
                        go_roundw
                        case rel => exact ⟨m + 1, by omega, by go_num, by rw [HCT.out]; go_num, hbm⟩
                        case measure => simp [intOf]; omega
                      · have hytb : (y.town != town) = true := by simp [hyt]
                        rw [if_neg hyt] at hct
                        have HCT := Lib.hid hct
                        clear hct hc4 hyt hy
                        simp only [Nat.add_zero] at f0 f1 f2 f3
                        generalize cnt town (L.take m) = c at *
                        go_wp2
                        go_roundw
                        case rel => exact ⟨m + 1, by omega, by go_num, by rw [HCT.out]; rfl, hbm⟩
                        case measure => simp [intOf]; omega
                    · have hmN : m = N := by omega
                      have hcf : ((cnt town (L.take m) : Nat) : Int) = wd := by rw [hmN, List.take_of_length_le (by rw [HLN.out]; exact Nat.le_refl _)]; exact HCW.out
                      have hcb : (((cnt town (L.take m) : Nat) : Int) != (wd)) = false := by rw [bne_eq_false_iff_eq, hcf]
                      have hcl : cnt town (L.take m) ≤ m := Nat.le_trans (cnt_le _ _) (List.length_take_le _ _)
                      generalize cnt town (L.take m) = c at *
                      clear hcf hmN
                      go_wp2
                      go_roundw
                      case rel => exact ⟨k + 1, false, by omega, rfl, by rw [HT.out]; go_num, HON.out.trans (Only2.of_below _ _ hbm), HP3.out.below hbm, by simpa using HKD.out⟩
                      case measure => rw [HT.out]; simp [intOf]; omega
            | true =>
              rcases hno with h1 | ⟨h1, h2⟩ | ⟨h1, h2, h3⟩
              all_goals
                have hgd := good_D HGS.out HR.out true
                have HGD := Lib.hid hgd
                clear hgd
                go_wp2_with fail
                refine (due_post g b wd t (sD s town level hour true) 1001 HGD.out _ HPX.out hw1 (by omega)).mono ?_
                rintro e W3 ⟨A3, cap3, rfl, hb3, hp3, _, hs3⟩
                have hlen := due_len (sD s town level hour true).F hw1 t
                have hget : ∀ (i : Nat) (y : Cl), (dueL (sD s town level hour true).F wd t)[i]? = some y → y.town = town → y = ⟨town, level, s.many + 1, (cnt town ((dueL (sD s town level hour true).F wd t).take i) : Nat)⟩ :=
                  fun i y h1 h2 => (due_get (by omega) (by omega) (sD_at s town level hour true) h1 h2).1
                have hcnt := cnt_D (s := s) (wd := wd) (t := t) HR.out hw0 true
                have hcw : ((cnt town (dueL (sD s town level hour true).F wd t) : Nat) : Int) = 0 := by rw [hcnt.1 rfl]; rfl
                generalize hL : dueL (sD s town level hour true).F wd t = L at *
                generalize hN : L.length = N at *
                have HGET := Lib.hid hget
                have HCW := Lib.hid hcw
                have HLN := Lib.hid hN
                have HP3 := Lib.hid hp3
                have hoN := HOX.out.trans (Only2.of_below _ _ hb3)
                have HON := Lib.hid hoN
                clear hget hcw hN hp3 hL hcnt hoN hb3
                go_wp2_with fail
                go_loopw [22, 23] (fun got i wr => ∃ m : Nat, m ≤ N ∧ i = .int .i64 m ∧ got = .int .i64 (cnt town (L.take m) : Nat) ∧ Below W3.heap.size W3 wr) (fun _ i _ => N - (intOf i).toNat)
                case atStart => exact ⟨0, Nat.zero_le _, rfl, rfl, Below.refl _ _⟩
                case round =>
                  obtain ⟨m, hm, rfl, rfl, hbm⟩ := hrel
                  by_cases hmn : m < N
                  · obtain ⟨b4, o4, y, rfl, hl4, hy, hc4⟩ := hs3.at_ hmn
                    have f0 := hc4 wr hbm 0 _ rfl
                    have f1 := hc4 wr hbm 1 _ rfl
                    have f2 := hc4 wr hbm 2 _ rfl
                    have f3 := hc4 wr hbm 3 _ rfl
                    have hct := cnt_take town hy
                    have hcl : cnt town (L.take m) ≤ m := Nat.le_trans (cnt_le _ _) (List.length_take_le _ _)
                    have hmn' : (m : Int) < (N : Int) := by omega
                    by_cases hyt : y.town = town
                    · have hyy := HGET.out m y hy hyt
                      rw [if_pos hyt] at hct
                      have HCT := Lib.hid hct
                      clear hct hc4 hyt hy
                      subst hyy
                      simp only [Nat.add_zero] at f0 f1 f2 f3
                      generalize cnt town (L.take m) = c at *
                      go_wp2
                      go_roundw
                      case rel => exact ⟨m + 1, by omega, by go_num, by rw [HCT.out]; go_num, hbm⟩
                      case measure => simp [intOf]; omega
                    · have hytb : (y.town != town) = true := by simp [hyt]
                      rw [if_neg hyt] at hct
                      have HCT := Lib.hid hct
                      clear hct hc4 hyt hy
                      simp only [Nat.add_zero] at f0 f1 f2 f3
                      generalize cnt town (L.take m) = c at *
                      go_wp2
                      go_roundw
                      case rel => exact ⟨m + 1, by omega, by go_num, by rw [HCT.out]; rfl, hbm⟩
                      case measure => simp [intOf]; omega
                  · have hmN : m = N := by omega
                    have hcf : ((cnt town (L.take m) : Nat) : Int) = 0 := by rw [hmN, List.take_of_length_le (by rw [HLN.out]; exact Nat.le_refl _)]; exact HCW.out
                    have hcb : (((cnt town (L.take m) : Nat) : Int) != (0)) = false := by rw [bne_eq_false_iff_eq, hcf]
                    have hcl : cnt town (L.take m) ≤ m := Nat.le_trans (cnt_le _ _) (List.length_take_le _ _)
                    generalize cnt town (L.take m) = c at *
                    clear hcf hmN
                    go_wp2
                    go_roundw
                    case rel => exact ⟨k + 1, true, by omega, rfl, by rw [HT.out]; go_num, HON.out.trans (Only2.of_below _ _ hbm), HP3.out.below hbm, by simpa using HKD.out⟩
                    case measure => rw [HT.out]; simp [intOf]; omega
      · have htl : hour + 60 ≤ t := by omega
        have HPX := Lib.hid hpr
        clear ht hpr hd
        go_wp2
        go_ret
        exact ⟨rfl, hbw3.trans (ho.to_below hwg hwb (by omega))⟩
  · rw [show raiseN s town level hour = 0 from if_neg hr]
    have h6 : town < 0 ∨ (0 ≤ town ∧ 40 ≤ town) ∨ (0 ≤ town ∧ town < 40 ∧ level < 0) ∨ (0 ≤ town ∧ town < 40 ∧ 0 ≤ level ∧ 3 < level) ∨ (0 ≤ town ∧ town < 40 ∧ 0 ≤ level ∧ level ≤ 3 ∧ hour < 0) ∨ (0 ≤ town ∧ town < 40 ∧ 0 ≤ level ∧ level ≤ 3 ∧ 0 ≤ hour ∧ 16777216 < hour) := by
      unfold raiseOk at hr; omega
    clear hr hp3 ho3
    rcases h6 with h1 | ⟨h1, h2⟩ | ⟨h1, h2, h3⟩ | ⟨h1, h2, h3, h4⟩ | ⟨h1, h2, h3, h4, h5⟩ | ⟨h1, h2, h3, h4, h5, h6⟩
    all_goals
      go_wp2
      go_ret
      exact ⟨rfl, hbw3⟩

end Go.Proofs.Ytlhaoiplbebgnaa
