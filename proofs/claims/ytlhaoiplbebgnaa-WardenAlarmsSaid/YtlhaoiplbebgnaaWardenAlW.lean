/- Law WardenAlarms: the walk. -/
import Derived.Test.YtlhaoiplbebgnaaWardenAl
import Derived.Test.YtlhaoiplbebgnaaAlarmB
set_option linter.unusedSimpArgs false
set_option linter.unusedVariables false
namespace Go.Proofs.Ytlhaoiplbebgnaa
open Go.RowKit

def AlInv (w2 wr : World) (g b : Nat) (wd ld : Int) (ss : List (Int × Bool)) (k : Nat) (r : Bool) (lv many sc : Int) : Prop :=
  Only2 w2 wr g b ∧ Post wr g b wd (stA r lv many sc) ∧ lv = (stL ld ss k).l ∧ 0 ≤ sc ∧ sc ≤ k ∧ 0 ≤ many ∧ many ≤ k ∧ (r = true → 1 ≤ many) ∧ (r = false → lv = 0)

theorem sl_ne {w : World} {g b : Nat} {wd : Int} {s : St} (hp : Post w g b wd s) {b1 o : Nat} {x z : Int} (h0 : w.cell? ⟨b1, o, none⟩ = some (.int .i64 x)) (h2 : w.cell? ⟨b1, o + 2, none⟩ = some (.int .i64 z)) : b1 ≠ g ∧ b1 ≠ b := by
  constructor
  · rintro rfl
    rw [hp.rep.cells.cell] at h2
    match o, h2 with
    | 0, h2 => simp at h2
    | o + 1, h2 => simp at h2
  · rintro rfl
    obtain ⟨es, clock, hb, _⟩ := hp.rep.map
    simp [World.cell?, hb] at h0

set_option maxRecDepth 100000 in
set_option maxHeartbeats 1000000 in
theorem alarms_any (nm : ByteArray) (pl fl ld pe wa qu wd : Int) (A : Option Addr) (n cap : Nat) (ss : List (Int × Bool)) (w : World) (hn : n ≤ 40) (hw0 : 1 ≤ wd) (hw1 : wd ≤ 16) (hs : Sl (Pl sightC) 2 w w.heap.size A n ss) :
    Calls Try.prog 10 #[.agg #[.string nm, .int .i64 pl, .int .i64 fl, .int .i64 ld, .int .i64 pe, .int .i64 wa, .int .i64 qu], .int .i64 wd, .slice A n cap] w fun e w' =>
      e = .returned (.bool true) ∧ Below w.heap.size w w' := by
  go_enter Try.func10, Try.ntmps10
  go_wp2_with fail
  refine (small44_any _).mono ?_
  rintro e w0 ⟨rfl, hb0⟩
  simp only [World.size_alloc] at hb0
  have hz0 := hb0.size
  simp only [World.size_alloc] at hz0
  have hbw0 : Below w.heap.size w w0 := ((Below.refl _ _).alloc (Nat.le_refl _) _).trans (hb0.mono (by omega))
  have ht0 : Bk w0 w.heap.size 23 #[.string nm, .int .i64 pl, .int .i64 fl, .int .i64 ld, .int .i64 pe, .int .i64 wa, .int .i64 qu] := (Bk.new w _ _).below hb0 (by omega)
  have hs0 := hs.keep (Pl.lasts _) hbw0 (Nat.le_trans (by omega) hz0)
  clear hb0
  go_wp2_with fail
  refine (new_in wd _ hw0 hw1).mono ?_
  rintro e w1 ⟨rfl, hb1, hz1, hp1⟩
  have hP1 : Post w1 (w0.heap.size + 1) w0.heap.size wd (stA false 0 0 0) := ⟨by simpa [stA] using hp1⟩
  have ht1 := ht0.below hb1 (by omega)
  have hs1 := hs0.keep (Pl.lasts _) hb1 hb1.size
  have hbw1 : Below w.heap.size w w1 := hbw0.trans (hb1.mono (by omega))
  have HP1 := Lib.hid hP1
  clear hp1 hP1 ht0 hs0
  obtain ⟨b, hb⟩ : ∃ b, b = w0.heap.size := ⟨_, rfl⟩
  rw [← hb] at HP1 hz1
  have hbz : w.heap.size + 1 ≤ b := by omega
  rw [← hb]
  have HB := Lib.hid hb
  clear hb hb1 hz0 hbw0
  have htc := ht1.cell
  go_wp2_with fail
  refine (run_any _ _ _ _ _ _ _ _ _ _ _ _ (by omega) hs1).mono ?_
  rintro e w2 ⟨A1, cap1, rfl, hb2, hs2⟩
  have hz2 := hb2.size
  have hP2 := HP1.out.below hb2
  have HP2 := Lib.hid hP2
  clear hP2 htc ht1 hs1
  go_wp2
  go_loopw [10, 11, 12, 13] (fun v10 v11 v12 i wr => ∃ (k : Nat) (r : Bool) (lv many sc : Int), k ≤ n ∧ v10 = .int .i64 lv ∧ v11 = .bool r ∧ v12 = .int .i64 sc ∧ i = .int .i64 k ∧ AlInv w2 wr (b + 1) b wd ld ss k r lv many sc) (fun _ _ _ i _ => n - (intOf i).toNat)
  case atStart => exact ⟨0, false, 0, 0, 0, by omega, rfl, rfl, rfl, rfl, Only2.refl _ _ _, HP2.out, rfl, by omega, by omega, by omega, by omega, (fun h => by cases h), fun _ => rfl⟩
  case round =>
    obtain ⟨k, r, lv, many, sc, hk, rfl, rfl, rfl, rfl, ho, hpr, hlv, hsc0, hsck, hm0, hmk, hr1, hr0⟩ := hrel
    by_cases hlt : k < n
    · obtain ⟨b1, o1, x, rfl, hl1, hx, hc⟩ := hs2.at_ hlt
      have hxs : x = stL ld ss (k + 1) := statesL_get ld ss _ k x hx
      obtain ⟨wq, rfl⟩ : ∃ wq : World, wq = wr := ⟨_, rfl⟩
      have hinv := inv_all ld ss (k + 1) (by rw [hs.1]; omega)
      have hxl0 : 0 ≤ x.l := by rw [hxs]; exact hinv.l0
      have hxl3 : x.l ≤ 3 := by rw [hxs]; exact hinv.l3
      have c2 := hc w2 (Below.refl _ _)
      obtain ⟨hne1, hne2⟩ := sl_ne HP2.out (by simpa using c2 0 _ rfl) (by simpa using c2 2 _ rfl)
      have hcell : ∀ W, Only2 w2 W (b + 1) b → W.cell? ⟨b1, o1 + k * 3, none⟩ = some (.int .i64 x.l) := fun W h =>
        (World.cell?_of_block (h.block b1 hl1 hne1 hne2)).trans (by simpa using c2 0 _ rfl)
      have HX := Lib.hid hxs
      have HLV := Lib.hid hlv
      have HO := Lib.hid ho
      have HC := Lib.hid hcell
      have HPR := Lib.hid hpr
      have hkn : (k : Int) < (n : Int) := by omega
      have e0 := hcell _ ho
      clear hinv c2 hc hx hxs hlv ho hcell hpr
      by_cases hxl : x.l = lv
      · have hxb : (x.l != lv) = false := by simp [hxl]
        subst hxl
        clear hxb
        cases r with
        | true =>
          have hone := hr1 rfl
          have HPX := HPR
          have HON := HO
          have eN := HC.out wq HO.out
          clear hr1 hr0 e0
          have e0 := eN
          have hgd : Good (stA true x.l (many) (sc)) 1000 := good_A true hxl0 hxl3 (by omega) (by omega) (by omega) (by omega) (fun _ => by omega)
          have HGD := Lib.hid hgd
          clear hgd
          go_wp2_with fail
          refine (due_post (b + 1) b wd k (stA true x.l (many) (sc)) 1000 HGD.out _ HPX.out hw1 (by omega)).mono ?_
          rintro e W3 ⟨A3, cap3, rfl, hb3, hp3, _, hs3⟩
          rw [dueL_A, if_pos rfl, callsN_len] at hs3 ⊢
          have hND := nDue_A (k := (k : Int)) (sc := sc) (by omega) hw0
          generalize nDue wd (k : Int) (sc) = N at *
          have hmb : ((N : Int) != (if 1 + ((k : Int) - sc) / 3 < wd then 1 + ((k : Int) - sc) / 3 else wd)) = false := by rw [bne_eq_false_iff_eq]; split <;> omega
          have hN16 : N ≤ 16 := by omega
          have HND := Lib.hid hND
          clear hND
          have RELO : ∀ W', Below W3.heap.size W3 W' → ∃ (k' : Nat) (r' : Bool) (lv' many' sc' : Int), k' ≤ n ∧ Value.int .i64 x.l = .int .i64 lv' ∧ Value.bool true = .bool r' ∧ Value.int .i64 (sc) = .int .i64 sc' ∧ Value.int .i64 ((k : Int) + 1) = .int .i64 (k' : Int) ∧ AlInv w2 W' (b + 1) b wd ld ss k' r' lv' many' sc' :=
            fun W' h => ⟨k + 1, true, x.l, many, sc, by omega, rfl, rfl, rfl, by go_num, (HON.out.trans (Only2.of_below _ _ hb3)).trans (Only2.of_below _ _ h), hp3.below h, congrArg Al.l HX.out, by omega, by omega, by omega, by omega, (fun _ => by omega), (fun h => by cases h)⟩
          have RR := Lib.hid RELO
          have hl3' := (World.block_lt_of_cell? _ _ eN)
          have eW3 : ∀ W', Below W3.heap.size W3 W' → W'.cell? ⟨b1, o1 + k * 3, none⟩ = some (.int .i64 x.l) := fun W' h =>
            ((hb3.trans (h.mono hb3.size)).cell (p := ⟨b1, o1 + k * 3, none⟩) hl3').trans eN
          have EW := Lib.hid eW3
          clear RELO hp3 eW3 eN hb3
          go_wp2_with fail
          all_goals
            go_loopw [15] (fun i wr => ∃ m : Nat, m ≤ N ∧ i = .int .i64 m ∧ Below W3.heap.size W3 wr) (fun i _ => N - (intOf i).toNat)
            case atStart => exact ⟨0, Nat.zero_le _, rfl, Below.refl _ _⟩
            case round =>
              obtain ⟨m, hm, rfl, hbm⟩ := hrel
              by_cases hmn : m < N
              · obtain ⟨b4, o4, y, rfl, hl4, hy, hc4⟩ := hs3.at_ hmn
                have hyy := callsN_get hy
                have f0 := hc4 wr hbm 0 _ rfl
                have f1 := hc4 wr hbm 1 _ rfl
                have f3 := hc4 wr hbm 3 _ rfl
                rw [hyy] at f0 f1 f3
                simp only [Nat.add_zero] at f0 f1 f3
                have fL := EW.out wr hbm
                have hmn' : (m : Int) < (N : Int) := by omega
                have hm0' : (0 : Int) ≤ (m : Int) := by omega
                have hk0' : (0 : Int) ≤ (k : Int) := by omega
                clear hc4 hy hyy
                go_wp2_with fail
                refine wp_region_head 28 (fun w' => w' = wr.drew) (by kernel_rfl) (by kernel_rfl) rfl ?_
                iterate 28 (refine chain_pure (by rfl) ?_; apply Exists.intro; apply And.intro; (case left => (intro w hSw; (try dsimp only at hSw); go_simp; try with_reducible rfl)); (try simp only [Act.put, List.setIfInBounds_toArray, List.set_cons_zero, List.set_cons_succ]))
                intro W hSW
                subst hSW
                go_wp2
                go_roundw
                case rel => exact ⟨m + 1, by omega, by go_num, hbm.drew⟩
                case measure => simp [intOf]; omega
              · go_wp2
                go_roundw
                case rel => exact RR.out _ hbm
                case measure => simp [intOf]; omega
        | false =>
          have hgd : Good (stA false x.l many sc) 1000 := good_A false hxl0 hxl3 (by omega) (by omega) (by omega) (by omega) (fun h => by cases h)
          have HGD := Lib.hid hgd
          have hz := hr0 rfl
          have HZ := Lib.hid hz
          clear hgd hr1 hr0 hz
          go_wp2_with fail
          refine (due_post (b + 1) b wd k (stA false x.l many sc) 1000 HGD.out _ HPR.out hw1 (by omega)).mono ?_
          rintro e W3 ⟨A3, cap3, rfl, hb3, hp3, _, _⟩
          rw [dueL_A, if_neg (by decide)]
          have HP3 := Lib.hid hp3
          clear hp3
          go_wp2
          go_roundw
          case rel => exact ⟨k + 1, false, x.l, many, sc, by omega, rfl, rfl, rfl, by go_num, HO.out.trans (Only2.of_below _ _ hb3), HP3.out, congrArg Al.l HX.out, by omega, by omega, by omega, by omega, (fun h => by cases h), fun _ => HZ.out⟩
          case measure => simp [intOf]; omega
      · have hxb : (x.l != lv) = true := by simp [hxl]
        have hro : raiseOk 5 x.l k := ⟨by omega, by omega, hxl0, hxl3, by omega, by omega⟩
        have HRO := Lib.hid hro
        have hgr : Good (stA r lv many sc) 1000 := by
          refine good_A r ?_ ?_ hsc0 (by omega) hm0 (by omega) hr1
          · rw [HLV.out]; exact (inv_all ld ss k (by rw [hs.1]; omega)).l0
          · rw [HLV.out]; exact (inv_all ld ss k (by rw [hs.1]; omega)).l3
        have HGR := Lib.hid hgr
        clear hro hgr hxl
        go_wp2_with fail
        refine (raise_any (b + 1) b wd 5 x.l k (stA r lv many sc) 1000 (by omega) HGR.out _ HPR.out).mono ?_
        rintro e W2 ⟨rfl, ho2, hp2⟩
        rw [raiseN_A r lv many sc x.l k HRO.out]
        rw [raise_A r lv many sc x.l k HRO.out] at hp2
        have HPX := Lib.hid hp2
        have hm1b : (many + 1 == 0) = false := by simp; omega
        have hoN := HO.out.trans ho2
        have HON := Lib.hid hoN
        have eN := HC.out W2 hoN
        clear hp2 e0 hoN
        have hgd : Good (stA true x.l (many + 1) ((k : Int))) 1000 := good_A true hxl0 hxl3 (by omega) (by omega) (by omega) (by omega) (fun _ => by omega)
        have HGD := Lib.hid hgd
        clear hgd
        go_wp2_with fail
        refine (due_post (b + 1) b wd k (stA true x.l (many + 1) ((k : Int))) 1000 HGD.out _ HPX.out hw1 (by omega)).mono ?_
        rintro e W3 ⟨A3, cap3, rfl, hb3, hp3, _, hs3⟩
        rw [dueL_A, if_pos rfl, callsN_len] at hs3 ⊢
        have hND := nDue_A (k := (k : Int)) (sc := (k : Int)) (by omega) hw0
        generalize nDue wd (k : Int) ((k : Int)) = N at *
        have hmb : ((N : Int) != (if 1 < wd then 1 else wd)) = false := by rw [bne_eq_false_iff_eq]; split <;> omega
        have hN16 : N ≤ 16 := by omega
        have HND := Lib.hid hND
        clear hND
        have RELO : ∀ W', Below W3.heap.size W3 W' → ∃ (k' : Nat) (r' : Bool) (lv' many' sc' : Int), k' ≤ n ∧ Value.int .i64 x.l = .int .i64 lv' ∧ Value.bool true = .bool r' ∧ Value.int .i64 ((k : Int)) = .int .i64 sc' ∧ Value.int .i64 ((k : Int) + 1) = .int .i64 (k' : Int) ∧ AlInv w2 W' (b + 1) b wd ld ss k' r' lv' many' sc' :=
          fun W' h => ⟨k + 1, true, x.l, many + 1, (k : Int), by omega, rfl, rfl, rfl, by go_num, (HON.out.trans (Only2.of_below _ _ hb3)).trans (Only2.of_below _ _ h), hp3.below h, congrArg Al.l HX.out, by omega, by omega, by omega, by omega, (fun _ => by omega), (fun h => by cases h)⟩
        have RR := Lib.hid RELO
        have hl3' := (World.block_lt_of_cell? _ _ eN)
        have eW3 : ∀ W', Below W3.heap.size W3 W' → W'.cell? ⟨b1, o1 + k * 3, none⟩ = some (.int .i64 x.l) := fun W' h =>
          ((hb3.trans (h.mono hb3.size)).cell (p := ⟨b1, o1 + k * 3, none⟩) hl3').trans eN
        have EW := Lib.hid eW3
        clear RELO hp3 eW3 eN hb3
        go_wp2_with fail
        all_goals
          go_loopw [15] (fun i wr => ∃ m : Nat, m ≤ N ∧ i = .int .i64 m ∧ Below W3.heap.size W3 wr) (fun i _ => N - (intOf i).toNat)
          case atStart => exact ⟨0, Nat.zero_le _, rfl, Below.refl _ _⟩
          case round =>
            obtain ⟨m, hm, rfl, hbm⟩ := hrel
            by_cases hmn : m < N
            · obtain ⟨b4, o4, y, rfl, hl4, hy, hc4⟩ := hs3.at_ hmn
              have hyy := callsN_get hy
              have f0 := hc4 wr hbm 0 _ rfl
              have f1 := hc4 wr hbm 1 _ rfl
              have f3 := hc4 wr hbm 3 _ rfl
              rw [hyy] at f0 f1 f3
              simp only [Nat.add_zero] at f0 f1 f3
              have fL := EW.out wr hbm
              have hmn' : (m : Int) < (N : Int) := by omega
              have hm0' : (0 : Int) ≤ (m : Int) := by omega
              have hk0' : (0 : Int) ≤ (k : Int) := by omega
              clear hc4 hy hyy
              go_wp2_with fail
              refine wp_region_head 28 (fun w' => w' = wr.drew) (by kernel_rfl) (by kernel_rfl) rfl ?_
              iterate 28 (refine chain_pure (by rfl) ?_; apply Exists.intro; apply And.intro; (case left => (intro w hSw; (try dsimp only at hSw); go_simp; try with_reducible rfl)); (try simp only [Act.put, List.setIfInBounds_toArray, List.set_cons_zero, List.set_cons_succ]))
              intro W hSW
              subst hSW
              go_wp2
              go_roundw
              case rel => exact ⟨m + 1, by omega, by go_num, hbm.drew⟩
              case measure => simp [intOf]; omega
            · go_wp2
              go_roundw
              case rel => exact RR.out _ hbm
              case measure => simp [intOf]; omega
    · have hkn : k = n := by omega
      subst hkn
      clear hpr hlv
      go_wp2
      go_ret
      exact ⟨rfl, (hbw1.trans (hb2.mono (by omega))).trans (ho.to_below (by omega) (by omega) (by omega))⟩

end Go.Proofs.Ytlhaoiplbebgnaa
