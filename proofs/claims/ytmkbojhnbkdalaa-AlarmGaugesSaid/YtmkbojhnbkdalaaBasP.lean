/- The walks of rightPeople and of small closures. -/
import Derived.Test.YtmkbojhnbkdalaaRightB
import Derived.Test.YtmkbojhnbkdalaaBasC
import Derived.Test.YtmkbojhnbkdalaaRegionL
import Derived.RegionTactic
set_option linter.unusedSimpArgs false
set_option linter.unusedVariables false
namespace Go.Proofs.Ytmkbojhnbkdalaa
open Go.RowKit

theorem wrapI_id {n : Int} (h1 : -9223372036854775808 ≤ n) (h2 : n ≤ 9223372036854775807) : IntKind.i64.wrap n = n := by rw [IntKind.wrap_i64]; omega
theorem wrap64_id {n : Int} (h1 : -9223372036854775808 ≤ n) (h2 : n ≤ 9223372036854775807) : wrap64 n = n := by unfold wrap64; omega

set_option maxRecDepth 100000 in
theorem startBad_any (n : Int) (W : World) : Calls Try.prog 48 #[.int .i64 n] W fun e w' => e = .returned (.bool (!volB n)) ∧ Below W.heap.size W w' := by
  go_enter Try.func48, Try.ntmps48
  go_wp2_with fail
  refine (volume_any _ _).mono ?_
  rintro e w' ⟨rfl, rfl⟩
  go_wp2_with fail
  go_ret
  exact ⟨rfl, Below.refl _ _⟩

set_option maxRecDepth 100000 in
theorem roomBad_any (n : Int) (W : World) : Calls Try.prog 13 #[.int .i64 n] W fun e w' => e = .returned (.bool (!volB n)) ∧ Below W.heap.size W w' := by
  go_enter Try.func13, Try.ntmps13
  go_wp2_with fail
  refine (volume_any _ _).mono ?_
  rintro e w' ⟨rfl, rfl⟩
  go_wp2_with fail
  go_ret
  exact ⟨rfl, Below.refl _ _⟩

set_option maxRecDepth 100000 in
theorem steepBad_any (n : Int) (W : World) : Calls Try.prog 23 #[.int .i64 n] W fun e w' => e = .returned (.bool (decide (unityI < n))) ∧ Below W.heap.size W w' := by
  have HU := Lib.hid (show decide (unityI < n) = decide ((1099511627776 : Int) < n) from rfl)
  go_enter Try.func23, Try.ntmps23
  go_wp2_with fail
  go_ret
  exact ⟨by rw [HU.out]; first | rfl | (simp), Below.refl _ _⟩

set_option maxRecDepth 100000 in
theorem shelterBad_any (t : She) (W : World) : Calls Try.prog 63 #[.agg #[.string t.nm, .int .i64 t.room]] W fun e w' => e = .returned (.bool (!shelterB t)) ∧ Below W.heap.size W w' := by
  have HU := Lib.hid (show shelterB t = wthB t.room 0 1073741824 from rfl)
  go_enter Try.func63, Try.ntmps63
  go_wp2_with fail
  refine (within_any _ _ _ _).mono ?_
  rintro e w' ⟨rfl, rfl⟩
  go_wp2_with fail
  go_ret
  exact ⟨by rw [HU.out]; rfl, (Below.refl _ _).alloc (Nat.le_refl _) _⟩

set_option maxRecDepth 100000 in
set_option maxHeartbeats 1000000 in
theorem townBad_any (b : Bas) (t : Twn) (bb : Nat) (W : World) (hlt : bb < W.heap.size) (hc : ∀ j, W.cell? ⟨bb, j, none⟩ = (#[.string b.nm, .slice b.ow.a b.ow.n b.ow.c, .int .i64 b.cells, .slice b.pl.a b.pl.n b.pl.c, .slice b.lk.a b.lk.n b.lk.c, .slice b.tw.a b.tw.n b.tw.c, .slice b.gg.a b.gg.n b.gg.c, .slice b.rd.a b.rd.n b.rd.c, .slice b.sh.a b.sh.n b.sh.c, .slice b.room.a b.room.n b.room.c, .int .i64 b.err] : Array Value)[j]?) (hb : b.pl.n ≤ maxLen ∧ b.tw.n ≤ 40 ∧ b.sh.n ≤ 40) :
    Calls Try.prog 57 #[.agg #[.string t.nm, .int .i64 t.place, .int .i64 t.flood, .int .i64 t.lead, .int .i64 t.people, .int .i64 t.watch, .int .i64 t.quorum], .pointer (some ⟨bb, 0, none⟩)] W fun e w' => e = .returned (.bool (!townB b t)) ∧ Below W.heap.size W w' := by
  have hn := two_byte hb.1
  have hn0 : (0 : Int) ≤ (b.pl.n : Int) := by omega
  obtain ⟨W1, hW1⟩ : ∃ z, z = W.alloc (.cells #[.string t.nm, .int .i64 t.place, .int .i64 t.flood, .int .i64 t.lead, .int .i64 t.people, .int .i64 t.watch, .int .i64 t.quorum] 41) := ⟨_, rfl⟩
  have hbl : Below W.heap.size W W1 := by rw [hW1]; exact (Below.refl _ _).alloc (Nat.le_refl _) _
  have ct := fun j => (show W1.cell? ⟨W.heap.size, j, none⟩ = (#[.string t.nm, .int .i64 t.place, .int .i64 t.flood, .int .i64 t.lead, .int .i64 t.people, .int .i64 t.watch, .int .i64 t.quorum] : Array Value)[j]? by rw [hW1]; exact (Bk.new W _ _).cell j)
  have cb := fun j => (hbl.cell (p := ⟨bb, j, none⟩) hlt).trans (hc j)
  have HBL := Lib.hid hbl
  have HW1 := Lib.hid hW1
  have HT := Lib.hid (show townB b t = (wthB t.place 0 ((b.pl.n : Int) - 1) && (volB t.flood && (wthB t.lead 0 24 && (wthB t.people 0 1073741824 && (volB t.watch && (wthB t.quorum 0 128)))))) from rfl)
  obtain ⟨v0, hv0⟩ : ∃ z, (wthB t.place 0 ((b.pl.n : Int) - 1)) = z := ⟨_, rfl⟩
  obtain ⟨v1, hv1⟩ : ∃ z, (volB t.flood) = z := ⟨_, rfl⟩
  obtain ⟨v2, hv2⟩ : ∃ z, (wthB t.lead 0 24) = z := ⟨_, rfl⟩
  obtain ⟨v3, hv3⟩ : ∃ z, (wthB t.people 0 1073741824) = z := ⟨_, rfl⟩
  obtain ⟨v4, hv4⟩ : ∃ z, (volB t.watch) = z := ⟨_, rfl⟩
  obtain ⟨v5, hv5⟩ : ∃ z, (wthB t.quorum 0 128) = z := ⟨_, rfl⟩
  rw [hv0, hv1, hv2, hv3, hv4, hv5] at HT
  have HV0 := Lib.hid hv0
  have HV1 := Lib.hid hv1
  have HV2 := Lib.hid hv2
  have HV3 := Lib.hid hv3
  have HV4 := Lib.hid hv4
  have HV5 := Lib.hid hv5
  clear hv0 hv1 hv2 hv3 hv4 hv5 hbl hW1 hc hb
  go_enter Try.func57, Try.ntmps57
  go_upto_region 1 with fail
  rw [← HW1.out]
  go_wp2_with fail
  refine (within_any _ _ _ _).mono ?_
  rintro e w' ⟨rfl, rfl⟩
  rw [HV0.out]
  cases v0
  · go_wp2_with fail
    go_ret
    exact ⟨by rw [HT.out]; simp, HBL.out⟩
  go_wp2_with fail
  refine (volume_any _ _).mono ?_
  rintro e w' ⟨rfl, rfl⟩
  rw [HV1.out]
  cases v1
  · go_wp2_with fail
    go_ret
    exact ⟨by rw [HT.out]; simp, HBL.out⟩
  go_wp2_with fail
  refine (within_any _ _ _ _).mono ?_
  rintro e w' ⟨rfl, rfl⟩
  rw [HV2.out]
  cases v2
  · go_wp2_with fail
    go_ret
    exact ⟨by rw [HT.out]; simp, HBL.out⟩
  go_wp2_with fail
  refine (within_any _ _ _ _).mono ?_
  rintro e w' ⟨rfl, rfl⟩
  rw [HV3.out]
  cases v3
  · go_wp2_with fail
    go_ret
    exact ⟨by rw [HT.out]; simp, HBL.out⟩
  go_wp2_with fail
  refine (volume_any _ _).mono ?_
  rintro e w' ⟨rfl, rfl⟩
  rw [HV4.out]
  cases v4
  · go_wp2_with fail
    go_ret
    exact ⟨by rw [HT.out]; simp, HBL.out⟩
  go_wp2_with fail
  refine (within_any _ _ _ _).mono ?_
  rintro e w' ⟨rfl, rfl⟩
  rw [HV5.out]
  go_wp2_with fail
  go_ret
  exact ⟨by rw [HT.out]; simp, HBL.out⟩

set_option maxRecDepth 100000 in
set_option maxHeartbeats 1000000 in
theorem roadBad_any (b : Bas) (t : Rod) (bb : Nat) (W : World) (hlt : bb < W.heap.size) (hc : ∀ j, W.cell? ⟨bb, j, none⟩ = (#[.string b.nm, .slice b.ow.a b.ow.n b.ow.c, .int .i64 b.cells, .slice b.pl.a b.pl.n b.pl.c, .slice b.lk.a b.lk.n b.lk.c, .slice b.tw.a b.tw.n b.tw.c, .slice b.gg.a b.gg.n b.gg.c, .slice b.rd.a b.rd.n b.rd.c, .slice b.sh.a b.sh.n b.sh.c, .slice b.room.a b.room.n b.room.c, .int .i64 b.err] : Array Value)[j]?) (hb : b.pl.n ≤ maxLen ∧ b.tw.n ≤ 40 ∧ b.sh.n ≤ 40) :
    Calls Try.prog 61 #[.agg #[.string t.nm, .int .i64 t.frm, .int .i64 t.to, .int .i64 t.hours, .int .i64 t.flow, .int .i64 t.byp, .int .i64 t.limit], .pointer (some ⟨bb, 0, none⟩)] W fun e w' => e = .returned (.bool (!roadB b t)) ∧ Below W.heap.size W w' := by
  have hn := two_byte hb.1
  have hn0 : (0 : Int) ≤ (b.pl.n : Int) := by omega
  have hm0 : (0 : Int) ≤ (b.tw.n : Int) := by omega
  have hm1 : (b.tw.n : Int) ≤ 40 := by omega
  have hs0 : (0 : Int) ≤ (b.sh.n : Int) := by omega
  have hs1 : (b.sh.n : Int) ≤ 40 := by omega
  have hq1 : IntKind.i64.wrap ((b.tw.n : Int) - 1) = (b.tw.n : Int) - 1 := wrapI_id (by omega) (by omega)
  have hq2 : IntKind.i64.wrap ((b.tw.n : Int) + (b.sh.n : Int)) = (b.tw.n : Int) + (b.sh.n : Int) := wrapI_id (by omega) (by omega)
  have hq3 : IntKind.i64.wrap ((b.tw.n : Int) + (b.sh.n : Int) - 1) = (b.tw.n : Int) + (b.sh.n : Int) - 1 := wrapI_id (by omega) (by omega)
  have hq4 : IntKind.i64.wrap ((b.pl.n : Int) - 1) = (b.pl.n : Int) - 1 := wrapI_id (by omega) (by omega)
  obtain ⟨W1, hW1⟩ : ∃ z, z = W.alloc (.cells #[.string t.nm, .int .i64 t.frm, .int .i64 t.to, .int .i64 t.hours, .int .i64 t.flow, .int .i64 t.byp, .int .i64 t.limit] 106) := ⟨_, rfl⟩
  have hbl : Below W.heap.size W W1 := by rw [hW1]; exact (Below.refl _ _).alloc (Nat.le_refl _) _
  have ct := fun j => (show W1.cell? ⟨W.heap.size, j, none⟩ = (#[.string t.nm, .int .i64 t.frm, .int .i64 t.to, .int .i64 t.hours, .int .i64 t.flow, .int .i64 t.byp, .int .i64 t.limit] : Array Value)[j]? by rw [hW1]; exact (Bk.new W _ _).cell j)
  have cb := fun j => (hbl.cell (p := ⟨bb, j, none⟩) hlt).trans (hc j)
  have HBL := Lib.hid hbl
  have HW1 := Lib.hid hW1
  have HT := Lib.hid (show roadB b t = (wthB t.frm 0 ((b.tw.n : Int) - 1) && (wthB t.to 0 ((b.tw.n : Int) + (b.sh.n : Int) - 1) && (!(t.frm == t.to) && (wthB t.hours 1 24 && (wthB t.flow 0 1073741824 && (wthB t.byp (-1) ((b.pl.n : Int) - 1) && (volB t.limit && (!(t.byp == -1 && !(t.limit == 0)))))))))) from rfl)
  obtain ⟨v0, hv0⟩ : ∃ z, (wthB t.frm 0 ((b.tw.n : Int) - 1)) = z := ⟨_, rfl⟩
  obtain ⟨v1, hv1⟩ : ∃ z, (wthB t.to 0 ((b.tw.n : Int) + (b.sh.n : Int) - 1)) = z := ⟨_, rfl⟩
  obtain ⟨v2, hv2⟩ : ∃ z, (!(t.frm == t.to)) = z := ⟨_, rfl⟩
  obtain ⟨v3, hv3⟩ : ∃ z, (wthB t.hours 1 24) = z := ⟨_, rfl⟩
  obtain ⟨v4, hv4⟩ : ∃ z, (wthB t.flow 0 1073741824) = z := ⟨_, rfl⟩
  obtain ⟨v5, hv5⟩ : ∃ z, (wthB t.byp (-1) ((b.pl.n : Int) - 1)) = z := ⟨_, rfl⟩
  obtain ⟨v6, hv6⟩ : ∃ z, (volB t.limit) = z := ⟨_, rfl⟩
  obtain ⟨v7, hv7⟩ : ∃ z, (!(t.byp == -1 && !(t.limit == 0))) = z := ⟨_, rfl⟩
  rw [hv0, hv1, hv2, hv3, hv4, hv5, hv6, hv7] at HT
  have HV0 := Lib.hid hv0
  have HV1 := Lib.hid hv1
  have HV2 := Lib.hid hv2
  have HV3 := Lib.hid hv3
  have HV4 := Lib.hid hv4
  have HV5 := Lib.hid hv5
  have HV6 := Lib.hid hv6
  have HV7 := Lib.hid hv7
  clear hv0 hv1 hv2 hv3 hv4 hv5 hv6 hv7 hbl hW1 hc hb
  go_enter Try.func61, Try.ntmps61
  cases v0
  · have HR := Lib.hid (show roadB b t = false by rw [HT.out]; simp)
    go_upto_region 1 with fail
    rw [← HW1.out]
    skip
    refine wp_region_L ?_
    iterate 6 (refine L_pure (by kernel_rfl) ?_; apply Exists.intro; apply And.intro; (case left => (go_simp; try with_reducible rfl)); (try simp only [Act.put, List.setIfInBounds_toArray, List.set_cons_zero, List.set_cons_succ]))
    (refine L_call (by kernel_rfl) ?_; apply Exists.intro; apply Exists.intro; apply And.intro; (case left => (go_simp; first | (refine ⟨?_, ?_⟩ <;> with_reducible rfl) | rfl)))
    refine (within_any _ _ _ _).mono ?_
    rintro e w' ⟨rfl, rfl⟩
    rw [HV0.out]
    refine ⟨_, rfl, ?_⟩
    (try simp only [Act.put, List.setIfInBounds_toArray, List.set_cons_zero, List.set_cons_succ])
    iterate 2 (refine L_pure (by kernel_rfl) ?_; apply Exists.intro; apply And.intro; (case left => (go_simp; try with_reducible rfl)); (try simp only [Act.put, List.setIfInBounds_toArray, List.set_cons_zero, List.set_cons_succ]))
    iterate 12 (refine L_off (by kernel_rfl) ?_; (try simp only [Act.put, List.setIfInBounds_toArray, List.set_cons_zero, List.set_cons_succ]))
    iterate 2 (refine L_pure (by kernel_rfl) ?_; apply Exists.intro; apply And.intro; (case left => (go_simp; try with_reducible rfl)); (try simp only [Act.put, List.setIfInBounds_toArray, List.set_cons_zero, List.set_cons_succ]))
    iterate 5 (refine L_off (by kernel_rfl) ?_; (try simp only [Act.put, List.setIfInBounds_toArray, List.set_cons_zero, List.set_cons_succ]))
    iterate 2 (refine L_pure (by kernel_rfl) ?_; apply Exists.intro; apply And.intro; (case left => (go_simp; try with_reducible rfl)); (try simp only [Act.put, List.setIfInBounds_toArray, List.set_cons_zero, List.set_cons_succ]))
    iterate 4 (refine L_off (by kernel_rfl) ?_; (try simp only [Act.put, List.setIfInBounds_toArray, List.set_cons_zero, List.set_cons_succ]))
    iterate 2 (refine L_pure (by kernel_rfl) ?_; apply Exists.intro; apply And.intro; (case left => (go_simp; try with_reducible rfl)); (try simp only [Act.put, List.setIfInBounds_toArray, List.set_cons_zero, List.set_cons_succ]))
    iterate 4 (refine L_off (by kernel_rfl) ?_; (try simp only [Act.put, List.setIfInBounds_toArray, List.set_cons_zero, List.set_cons_succ]))
    iterate 2 (refine L_pure (by kernel_rfl) ?_; apply Exists.intro; apply And.intro; (case left => (go_simp; try with_reducible rfl)); (try simp only [Act.put, List.setIfInBounds_toArray, List.set_cons_zero, List.set_cons_succ]))
    iterate 8 (refine L_off (by kernel_rfl) ?_; (try simp only [Act.put, List.setIfInBounds_toArray, List.set_cons_zero, List.set_cons_succ]))
    iterate 2 (refine L_pure (by kernel_rfl) ?_; apply Exists.intro; apply And.intro; (case left => (go_simp; try with_reducible rfl)); (try simp only [Act.put, List.setIfInBounds_toArray, List.set_cons_zero, List.set_cons_succ]))
    iterate 4 (refine L_off (by kernel_rfl) ?_; (try simp only [Act.put, List.setIfInBounds_toArray, List.set_cons_zero, List.set_cons_succ]))
    iterate 2 (refine L_pure (by kernel_rfl) ?_; apply Exists.intro; apply And.intro; (case left => (go_simp; try with_reducible rfl)); (try simp only [Act.put, List.setIfInBounds_toArray, List.set_cons_zero, List.set_cons_succ]))
    iterate 8 (refine L_off (by kernel_rfl) ?_; (try simp only [Act.put, List.setIfInBounds_toArray, List.set_cons_zero, List.set_cons_succ]))
    iterate 2 (refine L_pure (by kernel_rfl) ?_; apply Exists.intro; apply And.intro; (case left => (go_simp; try with_reducible rfl)); (try simp only [Act.put, List.setIfInBounds_toArray, List.set_cons_zero, List.set_cons_succ]))
    refine L_nil ?_
    try dsimp only
    go_wp2_with fail
    go_ret
    exact ⟨by rw [HR.out]; first | rfl | simp, HBL.out⟩
  cases v1
  · have HR := Lib.hid (show roadB b t = false by rw [HT.out]; simp)
    go_upto_region 1 with fail
    rw [← HW1.out]
    skip
    refine wp_region_L ?_
    iterate 6 (refine L_pure (by kernel_rfl) ?_; apply Exists.intro; apply And.intro; (case left => (go_simp; try with_reducible rfl)); (try simp only [Act.put, List.setIfInBounds_toArray, List.set_cons_zero, List.set_cons_succ]))
    (refine L_call (by kernel_rfl) ?_; apply Exists.intro; apply Exists.intro; apply And.intro; (case left => (go_simp; first | (refine ⟨?_, ?_⟩ <;> with_reducible rfl) | rfl)))
    refine (within_any _ _ _ _).mono ?_
    rintro e w' ⟨rfl, rfl⟩
    rw [HV0.out]
    refine ⟨_, rfl, ?_⟩
    (try simp only [Act.put, List.setIfInBounds_toArray, List.set_cons_zero, List.set_cons_succ])
    iterate 12 (refine L_pure (by kernel_rfl) ?_; apply Exists.intro; apply And.intro; (case left => (go_simp; try with_reducible rfl)); (try simp only [Act.put, List.setIfInBounds_toArray, List.set_cons_zero, List.set_cons_succ]))
    (refine L_call (by kernel_rfl) ?_; apply Exists.intro; apply Exists.intro; apply And.intro; (case left => (go_simp; first | (refine ⟨?_, ?_⟩ <;> with_reducible rfl) | rfl)))
    refine (within_any _ _ _ _).mono ?_
    rintro e w' ⟨rfl, rfl⟩
    rw [HV1.out]
    refine ⟨_, rfl, ?_⟩
    (try simp only [Act.put, List.setIfInBounds_toArray, List.set_cons_zero, List.set_cons_succ])
    iterate 3 (refine L_pure (by kernel_rfl) ?_; apply Exists.intro; apply And.intro; (case left => (go_simp; try with_reducible rfl)); (try simp only [Act.put, List.setIfInBounds_toArray, List.set_cons_zero, List.set_cons_succ]))
    iterate 5 (refine L_off (by kernel_rfl) ?_; (try simp only [Act.put, List.setIfInBounds_toArray, List.set_cons_zero, List.set_cons_succ]))
    iterate 2 (refine L_pure (by kernel_rfl) ?_; apply Exists.intro; apply And.intro; (case left => (go_simp; try with_reducible rfl)); (try simp only [Act.put, List.setIfInBounds_toArray, List.set_cons_zero, List.set_cons_succ]))
    iterate 4 (refine L_off (by kernel_rfl) ?_; (try simp only [Act.put, List.setIfInBounds_toArray, List.set_cons_zero, List.set_cons_succ]))
    iterate 2 (refine L_pure (by kernel_rfl) ?_; apply Exists.intro; apply And.intro; (case left => (go_simp; try with_reducible rfl)); (try simp only [Act.put, List.setIfInBounds_toArray, List.set_cons_zero, List.set_cons_succ]))
    iterate 4 (refine L_off (by kernel_rfl) ?_; (try simp only [Act.put, List.setIfInBounds_toArray, List.set_cons_zero, List.set_cons_succ]))
    iterate 2 (refine L_pure (by kernel_rfl) ?_; apply Exists.intro; apply And.intro; (case left => (go_simp; try with_reducible rfl)); (try simp only [Act.put, List.setIfInBounds_toArray, List.set_cons_zero, List.set_cons_succ]))
    iterate 8 (refine L_off (by kernel_rfl) ?_; (try simp only [Act.put, List.setIfInBounds_toArray, List.set_cons_zero, List.set_cons_succ]))
    iterate 2 (refine L_pure (by kernel_rfl) ?_; apply Exists.intro; apply And.intro; (case left => (go_simp; try with_reducible rfl)); (try simp only [Act.put, List.setIfInBounds_toArray, List.set_cons_zero, List.set_cons_succ]))
    iterate 4 (refine L_off (by kernel_rfl) ?_; (try simp only [Act.put, List.setIfInBounds_toArray, List.set_cons_zero, List.set_cons_succ]))
    iterate 2 (refine L_pure (by kernel_rfl) ?_; apply Exists.intro; apply And.intro; (case left => (go_simp; try with_reducible rfl)); (try simp only [Act.put, List.setIfInBounds_toArray, List.set_cons_zero, List.set_cons_succ]))
    iterate 8 (refine L_off (by kernel_rfl) ?_; (try simp only [Act.put, List.setIfInBounds_toArray, List.set_cons_zero, List.set_cons_succ]))
    iterate 2 (refine L_pure (by kernel_rfl) ?_; apply Exists.intro; apply And.intro; (case left => (go_simp; try with_reducible rfl)); (try simp only [Act.put, List.setIfInBounds_toArray, List.set_cons_zero, List.set_cons_succ]))
    refine L_nil ?_
    try dsimp only
    go_wp2_with fail
    go_ret
    exact ⟨by rw [HR.out]; first | rfl | simp, HBL.out⟩
  cases hft : (t.frm == t.to) with
  | true =>
    have HR := Lib.hid (show roadB b t = false by rw [HT.out, ← HV2.out, hft]; simp)
    go_upto_region 1 with fail
    rw [← HW1.out]
    skip
    refine wp_region_L ?_
    iterate 6 (refine L_pure (by kernel_rfl) ?_; apply Exists.intro; apply And.intro; (case left => (go_simp; try with_reducible rfl)); (try simp only [Act.put, List.setIfInBounds_toArray, List.set_cons_zero, List.set_cons_succ]))
    (refine L_call (by kernel_rfl) ?_; apply Exists.intro; apply Exists.intro; apply And.intro; (case left => (go_simp; first | (refine ⟨?_, ?_⟩ <;> with_reducible rfl) | rfl)))
    refine (within_any _ _ _ _).mono ?_
    rintro e w' ⟨rfl, rfl⟩
    rw [HV0.out]
    refine ⟨_, rfl, ?_⟩
    (try simp only [Act.put, List.setIfInBounds_toArray, List.set_cons_zero, List.set_cons_succ])
    iterate 12 (refine L_pure (by kernel_rfl) ?_; apply Exists.intro; apply And.intro; (case left => (go_simp; try with_reducible rfl)); (try simp only [Act.put, List.setIfInBounds_toArray, List.set_cons_zero, List.set_cons_succ]))
    (refine L_call (by kernel_rfl) ?_; apply Exists.intro; apply Exists.intro; apply And.intro; (case left => (go_simp; first | (refine ⟨?_, ?_⟩ <;> with_reducible rfl) | rfl)))
    refine (within_any _ _ _ _).mono ?_
    rintro e w' ⟨rfl, rfl⟩
    rw [HV1.out]
    refine ⟨_, rfl, ?_⟩
    (try simp only [Act.put, List.setIfInBounds_toArray, List.set_cons_zero, List.set_cons_succ])
    iterate 10 (refine L_pure (by kernel_rfl) ?_; apply Exists.intro; apply And.intro; (case left => (go_simp; try with_reducible rfl)); (try simp only [Act.put, List.setIfInBounds_toArray, List.set_cons_zero, List.set_cons_succ]))
    iterate 4 (refine L_off (by kernel_rfl) ?_; (try simp only [Act.put, List.setIfInBounds_toArray, List.set_cons_zero, List.set_cons_succ]))
    iterate 2 (refine L_pure (by kernel_rfl) ?_; apply Exists.intro; apply And.intro; (case left => (go_simp; try with_reducible rfl)); (try simp only [Act.put, List.setIfInBounds_toArray, List.set_cons_zero, List.set_cons_succ]))
    iterate 4 (refine L_off (by kernel_rfl) ?_; (try simp only [Act.put, List.setIfInBounds_toArray, List.set_cons_zero, List.set_cons_succ]))
    iterate 2 (refine L_pure (by kernel_rfl) ?_; apply Exists.intro; apply And.intro; (case left => (go_simp; try with_reducible rfl)); (try simp only [Act.put, List.setIfInBounds_toArray, List.set_cons_zero, List.set_cons_succ]))
    iterate 8 (refine L_off (by kernel_rfl) ?_; (try simp only [Act.put, List.setIfInBounds_toArray, List.set_cons_zero, List.set_cons_succ]))
    iterate 2 (refine L_pure (by kernel_rfl) ?_; apply Exists.intro; apply And.intro; (case left => (go_simp; try with_reducible rfl)); (try simp only [Act.put, List.setIfInBounds_toArray, List.set_cons_zero, List.set_cons_succ]))
    iterate 4 (refine L_off (by kernel_rfl) ?_; (try simp only [Act.put, List.setIfInBounds_toArray, List.set_cons_zero, List.set_cons_succ]))
    iterate 2 (refine L_pure (by kernel_rfl) ?_; apply Exists.intro; apply And.intro; (case left => (go_simp; try with_reducible rfl)); (try simp only [Act.put, List.setIfInBounds_toArray, List.set_cons_zero, List.set_cons_succ]))
    iterate 8 (refine L_off (by kernel_rfl) ?_; (try simp only [Act.put, List.setIfInBounds_toArray, List.set_cons_zero, List.set_cons_succ]))
    iterate 2 (refine L_pure (by kernel_rfl) ?_; apply Exists.intro; apply And.intro; (case left => (go_simp; try with_reducible rfl)); (try simp only [Act.put, List.setIfInBounds_toArray, List.set_cons_zero, List.set_cons_succ]))
    refine L_nil ?_
    try dsimp only
    go_wp2_with fail
    go_ret
    exact ⟨by rw [HR.out]; first | rfl | simp, HBL.out⟩
  | false =>
  have HV2' := HV2.out
  rw [hft] at HV2'
  obtain rfl : v2 = true := HV2'.symm
  clear HV2'
  cases v3
  · have HR := Lib.hid (show roadB b t = false by rw [HT.out]; simp)
    go_upto_region 1 with fail
    rw [← HW1.out]
    skip
    refine wp_region_L ?_
    iterate 6 (refine L_pure (by kernel_rfl) ?_; apply Exists.intro; apply And.intro; (case left => (go_simp; try with_reducible rfl)); (try simp only [Act.put, List.setIfInBounds_toArray, List.set_cons_zero, List.set_cons_succ]))
    (refine L_call (by kernel_rfl) ?_; apply Exists.intro; apply Exists.intro; apply And.intro; (case left => (go_simp; first | (refine ⟨?_, ?_⟩ <;> with_reducible rfl) | rfl)))
    refine (within_any _ _ _ _).mono ?_
    rintro e w' ⟨rfl, rfl⟩
    rw [HV0.out]
    refine ⟨_, rfl, ?_⟩
    (try simp only [Act.put, List.setIfInBounds_toArray, List.set_cons_zero, List.set_cons_succ])
    iterate 12 (refine L_pure (by kernel_rfl) ?_; apply Exists.intro; apply And.intro; (case left => (go_simp; try with_reducible rfl)); (try simp only [Act.put, List.setIfInBounds_toArray, List.set_cons_zero, List.set_cons_succ]))
    (refine L_call (by kernel_rfl) ?_; apply Exists.intro; apply Exists.intro; apply And.intro; (case left => (go_simp; first | (refine ⟨?_, ?_⟩ <;> with_reducible rfl) | rfl)))
    refine (within_any _ _ _ _).mono ?_
    rintro e w' ⟨rfl, rfl⟩
    rw [HV1.out]
    refine ⟨_, rfl, ?_⟩
    (try simp only [Act.put, List.setIfInBounds_toArray, List.set_cons_zero, List.set_cons_succ])
    iterate 12 (refine L_pure (by kernel_rfl) ?_; apply Exists.intro; apply And.intro; (case left => (go_simp; try with_reducible rfl)); (try simp only [Act.put, List.setIfInBounds_toArray, List.set_cons_zero, List.set_cons_succ]))
    (refine L_call (by kernel_rfl) ?_; apply Exists.intro; apply Exists.intro; apply And.intro; (case left => (go_simp; first | (refine ⟨?_, ?_⟩ <;> with_reducible rfl) | rfl)))
    refine (within_any _ _ _ _).mono ?_
    rintro e w' ⟨rfl, rfl⟩
    rw [HV3.out]
    refine ⟨_, rfl, ?_⟩
    (try simp only [Act.put, List.setIfInBounds_toArray, List.set_cons_zero, List.set_cons_succ])
    iterate 3 (refine L_pure (by kernel_rfl) ?_; apply Exists.intro; apply And.intro; (case left => (go_simp; try with_reducible rfl)); (try simp only [Act.put, List.setIfInBounds_toArray, List.set_cons_zero, List.set_cons_succ]))
    iterate 4 (refine L_off (by kernel_rfl) ?_; (try simp only [Act.put, List.setIfInBounds_toArray, List.set_cons_zero, List.set_cons_succ]))
    iterate 2 (refine L_pure (by kernel_rfl) ?_; apply Exists.intro; apply And.intro; (case left => (go_simp; try with_reducible rfl)); (try simp only [Act.put, List.setIfInBounds_toArray, List.set_cons_zero, List.set_cons_succ]))
    iterate 8 (refine L_off (by kernel_rfl) ?_; (try simp only [Act.put, List.setIfInBounds_toArray, List.set_cons_zero, List.set_cons_succ]))
    iterate 2 (refine L_pure (by kernel_rfl) ?_; apply Exists.intro; apply And.intro; (case left => (go_simp; try with_reducible rfl)); (try simp only [Act.put, List.setIfInBounds_toArray, List.set_cons_zero, List.set_cons_succ]))
    iterate 4 (refine L_off (by kernel_rfl) ?_; (try simp only [Act.put, List.setIfInBounds_toArray, List.set_cons_zero, List.set_cons_succ]))
    iterate 2 (refine L_pure (by kernel_rfl) ?_; apply Exists.intro; apply And.intro; (case left => (go_simp; try with_reducible rfl)); (try simp only [Act.put, List.setIfInBounds_toArray, List.set_cons_zero, List.set_cons_succ]))
    iterate 8 (refine L_off (by kernel_rfl) ?_; (try simp only [Act.put, List.setIfInBounds_toArray, List.set_cons_zero, List.set_cons_succ]))
    iterate 2 (refine L_pure (by kernel_rfl) ?_; apply Exists.intro; apply And.intro; (case left => (go_simp; try with_reducible rfl)); (try simp only [Act.put, List.setIfInBounds_toArray, List.set_cons_zero, List.set_cons_succ]))
    refine L_nil ?_
    try dsimp only
    go_wp2_with fail
    go_ret
    exact ⟨by rw [HR.out]; first | rfl | simp, HBL.out⟩
  cases v4
  · have HR := Lib.hid (show roadB b t = false by rw [HT.out]; simp)
    go_upto_region 1 with fail
    rw [← HW1.out]
    skip
    refine wp_region_L ?_
    iterate 6 (refine L_pure (by kernel_rfl) ?_; apply Exists.intro; apply And.intro; (case left => (go_simp; try with_reducible rfl)); (try simp only [Act.put, List.setIfInBounds_toArray, List.set_cons_zero, List.set_cons_succ]))
    (refine L_call (by kernel_rfl) ?_; apply Exists.intro; apply Exists.intro; apply And.intro; (case left => (go_simp; first | (refine ⟨?_, ?_⟩ <;> with_reducible rfl) | rfl)))
    refine (within_any _ _ _ _).mono ?_
    rintro e w' ⟨rfl, rfl⟩
    rw [HV0.out]
    refine ⟨_, rfl, ?_⟩
    (try simp only [Act.put, List.setIfInBounds_toArray, List.set_cons_zero, List.set_cons_succ])
    iterate 12 (refine L_pure (by kernel_rfl) ?_; apply Exists.intro; apply And.intro; (case left => (go_simp; try with_reducible rfl)); (try simp only [Act.put, List.setIfInBounds_toArray, List.set_cons_zero, List.set_cons_succ]))
    (refine L_call (by kernel_rfl) ?_; apply Exists.intro; apply Exists.intro; apply And.intro; (case left => (go_simp; first | (refine ⟨?_, ?_⟩ <;> with_reducible rfl) | rfl)))
    refine (within_any _ _ _ _).mono ?_
    rintro e w' ⟨rfl, rfl⟩
    rw [HV1.out]
    refine ⟨_, rfl, ?_⟩
    (try simp only [Act.put, List.setIfInBounds_toArray, List.set_cons_zero, List.set_cons_succ])
    iterate 12 (refine L_pure (by kernel_rfl) ?_; apply Exists.intro; apply And.intro; (case left => (go_simp; try with_reducible rfl)); (try simp only [Act.put, List.setIfInBounds_toArray, List.set_cons_zero, List.set_cons_succ]))
    (refine L_call (by kernel_rfl) ?_; apply Exists.intro; apply Exists.intro; apply And.intro; (case left => (go_simp; first | (refine ⟨?_, ?_⟩ <;> with_reducible rfl) | rfl)))
    refine (within_any _ _ _ _).mono ?_
    rintro e w' ⟨rfl, rfl⟩
    rw [HV3.out]
    refine ⟨_, rfl, ?_⟩
    (try simp only [Act.put, List.setIfInBounds_toArray, List.set_cons_zero, List.set_cons_succ])
    iterate 5 (refine L_pure (by kernel_rfl) ?_; apply Exists.intro; apply And.intro; (case left => (go_simp; try with_reducible rfl)); (try simp only [Act.put, List.setIfInBounds_toArray, List.set_cons_zero, List.set_cons_succ]))
    (refine L_call (by kernel_rfl) ?_; apply Exists.intro; apply Exists.intro; apply And.intro; (case left => (go_simp; first | (refine ⟨?_, ?_⟩ <;> with_reducible rfl) | rfl)))
    refine (within_any _ _ _ _).mono ?_
    rintro e w' ⟨rfl, rfl⟩
    rw [HV4.out]
    refine ⟨_, rfl, ?_⟩
    (try simp only [Act.put, List.setIfInBounds_toArray, List.set_cons_zero, List.set_cons_succ])
    iterate 3 (refine L_pure (by kernel_rfl) ?_; apply Exists.intro; apply And.intro; (case left => (go_simp; try with_reducible rfl)); (try simp only [Act.put, List.setIfInBounds_toArray, List.set_cons_zero, List.set_cons_succ]))
    iterate 8 (refine L_off (by kernel_rfl) ?_; (try simp only [Act.put, List.setIfInBounds_toArray, List.set_cons_zero, List.set_cons_succ]))
    iterate 2 (refine L_pure (by kernel_rfl) ?_; apply Exists.intro; apply And.intro; (case left => (go_simp; try with_reducible rfl)); (try simp only [Act.put, List.setIfInBounds_toArray, List.set_cons_zero, List.set_cons_succ]))
    iterate 4 (refine L_off (by kernel_rfl) ?_; (try simp only [Act.put, List.setIfInBounds_toArray, List.set_cons_zero, List.set_cons_succ]))
    iterate 2 (refine L_pure (by kernel_rfl) ?_; apply Exists.intro; apply And.intro; (case left => (go_simp; try with_reducible rfl)); (try simp only [Act.put, List.setIfInBounds_toArray, List.set_cons_zero, List.set_cons_succ]))
    iterate 8 (refine L_off (by kernel_rfl) ?_; (try simp only [Act.put, List.setIfInBounds_toArray, List.set_cons_zero, List.set_cons_succ]))
    iterate 2 (refine L_pure (by kernel_rfl) ?_; apply Exists.intro; apply And.intro; (case left => (go_simp; try with_reducible rfl)); (try simp only [Act.put, List.setIfInBounds_toArray, List.set_cons_zero, List.set_cons_succ]))
    refine L_nil ?_
    try dsimp only
    go_wp2_with fail
    go_ret
    exact ⟨by rw [HR.out]; first | rfl | simp, HBL.out⟩
  cases v5
  · have HR := Lib.hid (show roadB b t = false by rw [HT.out]; simp)
    go_upto_region 1 with fail
    rw [← HW1.out]
    skip
    refine wp_region_L ?_
    iterate 6 (refine L_pure (by kernel_rfl) ?_; apply Exists.intro; apply And.intro; (case left => (go_simp; try with_reducible rfl)); (try simp only [Act.put, List.setIfInBounds_toArray, List.set_cons_zero, List.set_cons_succ]))
    (refine L_call (by kernel_rfl) ?_; apply Exists.intro; apply Exists.intro; apply And.intro; (case left => (go_simp; first | (refine ⟨?_, ?_⟩ <;> with_reducible rfl) | rfl)))
    refine (within_any _ _ _ _).mono ?_
    rintro e w' ⟨rfl, rfl⟩
    rw [HV0.out]
    refine ⟨_, rfl, ?_⟩
    (try simp only [Act.put, List.setIfInBounds_toArray, List.set_cons_zero, List.set_cons_succ])
    iterate 12 (refine L_pure (by kernel_rfl) ?_; apply Exists.intro; apply And.intro; (case left => (go_simp; try with_reducible rfl)); (try simp only [Act.put, List.setIfInBounds_toArray, List.set_cons_zero, List.set_cons_succ]))
    (refine L_call (by kernel_rfl) ?_; apply Exists.intro; apply Exists.intro; apply And.intro; (case left => (go_simp; first | (refine ⟨?_, ?_⟩ <;> with_reducible rfl) | rfl)))
    refine (within_any _ _ _ _).mono ?_
    rintro e w' ⟨rfl, rfl⟩
    rw [HV1.out]
    refine ⟨_, rfl, ?_⟩
    (try simp only [Act.put, List.setIfInBounds_toArray, List.set_cons_zero, List.set_cons_succ])
    iterate 12 (refine L_pure (by kernel_rfl) ?_; apply Exists.intro; apply And.intro; (case left => (go_simp; try with_reducible rfl)); (try simp only [Act.put, List.setIfInBounds_toArray, List.set_cons_zero, List.set_cons_succ]))
    (refine L_call (by kernel_rfl) ?_; apply Exists.intro; apply Exists.intro; apply And.intro; (case left => (go_simp; first | (refine ⟨?_, ?_⟩ <;> with_reducible rfl) | rfl)))
    refine (within_any _ _ _ _).mono ?_
    rintro e w' ⟨rfl, rfl⟩
    rw [HV3.out]
    refine ⟨_, rfl, ?_⟩
    (try simp only [Act.put, List.setIfInBounds_toArray, List.set_cons_zero, List.set_cons_succ])
    iterate 5 (refine L_pure (by kernel_rfl) ?_; apply Exists.intro; apply And.intro; (case left => (go_simp; try with_reducible rfl)); (try simp only [Act.put, List.setIfInBounds_toArray, List.set_cons_zero, List.set_cons_succ]))
    (refine L_call (by kernel_rfl) ?_; apply Exists.intro; apply Exists.intro; apply And.intro; (case left => (go_simp; first | (refine ⟨?_, ?_⟩ <;> with_reducible rfl) | rfl)))
    refine (within_any _ _ _ _).mono ?_
    rintro e w' ⟨rfl, rfl⟩
    rw [HV4.out]
    refine ⟨_, rfl, ?_⟩
    (try simp only [Act.put, List.setIfInBounds_toArray, List.set_cons_zero, List.set_cons_succ])
    iterate 9 (refine L_pure (by kernel_rfl) ?_; apply Exists.intro; apply And.intro; (case left => (go_simp; try with_reducible rfl)); (try simp only [Act.put, List.setIfInBounds_toArray, List.set_cons_zero, List.set_cons_succ]))
    (refine L_call (by kernel_rfl) ?_; apply Exists.intro; apply Exists.intro; apply And.intro; (case left => (go_simp; first | (refine ⟨?_, ?_⟩ <;> with_reducible rfl) | rfl)))
    refine (within_any _ _ _ _).mono ?_
    rintro e w' ⟨rfl, rfl⟩
    rw [HV5.out]
    refine ⟨_, rfl, ?_⟩
    (try simp only [Act.put, List.setIfInBounds_toArray, List.set_cons_zero, List.set_cons_succ])
    iterate 3 (refine L_pure (by kernel_rfl) ?_; apply Exists.intro; apply And.intro; (case left => (go_simp; try with_reducible rfl)); (try simp only [Act.put, List.setIfInBounds_toArray, List.set_cons_zero, List.set_cons_succ]))
    iterate 4 (refine L_off (by kernel_rfl) ?_; (try simp only [Act.put, List.setIfInBounds_toArray, List.set_cons_zero, List.set_cons_succ]))
    iterate 2 (refine L_pure (by kernel_rfl) ?_; apply Exists.intro; apply And.intro; (case left => (go_simp; try with_reducible rfl)); (try simp only [Act.put, List.setIfInBounds_toArray, List.set_cons_zero, List.set_cons_succ]))
    iterate 8 (refine L_off (by kernel_rfl) ?_; (try simp only [Act.put, List.setIfInBounds_toArray, List.set_cons_zero, List.set_cons_succ]))
    iterate 2 (refine L_pure (by kernel_rfl) ?_; apply Exists.intro; apply And.intro; (case left => (go_simp; try with_reducible rfl)); (try simp only [Act.put, List.setIfInBounds_toArray, List.set_cons_zero, List.set_cons_succ]))
    refine L_nil ?_
    try dsimp only
    go_wp2_with fail
    go_ret
    exact ⟨by rw [HR.out]; first | rfl | simp, HBL.out⟩
  cases v6
  · have HR := Lib.hid (show roadB b t = false by rw [HT.out]; simp)
    go_upto_region 1 with fail
    rw [← HW1.out]
    skip
    refine wp_region_L ?_
    iterate 6 (refine L_pure (by kernel_rfl) ?_; apply Exists.intro; apply And.intro; (case left => (go_simp; try with_reducible rfl)); (try simp only [Act.put, List.setIfInBounds_toArray, List.set_cons_zero, List.set_cons_succ]))
    (refine L_call (by kernel_rfl) ?_; apply Exists.intro; apply Exists.intro; apply And.intro; (case left => (go_simp; first | (refine ⟨?_, ?_⟩ <;> with_reducible rfl) | rfl)))
    refine (within_any _ _ _ _).mono ?_
    rintro e w' ⟨rfl, rfl⟩
    rw [HV0.out]
    refine ⟨_, rfl, ?_⟩
    (try simp only [Act.put, List.setIfInBounds_toArray, List.set_cons_zero, List.set_cons_succ])
    iterate 12 (refine L_pure (by kernel_rfl) ?_; apply Exists.intro; apply And.intro; (case left => (go_simp; try with_reducible rfl)); (try simp only [Act.put, List.setIfInBounds_toArray, List.set_cons_zero, List.set_cons_succ]))
    (refine L_call (by kernel_rfl) ?_; apply Exists.intro; apply Exists.intro; apply And.intro; (case left => (go_simp; first | (refine ⟨?_, ?_⟩ <;> with_reducible rfl) | rfl)))
    refine (within_any _ _ _ _).mono ?_
    rintro e w' ⟨rfl, rfl⟩
    rw [HV1.out]
    refine ⟨_, rfl, ?_⟩
    (try simp only [Act.put, List.setIfInBounds_toArray, List.set_cons_zero, List.set_cons_succ])
    iterate 12 (refine L_pure (by kernel_rfl) ?_; apply Exists.intro; apply And.intro; (case left => (go_simp; try with_reducible rfl)); (try simp only [Act.put, List.setIfInBounds_toArray, List.set_cons_zero, List.set_cons_succ]))
    (refine L_call (by kernel_rfl) ?_; apply Exists.intro; apply Exists.intro; apply And.intro; (case left => (go_simp; first | (refine ⟨?_, ?_⟩ <;> with_reducible rfl) | rfl)))
    refine (within_any _ _ _ _).mono ?_
    rintro e w' ⟨rfl, rfl⟩
    rw [HV3.out]
    refine ⟨_, rfl, ?_⟩
    (try simp only [Act.put, List.setIfInBounds_toArray, List.set_cons_zero, List.set_cons_succ])
    iterate 5 (refine L_pure (by kernel_rfl) ?_; apply Exists.intro; apply And.intro; (case left => (go_simp; try with_reducible rfl)); (try simp only [Act.put, List.setIfInBounds_toArray, List.set_cons_zero, List.set_cons_succ]))
    (refine L_call (by kernel_rfl) ?_; apply Exists.intro; apply Exists.intro; apply And.intro; (case left => (go_simp; first | (refine ⟨?_, ?_⟩ <;> with_reducible rfl) | rfl)))
    refine (within_any _ _ _ _).mono ?_
    rintro e w' ⟨rfl, rfl⟩
    rw [HV4.out]
    refine ⟨_, rfl, ?_⟩
    (try simp only [Act.put, List.setIfInBounds_toArray, List.set_cons_zero, List.set_cons_succ])
    iterate 9 (refine L_pure (by kernel_rfl) ?_; apply Exists.intro; apply And.intro; (case left => (go_simp; try with_reducible rfl)); (try simp only [Act.put, List.setIfInBounds_toArray, List.set_cons_zero, List.set_cons_succ]))
    (refine L_call (by kernel_rfl) ?_; apply Exists.intro; apply Exists.intro; apply And.intro; (case left => (go_simp; first | (refine ⟨?_, ?_⟩ <;> with_reducible rfl) | rfl)))
    refine (within_any _ _ _ _).mono ?_
    rintro e w' ⟨rfl, rfl⟩
    rw [HV5.out]
    refine ⟨_, rfl, ?_⟩
    (try simp only [Act.put, List.setIfInBounds_toArray, List.set_cons_zero, List.set_cons_succ])
    iterate 5 (refine L_pure (by kernel_rfl) ?_; apply Exists.intro; apply And.intro; (case left => (go_simp; try with_reducible rfl)); (try simp only [Act.put, List.setIfInBounds_toArray, List.set_cons_zero, List.set_cons_succ]))
    (refine L_call (by kernel_rfl) ?_; apply Exists.intro; apply Exists.intro; apply And.intro; (case left => (go_simp; first | (refine ⟨?_, ?_⟩ <;> with_reducible rfl) | rfl)))
    refine (volume_any _ _).mono ?_
    rintro e w' ⟨rfl, rfl⟩
    rw [HV6.out]
    refine ⟨_, rfl, ?_⟩
    (try simp only [Act.put, List.setIfInBounds_toArray, List.set_cons_zero, List.set_cons_succ])
    iterate 3 (refine L_pure (by kernel_rfl) ?_; apply Exists.intro; apply And.intro; (case left => (go_simp; try with_reducible rfl)); (try simp only [Act.put, List.setIfInBounds_toArray, List.set_cons_zero, List.set_cons_succ]))
    iterate 8 (refine L_off (by kernel_rfl) ?_; (try simp only [Act.put, List.setIfInBounds_toArray, List.set_cons_zero, List.set_cons_succ]))
    iterate 2 (refine L_pure (by kernel_rfl) ?_; apply Exists.intro; apply And.intro; (case left => (go_simp; try with_reducible rfl)); (try simp only [Act.put, List.setIfInBounds_toArray, List.set_cons_zero, List.set_cons_succ]))
    refine L_nil ?_
    try dsimp only
    go_wp2_with fail
    go_ret
    exact ⟨by rw [HR.out]; first | rfl | simp, HBL.out⟩
  cases hby : (t.byp == -1) with
  | false =>
    have HR := Lib.hid (show roadB b t = true by rw [HT.out, ← HV7.out, hby]; rfl)
    go_upto_region 1 with fail
    rw [← HW1.out]
    skip
    refine wp_region_L ?_
    iterate 6 (refine L_pure (by kernel_rfl) ?_; apply Exists.intro; apply And.intro; (case left => (go_simp; try with_reducible rfl)); (try simp only [Act.put, List.setIfInBounds_toArray, List.set_cons_zero, List.set_cons_succ]))
    (refine L_call (by kernel_rfl) ?_; apply Exists.intro; apply Exists.intro; apply And.intro; (case left => (go_simp; first | (refine ⟨?_, ?_⟩ <;> with_reducible rfl) | rfl)))
    refine (within_any _ _ _ _).mono ?_
    rintro e w' ⟨rfl, rfl⟩
    rw [HV0.out]
    refine ⟨_, rfl, ?_⟩
    (try simp only [Act.put, List.setIfInBounds_toArray, List.set_cons_zero, List.set_cons_succ])
    iterate 12 (refine L_pure (by kernel_rfl) ?_; apply Exists.intro; apply And.intro; (case left => (go_simp; try with_reducible rfl)); (try simp only [Act.put, List.setIfInBounds_toArray, List.set_cons_zero, List.set_cons_succ]))
    (refine L_call (by kernel_rfl) ?_; apply Exists.intro; apply Exists.intro; apply And.intro; (case left => (go_simp; first | (refine ⟨?_, ?_⟩ <;> with_reducible rfl) | rfl)))
    refine (within_any _ _ _ _).mono ?_
    rintro e w' ⟨rfl, rfl⟩
    rw [HV1.out]
    refine ⟨_, rfl, ?_⟩
    (try simp only [Act.put, List.setIfInBounds_toArray, List.set_cons_zero, List.set_cons_succ])
    iterate 12 (refine L_pure (by kernel_rfl) ?_; apply Exists.intro; apply And.intro; (case left => (go_simp; try with_reducible rfl)); (try simp only [Act.put, List.setIfInBounds_toArray, List.set_cons_zero, List.set_cons_succ]))
    (refine L_call (by kernel_rfl) ?_; apply Exists.intro; apply Exists.intro; apply And.intro; (case left => (go_simp; first | (refine ⟨?_, ?_⟩ <;> with_reducible rfl) | rfl)))
    refine (within_any _ _ _ _).mono ?_
    rintro e w' ⟨rfl, rfl⟩
    rw [HV3.out]
    refine ⟨_, rfl, ?_⟩
    (try simp only [Act.put, List.setIfInBounds_toArray, List.set_cons_zero, List.set_cons_succ])
    iterate 5 (refine L_pure (by kernel_rfl) ?_; apply Exists.intro; apply And.intro; (case left => (go_simp; try with_reducible rfl)); (try simp only [Act.put, List.setIfInBounds_toArray, List.set_cons_zero, List.set_cons_succ]))
    (refine L_call (by kernel_rfl) ?_; apply Exists.intro; apply Exists.intro; apply And.intro; (case left => (go_simp; first | (refine ⟨?_, ?_⟩ <;> with_reducible rfl) | rfl)))
    refine (within_any _ _ _ _).mono ?_
    rintro e w' ⟨rfl, rfl⟩
    rw [HV4.out]
    refine ⟨_, rfl, ?_⟩
    (try simp only [Act.put, List.setIfInBounds_toArray, List.set_cons_zero, List.set_cons_succ])
    iterate 9 (refine L_pure (by kernel_rfl) ?_; apply Exists.intro; apply And.intro; (case left => (go_simp; try with_reducible rfl)); (try simp only [Act.put, List.setIfInBounds_toArray, List.set_cons_zero, List.set_cons_succ]))
    (refine L_call (by kernel_rfl) ?_; apply Exists.intro; apply Exists.intro; apply And.intro; (case left => (go_simp; first | (refine ⟨?_, ?_⟩ <;> with_reducible rfl) | rfl)))
    refine (within_any _ _ _ _).mono ?_
    rintro e w' ⟨rfl, rfl⟩
    rw [HV5.out]
    refine ⟨_, rfl, ?_⟩
    (try simp only [Act.put, List.setIfInBounds_toArray, List.set_cons_zero, List.set_cons_succ])
    iterate 5 (refine L_pure (by kernel_rfl) ?_; apply Exists.intro; apply And.intro; (case left => (go_simp; try with_reducible rfl)); (try simp only [Act.put, List.setIfInBounds_toArray, List.set_cons_zero, List.set_cons_succ]))
    (refine L_call (by kernel_rfl) ?_; apply Exists.intro; apply Exists.intro; apply And.intro; (case left => (go_simp; first | (refine ⟨?_, ?_⟩ <;> with_reducible rfl) | rfl)))
    refine (volume_any _ _).mono ?_
    rintro e w' ⟨rfl, rfl⟩
    rw [HV6.out]
    refine ⟨_, rfl, ?_⟩
    (try simp only [Act.put, List.setIfInBounds_toArray, List.set_cons_zero, List.set_cons_succ])
    iterate 7 (refine L_pure (by kernel_rfl) ?_; apply Exists.intro; apply And.intro; (case left => (go_simp; try with_reducible rfl)); (try simp only [Act.put, List.setIfInBounds_toArray, List.set_cons_zero, List.set_cons_succ]))
    iterate 3 (refine L_off (by kernel_rfl) ?_; (try simp only [Act.put, List.setIfInBounds_toArray, List.set_cons_zero, List.set_cons_succ]))
    iterate 3 (refine L_pure (by kernel_rfl) ?_; apply Exists.intro; apply And.intro; (case left => (go_simp; try with_reducible rfl)); (try simp only [Act.put, List.setIfInBounds_toArray, List.set_cons_zero, List.set_cons_succ]))
    refine L_nil ?_
    try dsimp only
    go_wp2_with fail
    go_ret
    exact ⟨by rw [HR.out]; first | rfl | simp, HBL.out⟩
  | true =>
    cases hli : (t.limit == 0) with
    | false =>
      have HR := Lib.hid (show roadB b t = false by rw [HT.out, ← HV7.out, hby, hli]; rfl)
      have hne : (t.limit != 0) = true := by simp [bne, hli]
      go_upto_region 1 with fail
      rw [← HW1.out]
      skip
      refine wp_region_L ?_
      iterate 6 (refine L_pure (by kernel_rfl) ?_; apply Exists.intro; apply And.intro; (case left => (go_simp; try with_reducible rfl)); (try simp only [Act.put, List.setIfInBounds_toArray, List.set_cons_zero, List.set_cons_succ]))
      (refine L_call (by kernel_rfl) ?_; apply Exists.intro; apply Exists.intro; apply And.intro; (case left => (go_simp; first | (refine ⟨?_, ?_⟩ <;> with_reducible rfl) | rfl)))
      refine (within_any _ _ _ _).mono ?_
      rintro e w' ⟨rfl, rfl⟩
      rw [HV0.out]
      refine ⟨_, rfl, ?_⟩
      (try simp only [Act.put, List.setIfInBounds_toArray, List.set_cons_zero, List.set_cons_succ])
      iterate 12 (refine L_pure (by kernel_rfl) ?_; apply Exists.intro; apply And.intro; (case left => (go_simp; try with_reducible rfl)); (try simp only [Act.put, List.setIfInBounds_toArray, List.set_cons_zero, List.set_cons_succ]))
      (refine L_call (by kernel_rfl) ?_; apply Exists.intro; apply Exists.intro; apply And.intro; (case left => (go_simp; first | (refine ⟨?_, ?_⟩ <;> with_reducible rfl) | rfl)))
      refine (within_any _ _ _ _).mono ?_
      rintro e w' ⟨rfl, rfl⟩
      rw [HV1.out]
      refine ⟨_, rfl, ?_⟩
      (try simp only [Act.put, List.setIfInBounds_toArray, List.set_cons_zero, List.set_cons_succ])
      iterate 12 (refine L_pure (by kernel_rfl) ?_; apply Exists.intro; apply And.intro; (case left => (go_simp; try with_reducible rfl)); (try simp only [Act.put, List.setIfInBounds_toArray, List.set_cons_zero, List.set_cons_succ]))
      (refine L_call (by kernel_rfl) ?_; apply Exists.intro; apply Exists.intro; apply And.intro; (case left => (go_simp; first | (refine ⟨?_, ?_⟩ <;> with_reducible rfl) | rfl)))
      refine (within_any _ _ _ _).mono ?_
      rintro e w' ⟨rfl, rfl⟩
      rw [HV3.out]
      refine ⟨_, rfl, ?_⟩
      (try simp only [Act.put, List.setIfInBounds_toArray, List.set_cons_zero, List.set_cons_succ])
      iterate 5 (refine L_pure (by kernel_rfl) ?_; apply Exists.intro; apply And.intro; (case left => (go_simp; try with_reducible rfl)); (try simp only [Act.put, List.setIfInBounds_toArray, List.set_cons_zero, List.set_cons_succ]))
      (refine L_call (by kernel_rfl) ?_; apply Exists.intro; apply Exists.intro; apply And.intro; (case left => (go_simp; first | (refine ⟨?_, ?_⟩ <;> with_reducible rfl) | rfl)))
      refine (within_any _ _ _ _).mono ?_
      rintro e w' ⟨rfl, rfl⟩
      rw [HV4.out]
      refine ⟨_, rfl, ?_⟩
      (try simp only [Act.put, List.setIfInBounds_toArray, List.set_cons_zero, List.set_cons_succ])
      iterate 9 (refine L_pure (by kernel_rfl) ?_; apply Exists.intro; apply And.intro; (case left => (go_simp; try with_reducible rfl)); (try simp only [Act.put, List.setIfInBounds_toArray, List.set_cons_zero, List.set_cons_succ]))
      (refine L_call (by kernel_rfl) ?_; apply Exists.intro; apply Exists.intro; apply And.intro; (case left => (go_simp; first | (refine ⟨?_, ?_⟩ <;> with_reducible rfl) | rfl)))
      refine (within_any _ _ _ _).mono ?_
      rintro e w' ⟨rfl, rfl⟩
      rw [HV5.out]
      refine ⟨_, rfl, ?_⟩
      (try simp only [Act.put, List.setIfInBounds_toArray, List.set_cons_zero, List.set_cons_succ])
      iterate 5 (refine L_pure (by kernel_rfl) ?_; apply Exists.intro; apply And.intro; (case left => (go_simp; try with_reducible rfl)); (try simp only [Act.put, List.setIfInBounds_toArray, List.set_cons_zero, List.set_cons_succ]))
      (refine L_call (by kernel_rfl) ?_; apply Exists.intro; apply Exists.intro; apply And.intro; (case left => (go_simp; first | (refine ⟨?_, ?_⟩ <;> with_reducible rfl) | rfl)))
      refine (volume_any _ _).mono ?_
      rintro e w' ⟨rfl, rfl⟩
      rw [HV6.out]
      refine ⟨_, rfl, ?_⟩
      (try simp only [Act.put, List.setIfInBounds_toArray, List.set_cons_zero, List.set_cons_succ])
      iterate 13 (refine L_pure (by kernel_rfl) ?_; apply Exists.intro; apply And.intro; (case left => (go_simp; try with_reducible rfl)); (try simp only [Act.put, List.setIfInBounds_toArray, List.set_cons_zero, List.set_cons_succ]))
      refine L_nil ?_
      try dsimp only
      go_wp2_with fail
      go_ret
      exact ⟨by rw [HR.out]; first | rfl | simp, HBL.out⟩
    | true =>
      have HR := Lib.hid (show roadB b t = true by rw [HT.out, ← HV7.out, hby, hli]; rfl)
      have hne : (t.limit != 0) = false := by simp [bne, hli]
      go_upto_region 1 with fail
      rw [← HW1.out]
      skip
      refine wp_region_L ?_
      iterate 6 (refine L_pure (by kernel_rfl) ?_; apply Exists.intro; apply And.intro; (case left => (go_simp; try with_reducible rfl)); (try simp only [Act.put, List.setIfInBounds_toArray, List.set_cons_zero, List.set_cons_succ]))
      (refine L_call (by kernel_rfl) ?_; apply Exists.intro; apply Exists.intro; apply And.intro; (case left => (go_simp; first | (refine ⟨?_, ?_⟩ <;> with_reducible rfl) | rfl)))
      refine (within_any _ _ _ _).mono ?_
      rintro e w' ⟨rfl, rfl⟩
      rw [HV0.out]
      refine ⟨_, rfl, ?_⟩
      (try simp only [Act.put, List.setIfInBounds_toArray, List.set_cons_zero, List.set_cons_succ])
      iterate 12 (refine L_pure (by kernel_rfl) ?_; apply Exists.intro; apply And.intro; (case left => (go_simp; try with_reducible rfl)); (try simp only [Act.put, List.setIfInBounds_toArray, List.set_cons_zero, List.set_cons_succ]))
      (refine L_call (by kernel_rfl) ?_; apply Exists.intro; apply Exists.intro; apply And.intro; (case left => (go_simp; first | (refine ⟨?_, ?_⟩ <;> with_reducible rfl) | rfl)))
      refine (within_any _ _ _ _).mono ?_
      rintro e w' ⟨rfl, rfl⟩
      rw [HV1.out]
      refine ⟨_, rfl, ?_⟩
      (try simp only [Act.put, List.setIfInBounds_toArray, List.set_cons_zero, List.set_cons_succ])
      iterate 12 (refine L_pure (by kernel_rfl) ?_; apply Exists.intro; apply And.intro; (case left => (go_simp; try with_reducible rfl)); (try simp only [Act.put, List.setIfInBounds_toArray, List.set_cons_zero, List.set_cons_succ]))
      (refine L_call (by kernel_rfl) ?_; apply Exists.intro; apply Exists.intro; apply And.intro; (case left => (go_simp; first | (refine ⟨?_, ?_⟩ <;> with_reducible rfl) | rfl)))
      refine (within_any _ _ _ _).mono ?_
      rintro e w' ⟨rfl, rfl⟩
      rw [HV3.out]
      refine ⟨_, rfl, ?_⟩
      (try simp only [Act.put, List.setIfInBounds_toArray, List.set_cons_zero, List.set_cons_succ])
      iterate 5 (refine L_pure (by kernel_rfl) ?_; apply Exists.intro; apply And.intro; (case left => (go_simp; try with_reducible rfl)); (try simp only [Act.put, List.setIfInBounds_toArray, List.set_cons_zero, List.set_cons_succ]))
      (refine L_call (by kernel_rfl) ?_; apply Exists.intro; apply Exists.intro; apply And.intro; (case left => (go_simp; first | (refine ⟨?_, ?_⟩ <;> with_reducible rfl) | rfl)))
      refine (within_any _ _ _ _).mono ?_
      rintro e w' ⟨rfl, rfl⟩
      rw [HV4.out]
      refine ⟨_, rfl, ?_⟩
      (try simp only [Act.put, List.setIfInBounds_toArray, List.set_cons_zero, List.set_cons_succ])
      iterate 9 (refine L_pure (by kernel_rfl) ?_; apply Exists.intro; apply And.intro; (case left => (go_simp; try with_reducible rfl)); (try simp only [Act.put, List.setIfInBounds_toArray, List.set_cons_zero, List.set_cons_succ]))
      (refine L_call (by kernel_rfl) ?_; apply Exists.intro; apply Exists.intro; apply And.intro; (case left => (go_simp; first | (refine ⟨?_, ?_⟩ <;> with_reducible rfl) | rfl)))
      refine (within_any _ _ _ _).mono ?_
      rintro e w' ⟨rfl, rfl⟩
      rw [HV5.out]
      refine ⟨_, rfl, ?_⟩
      (try simp only [Act.put, List.setIfInBounds_toArray, List.set_cons_zero, List.set_cons_succ])
      iterate 5 (refine L_pure (by kernel_rfl) ?_; apply Exists.intro; apply And.intro; (case left => (go_simp; try with_reducible rfl)); (try simp only [Act.put, List.setIfInBounds_toArray, List.set_cons_zero, List.set_cons_succ]))
      (refine L_call (by kernel_rfl) ?_; apply Exists.intro; apply Exists.intro; apply And.intro; (case left => (go_simp; first | (refine ⟨?_, ?_⟩ <;> with_reducible rfl) | rfl)))
      refine (volume_any _ _).mono ?_
      rintro e w' ⟨rfl, rfl⟩
      rw [HV6.out]
      refine ⟨_, rfl, ?_⟩
      (try simp only [Act.put, List.setIfInBounds_toArray, List.set_cons_zero, List.set_cons_succ])
      iterate 13 (refine L_pure (by kernel_rfl) ?_; apply Exists.intro; apply And.intro; (case left => (go_simp; try with_reducible rfl)); (try simp only [Act.put, List.setIfInBounds_toArray, List.set_cons_zero, List.set_cons_succ]))
      refine L_nil ?_
      try dsimp only
      go_wp2_with fail
      go_ret
      exact ⟨by rw [HR.out]; first | rfl | simp, HBL.out⟩

set_option maxRecDepth 100000 in
set_option maxHeartbeats 1000000 in
theorem gaugeBad_any (b : Bas) (t : Gau) (tb : Nat) (W : World) (hlt : tb < W.heap.size) (hc : ∀ j, W.cell? ⟨tb, j, none⟩ = (#[.int .i64 (b.pl.n : Int), .int .i64 b.cells, .int .i64 (b.lk.n : Int)] : Array Value)[j]?) (hb : b.pl.n ≤ 64 ∧ b.lk.n ≤ 96 ∧ 0 ≤ b.cells ∧ b.cells ≤ 64) :
    Calls Try.prog 59 #[.agg #[.string t.nm, .int .i64 t.kind, .int .i64 t.target, .int .i64 t.err, .int .i64 t.drift], .pointer (some ⟨tb, 0, none⟩)] W fun e w' => e = .returned (.bool (!gaugeB b t)) ∧ Below W.heap.size W w' := by
  obtain ⟨W1, hW1⟩ : ∃ z, z = W.alloc (.cells #[.string t.nm, .int .i64 t.kind, .int .i64 t.target, .int .i64 t.err, .int .i64 t.drift] 44) := ⟨_, rfl⟩
  have hbl : Below W.heap.size W W1 := by rw [hW1]; exact (Below.refl _ _).alloc (Nat.le_refl _) _
  have HBL := Lib.hid hbl
  have HCT := Lib.hid (fun j => (show W1.cell? ⟨W.heap.size, j, none⟩ = (#[.string t.nm, .int .i64 t.kind, .int .i64 t.target, .int .i64 t.err, .int .i64 t.drift] : Array Value)[j]? by rw [hW1]; exact (Bk.new W _ _).cell j))
  have HCB := Lib.hid (fun j => (hbl.cell (p := ⟨tb, j, none⟩) hlt).trans (hc j))
  have HW1 := Lib.hid hW1
  have HT := Lib.hid (show gaugeB b t = (wthB t.kind 0 2 && (wthB t.target 0 (targetI b t.kind - 1) && (wthB t.err 0 1099511627776 && wthB t.drift 0 1440))) from rfl)
  obtain ⟨v0, hv0⟩ : ∃ z, wthB t.kind 0 2 = z := ⟨_, rfl⟩
  have HV0 := Lib.hid hv0
  rw [hv0] at HT
  clear hbl hW1 hc hv0 hlt
  go_enter Try.func59, Try.ntmps59
  go_upto_region 1 with fail
  rw [← HW1.out]
  have HSS := Lib.hid (show (∀ j, W1.drew.cell? ⟨W.heap.size, j, none⟩ = (#[.string t.nm, .int .i64 t.kind, .int .i64 t.target, .int .i64 t.err, .int .i64 t.drift] : Array Value)[j]?) ∧ Below W.heap.size W W1.drew from ⟨fun j => HCT.out j, HBL.out.drew⟩)
  cases v0
  · go_wp2_with fail
    refine wp_region_M [0, 1, 2, 3, 4, 5, 6, 7, 8, 9, 10, 11, 12, 13, 14, 15, 16, 17, 18, 19, 20, 21, 22, 23, 24, 25, 26, 27] [2] (fun W' => (∀ j, W'.cell? ⟨W.heap.size, j, none⟩ = (#[.string t.nm, .int .i64 t.kind, .int .i64 t.target, .int .i64 t.err, .int .i64 t.drift] : Array Value)[j]?) ∧ Below W.heap.size W W') (by kernel_rfl) (by kernel_rfl) HSS.out ?_
    iterate 2 (refine M_pure (by rfl) (by rfl) ?_; apply Exists.intro; apply And.intro; (case left => (intro w hSw; (try dsimp only at hSw); go_simp; try with_reducible rfl)); (try simp only [Act.put, List.setIfInBounds_toArray, List.set_cons_zero, List.set_cons_succ]))
    (refine M_call (by rfl) (by rfl) ?_; apply Exists.intro; apply Exists.intro; apply And.intro; (case left => (go_simp; first | (refine ⟨?_, ?_⟩ <;> with_reducible rfl) | rfl)))
    refine (within_any _ _ _ _).mono ?_
    rintro e W' ⟨rfl, rfl⟩
    rw [HV0.out]
    refine ⟨_, rfl, HSS.out, ?_⟩
    (try simp only [Act.put, List.setIfInBounds_toArray, List.set_cons_zero, List.set_cons_succ])
    iterate 2 (refine M_pure (by rfl) (by rfl) ?_; apply Exists.intro; apply And.intro; (case left => (intro w hSw; (try dsimp only at hSw); go_simp; try with_reducible rfl)); (try simp only [Act.put, List.setIfInBounds_toArray, List.set_cons_zero, List.set_cons_succ]))
    iterate 9 (refine M_off (by rfl) (by rfl) ?_; (try simp only [Act.put, List.setIfInBounds_toArray, List.set_cons_zero, List.set_cons_succ]))
    iterate 2 (refine M_pure (by rfl) (by rfl) ?_; apply Exists.intro; apply And.intro; (case left => (intro w hSw; (try dsimp only at hSw); go_simp; try with_reducible rfl)); (try simp only [Act.put, List.setIfInBounds_toArray, List.set_cons_zero, List.set_cons_succ]))
    iterate 4 (refine M_off (by rfl) (by rfl) ?_; (try simp only [Act.put, List.setIfInBounds_toArray, List.set_cons_zero, List.set_cons_succ]))
    iterate 2 (refine M_pure (by rfl) (by rfl) ?_; apply Exists.intro; apply And.intro; (case left => (intro w hSw; (try dsimp only at hSw); go_simp; try with_reducible rfl)); (try simp only [Act.put, List.setIfInBounds_toArray, List.set_cons_zero, List.set_cons_succ]))
    iterate 4 (refine M_off (by rfl) (by rfl) ?_; (try simp only [Act.put, List.setIfInBounds_toArray, List.set_cons_zero, List.set_cons_succ]))
    iterate 2 (refine M_pure (by rfl) (by rfl) ?_; apply Exists.intro; apply And.intro; (case left => (intro w hSw; (try dsimp only at hSw); go_simp; try with_reducible rfl)); (try simp only [Act.put, List.setIfInBounds_toArray, List.set_cons_zero, List.set_cons_succ]))
    refine M_nil ?_
    try dsimp only
    go_wp2_with fail
    go_ret
    exact ⟨by rw [HT.out]; simp, HBL.out.drew⟩
  · have hv := wthB_true HV0.out
    obtain ⟨k, hk⟩ : ∃ k : Nat, t.kind = (k : Int) := ⟨t.kind.toNat, by omega⟩
    have hk3 : (k : Int) < 3 := by omega
    have hk0 : (0 : Int) ≤ (k : Int) := by omega
    have hkw : IntKind.i64.wrap (k : Int) = (k : Int) := i64_id k (by omega)
    obtain ⟨T, hT⟩ : ∃ z, targetI b t.kind = z := ⟨_, rfl⟩
    have hTb : 0 ≤ T ∧ T ≤ 96 := by
      rw [← hT]
      unfold targetI
      split
      · omega
      · split <;> omega
    have hcT : W1.cell? ⟨tb, k, none⟩ = some (.int .i64 T) := by
      rw [HCB.out k, ← hT, hk]
      have : k = 0 ∨ k = 1 ∨ k = 2 := by omega
      rcases this with rfl | rfl | rfl <;> rfl
    have hw1 : IntKind.i64.wrap (T - 1) = T - 1 := by rw [IntKind.wrap_i64]; omega
    have HV0 := Lib.hid (show wthB (k : Int) 0 2 = true by rw [← hk]; exact HV0.out)
    have HSY := Lib.hid (show (∀ j, W1.drew.cell? ⟨W.heap.size, j, none⟩ = (#[.string t.nm, .int .i64 t.kind, .int .i64 t.target, .int .i64 t.err, .int .i64 t.drift] : Array Value)[j]?) ∧ W1.drew.cell? ⟨tb, k, none⟩ = some (.int .i64 T) ∧ Below W.heap.size W W1.drew from ⟨fun j => HCT.out j, hcT, HBL.out.drew⟩)
    rw [hT] at HT
    have hv1 : ∃ z, wthB t.target 0 (T - 1) = z := ⟨_, rfl⟩
    obtain ⟨v1, hv1⟩ := hv1
    obtain ⟨v2, hv2⟩ : ∃ z, wthB t.err 0 1099511627776 = z := ⟨_, rfl⟩
    obtain ⟨v3, hv3⟩ : ∃ z, wthB t.drift 0 1440 = z := ⟨_, rfl⟩
    rw [hv1, hv2, hv3] at HT
    have HV1 := Lib.hid hv1
    have HV2 := Lib.hid hv2
    have HV3 := Lib.hid hv3
    clear hv1 hv2 hv3 hT hTb hcT hv
    cases v1
    · go_wp2_with fail
      refine wp_region_M [0, 1, 2, 3, 4, 5, 6, 7, 8, 9, 10, 11, 12, 13, 14, 15, 16, 17, 18, 19, 20, 21, 22, 23, 24, 25, 26, 27] [2, 12] (fun W' => (∀ j, W'.cell? ⟨W.heap.size, j, none⟩ = (#[.string t.nm, .int .i64 t.kind, .int .i64 t.target, .int .i64 t.err, .int .i64 t.drift] : Array Value)[j]?) ∧ W'.cell? ⟨tb, k, none⟩ = some (.int .i64 T) ∧ Below W.heap.size W W') (by kernel_rfl) (by kernel_rfl) HSY.out ?_
      iterate 2 (refine M_pure (by rfl) (by rfl) ?_; apply Exists.intro; apply And.intro; (case left => (intro w hSw; (try dsimp only at hSw); go_simp; try with_reducible rfl)); (try simp only [Act.put, List.setIfInBounds_toArray, List.set_cons_zero, List.set_cons_succ]))
      (refine M_call (by rfl) (by rfl) ?_; apply Exists.intro; apply Exists.intro; apply And.intro; (case left => (go_simp; first | (refine ⟨?_, ?_⟩ <;> with_reducible rfl) | rfl)))
      refine (within_any _ _ _ _).mono ?_
      rintro e W' ⟨rfl, rfl⟩
      rw [HV0.out]
      refine ⟨_, rfl, HSY.out, ?_⟩
      (try simp only [Act.put, List.setIfInBounds_toArray, List.set_cons_zero, List.set_cons_succ])
      iterate 9 (refine M_pure (by rfl) (by rfl) ?_; apply Exists.intro; apply And.intro; (case left => (intro w hSw; (try dsimp only at hSw); go_simp; try with_reducible rfl)); (try simp only [Act.put, List.setIfInBounds_toArray, List.set_cons_zero, List.set_cons_succ]))
      (refine M_call (by rfl) (by rfl) ?_; apply Exists.intro; apply Exists.intro; apply And.intro; (case left => (go_simp; first | (refine ⟨?_, ?_⟩ <;> with_reducible rfl) | rfl)))
      refine (within_any _ _ _ _).mono ?_
      rintro e W' ⟨rfl, rfl⟩
      rw [HV1.out]
      refine ⟨_, rfl, HSY.out, ?_⟩
      (try simp only [Act.put, List.setIfInBounds_toArray, List.set_cons_zero, List.set_cons_succ])
      iterate 3 (refine M_pure (by rfl) (by rfl) ?_; apply Exists.intro; apply And.intro; (case left => (intro w hSw; (try dsimp only at hSw); go_simp; try with_reducible rfl)); (try simp only [Act.put, List.setIfInBounds_toArray, List.set_cons_zero, List.set_cons_succ]))
      iterate 4 (refine M_off (by rfl) (by rfl) ?_; (try simp only [Act.put, List.setIfInBounds_toArray, List.set_cons_zero, List.set_cons_succ]))
      iterate 2 (refine M_pure (by rfl) (by rfl) ?_; apply Exists.intro; apply And.intro; (case left => (intro w hSw; (try dsimp only at hSw); go_simp; try with_reducible rfl)); (try simp only [Act.put, List.setIfInBounds_toArray, List.set_cons_zero, List.set_cons_succ]))
      iterate 4 (refine M_off (by rfl) (by rfl) ?_; (try simp only [Act.put, List.setIfInBounds_toArray, List.set_cons_zero, List.set_cons_succ]))
      iterate 2 (refine M_pure (by rfl) (by rfl) ?_; apply Exists.intro; apply And.intro; (case left => (intro w hSw; (try dsimp only at hSw); go_simp; try with_reducible rfl)); (try simp only [Act.put, List.setIfInBounds_toArray, List.set_cons_zero, List.set_cons_succ]))
      refine M_nil ?_
      try dsimp only
      go_wp2_with fail
      go_ret
      exact ⟨by rw [HT.out]; simp, HBL.out.drew⟩
    cases v2
    · go_wp2_with fail
      refine wp_region_M [0, 1, 2, 3, 4, 5, 6, 7, 8, 9, 10, 11, 12, 13, 14, 15, 16, 17, 18, 19, 20, 21, 22, 23, 24, 25, 26, 27] [2, 12, 18] (fun W' => (∀ j, W'.cell? ⟨W.heap.size, j, none⟩ = (#[.string t.nm, .int .i64 t.kind, .int .i64 t.target, .int .i64 t.err, .int .i64 t.drift] : Array Value)[j]?) ∧ W'.cell? ⟨tb, k, none⟩ = some (.int .i64 T) ∧ Below W.heap.size W W') (by kernel_rfl) (by kernel_rfl) HSY.out ?_
      iterate 2 (refine M_pure (by rfl) (by rfl) ?_; apply Exists.intro; apply And.intro; (case left => (intro w hSw; (try dsimp only at hSw); go_simp; try with_reducible rfl)); (try simp only [Act.put, List.setIfInBounds_toArray, List.set_cons_zero, List.set_cons_succ]))
      (refine M_call (by rfl) (by rfl) ?_; apply Exists.intro; apply Exists.intro; apply And.intro; (case left => (go_simp; first | (refine ⟨?_, ?_⟩ <;> with_reducible rfl) | rfl)))
      refine (within_any _ _ _ _).mono ?_
      rintro e W' ⟨rfl, rfl⟩
      rw [HV0.out]
      refine ⟨_, rfl, HSY.out, ?_⟩
      (try simp only [Act.put, List.setIfInBounds_toArray, List.set_cons_zero, List.set_cons_succ])
      iterate 9 (refine M_pure (by rfl) (by rfl) ?_; apply Exists.intro; apply And.intro; (case left => (intro w hSw; (try dsimp only at hSw); go_simp; try with_reducible rfl)); (try simp only [Act.put, List.setIfInBounds_toArray, List.set_cons_zero, List.set_cons_succ]))
      (refine M_call (by rfl) (by rfl) ?_; apply Exists.intro; apply Exists.intro; apply And.intro; (case left => (go_simp; first | (refine ⟨?_, ?_⟩ <;> with_reducible rfl) | rfl)))
      refine (within_any _ _ _ _).mono ?_
      rintro e W' ⟨rfl, rfl⟩
      rw [HV1.out]
      refine ⟨_, rfl, HSY.out, ?_⟩
      (try simp only [Act.put, List.setIfInBounds_toArray, List.set_cons_zero, List.set_cons_succ])
      iterate 5 (refine M_pure (by rfl) (by rfl) ?_; apply Exists.intro; apply And.intro; (case left => (intro w hSw; (try dsimp only at hSw); go_simp; try with_reducible rfl)); (try simp only [Act.put, List.setIfInBounds_toArray, List.set_cons_zero, List.set_cons_succ]))
      (refine M_call (by rfl) (by rfl) ?_; apply Exists.intro; apply Exists.intro; apply And.intro; (case left => (go_simp; first | (refine ⟨?_, ?_⟩ <;> with_reducible rfl) | rfl)))
      refine (within_any _ _ _ _).mono ?_
      rintro e W' ⟨rfl, rfl⟩
      rw [HV2.out]
      refine ⟨_, rfl, HSY.out, ?_⟩
      (try simp only [Act.put, List.setIfInBounds_toArray, List.set_cons_zero, List.set_cons_succ])
      iterate 3 (refine M_pure (by rfl) (by rfl) ?_; apply Exists.intro; apply And.intro; (case left => (intro w hSw; (try dsimp only at hSw); go_simp; try with_reducible rfl)); (try simp only [Act.put, List.setIfInBounds_toArray, List.set_cons_zero, List.set_cons_succ]))
      iterate 4 (refine M_off (by rfl) (by rfl) ?_; (try simp only [Act.put, List.setIfInBounds_toArray, List.set_cons_zero, List.set_cons_succ]))
      iterate 2 (refine M_pure (by rfl) (by rfl) ?_; apply Exists.intro; apply And.intro; (case left => (intro w hSw; (try dsimp only at hSw); go_simp; try with_reducible rfl)); (try simp only [Act.put, List.setIfInBounds_toArray, List.set_cons_zero, List.set_cons_succ]))
      refine M_nil ?_
      try dsimp only
      go_wp2_with fail
      go_ret
      exact ⟨by rw [HT.out]; simp, HBL.out.drew⟩
    go_wp2_with fail
    refine wp_region_M [0, 1, 2, 3, 4, 5, 6, 7, 8, 9, 10, 11, 12, 13, 14, 15, 16, 17, 18, 19, 20, 21, 22, 23, 24, 25, 26, 27] [2, 12, 18, 24] (fun W' => (∀ j, W'.cell? ⟨W.heap.size, j, none⟩ = (#[.string t.nm, .int .i64 t.kind, .int .i64 t.target, .int .i64 t.err, .int .i64 t.drift] : Array Value)[j]?) ∧ W'.cell? ⟨tb, k, none⟩ = some (.int .i64 T) ∧ Below W.heap.size W W') (by kernel_rfl) (by kernel_rfl) HSY.out ?_
    iterate 2 (refine M_pure (by rfl) (by rfl) ?_; apply Exists.intro; apply And.intro; (case left => (intro w hSw; (try dsimp only at hSw); go_simp; try with_reducible rfl)); (try simp only [Act.put, List.setIfInBounds_toArray, List.set_cons_zero, List.set_cons_succ]))
    (refine M_call (by rfl) (by rfl) ?_; apply Exists.intro; apply Exists.intro; apply And.intro; (case left => (go_simp; first | (refine ⟨?_, ?_⟩ <;> with_reducible rfl) | rfl)))
    refine (within_any _ _ _ _).mono ?_
    rintro e W' ⟨rfl, rfl⟩
    rw [HV0.out]
    refine ⟨_, rfl, HSY.out, ?_⟩
    (try simp only [Act.put, List.setIfInBounds_toArray, List.set_cons_zero, List.set_cons_succ])
    iterate 9 (refine M_pure (by rfl) (by rfl) ?_; apply Exists.intro; apply And.intro; (case left => (intro w hSw; (try dsimp only at hSw); go_simp; try with_reducible rfl)); (try simp only [Act.put, List.setIfInBounds_toArray, List.set_cons_zero, List.set_cons_succ]))
    (refine M_call (by rfl) (by rfl) ?_; apply Exists.intro; apply Exists.intro; apply And.intro; (case left => (go_simp; first | (refine ⟨?_, ?_⟩ <;> with_reducible rfl) | rfl)))
    refine (within_any _ _ _ _).mono ?_
    rintro e W' ⟨rfl, rfl⟩
    rw [HV1.out]
    refine ⟨_, rfl, HSY.out, ?_⟩
    (try simp only [Act.put, List.setIfInBounds_toArray, List.set_cons_zero, List.set_cons_succ])
    iterate 5 (refine M_pure (by rfl) (by rfl) ?_; apply Exists.intro; apply And.intro; (case left => (intro w hSw; (try dsimp only at hSw); go_simp; try with_reducible rfl)); (try simp only [Act.put, List.setIfInBounds_toArray, List.set_cons_zero, List.set_cons_succ]))
    (refine M_call (by rfl) (by rfl) ?_; apply Exists.intro; apply Exists.intro; apply And.intro; (case left => (go_simp; first | (refine ⟨?_, ?_⟩ <;> with_reducible rfl) | rfl)))
    refine (within_any _ _ _ _).mono ?_
    rintro e W' ⟨rfl, rfl⟩
    rw [HV2.out]
    refine ⟨_, rfl, HSY.out, ?_⟩
    (try simp only [Act.put, List.setIfInBounds_toArray, List.set_cons_zero, List.set_cons_succ])
    iterate 5 (refine M_pure (by rfl) (by rfl) ?_; apply Exists.intro; apply And.intro; (case left => (intro w hSw; (try dsimp only at hSw); go_simp; try with_reducible rfl)); (try simp only [Act.put, List.setIfInBounds_toArray, List.set_cons_zero, List.set_cons_succ]))
    (refine M_call (by rfl) (by rfl) ?_; apply Exists.intro; apply Exists.intro; apply And.intro; (case left => (go_simp; first | (refine ⟨?_, ?_⟩ <;> with_reducible rfl) | rfl)))
    refine (within_any _ _ _ _).mono ?_
    rintro e W' ⟨rfl, rfl⟩
    rw [HV3.out]
    refine ⟨_, rfl, HSY.out, ?_⟩
    (try simp only [Act.put, List.setIfInBounds_toArray, List.set_cons_zero, List.set_cons_succ])
    iterate 3 (refine M_pure (by rfl) (by rfl) ?_; apply Exists.intro; apply And.intro; (case left => (intro w hSw; (try dsimp only at hSw); go_simp; try with_reducible rfl)); (try simp only [Act.put, List.setIfInBounds_toArray, List.set_cons_zero, List.set_cons_succ]))
    refine M_nil ?_
    try dsimp only
    go_wp2_with fail
    go_ret
    exact ⟨by rw [HT.out]; simp, HBL.out.drew⟩

end Go.Proofs.Ytmkbojhnbkdalaa
