/- The walks of basin's small words: within, volume, fraction, reaches. -/
import Derived.Test.YtmkbojhnbkdalaaApi
import Derived.Outline
set_option linter.unusedSimpArgs false
set_option linter.unusedVariables false
namespace Go.Proofs.Ytmkbojhnbkdalaa
open Go.RowKit

theorem two_byte {n : Nat} (h : n ≤ maxLen) : (n : Int) ≤ 9223372036854775807 := by unfold maxLen at h; omega
def wthB (n lo hi : Int) : Bool := decide (lo ≤ n) && decide (n ≤ hi)
def maxVolI : Int := 1125899906842624
def volB (n : Int) : Bool := wthB n 0 maxVolI
def fracB (num den : Int) (missing : Bool) : Bool := volB num && volB den && (decide (0 < den) || (missing && decide (num = 0)))
theorem wthB_true {n lo hi : Int} (h : wthB n lo hi = true) : lo ≤ n ∧ n ≤ hi := by unfold wthB at h; simpa using h
theorem wthB_iff {n lo hi : Int} : wthB n lo hi = true ↔ lo ≤ n ∧ n ≤ hi := by unfold wthB; simp

set_option maxRecDepth 100000 in
theorem within_any (n lo hi : Int) (w : World) : Calls Try.prog 15 #[.int .i64 n, .int .i64 lo, .int .i64 hi] w fun e w' => e = .returned (.bool (wthB n lo hi)) ∧ w = w' := by
  have HW := Lib.hid (show wthB n lo hi = (decide (lo ≤ n) && decide (n ≤ hi)) from rfl)
  by_cases h : lo ≤ n
  · go_enter Try.func15, Try.ntmps15
    go_wp2
    go_ret
    exact ⟨by rw [HW.out, decide_eq_true h]; simp, rfl⟩
  · go_enter Try.func15, Try.ntmps15
    go_wp2
    go_ret
    exact ⟨by rw [HW.out, show decide (lo ≤ n) = false by simp; omega]; simp, rfl⟩
set_option maxRecDepth 100000 in
theorem volume_any (n : Int) (w : World) : Calls Try.prog 14 #[.int .i64 n] w fun e w' => e = .returned (.bool (volB n)) ∧ w = w' := by
  have HW := Lib.hid (show wthB n 0 1125899906842624 = volB n from rfl)
  go_enter Try.func14, Try.ntmps14
  go_wp2_with fail
  refine (within_any _ _ _ _).mono ?_
  rintro e w' ⟨rfl, rfl⟩
  rw [HW.out]
  go_wp2_with fail
  go_ret
  exact ⟨rfl, rfl⟩
set_option maxRecDepth 100000 in
theorem fraction_any (num den : Int) (missing : Bool) (w : World) : Calls Try.prog 46 #[.int .i64 num, .int .i64 den, .bool missing] w fun e w' => e = .returned (.bool (fracB num den missing)) ∧ w = w' := by
  have HW := Lib.hid (show fracB num den missing = (volB num && volB den && (decide (0 < den) || (missing && decide (num = 0)))) from rfl)
  obtain ⟨r, hr⟩ : ∃ r, r = fracB num den missing := ⟨_, rfl⟩
  rw [← hr] at HW ⊢
  obtain ⟨v1, hv1⟩ : ∃ r, r = volB num := ⟨_, rfl⟩
  obtain ⟨v2, hv2⟩ : ∃ r, r = volB den := ⟨_, rfl⟩
  have c1 := volume_any num w
  have c2 := volume_any den w
  rw [← hv1] at c1 HW
  rw [← hv2] at c2 HW
  have C1 := Lib.hid c1
  have C2 := Lib.hid c2
  clear hr hv1 hv2 c1 c2
  go_enter Try.func46, Try.ntmps46
  go_wp2_with fail
  refine C1.out.mono ?_
  rintro e w' ⟨rfl, rfl⟩
  cases v1
  · go_wp2
    go_ret
    exact ⟨by rw [HW.out]; rfl, rfl⟩
  go_wp2_with fail
  refine C2.out.mono ?_
  rintro e w' ⟨rfl, rfl⟩
  cases v2
  · go_wp2
    go_ret
    exact ⟨by rw [HW.out]; rfl, rfl⟩
  by_cases h1 : 0 < den
  · go_wp2
    go_ret
    exact ⟨by rw [HW.out]; simp [h1], rfl⟩
  cases missing
  · go_wp2
    go_ret
    exact ⟨by rw [HW.out]; simp [h1], rfl⟩
  by_cases h2 : num = 0
  · have h2' := Lib.hid h2
    subst h2
    go_wp2
    go_ret
    exact ⟨by rw [HW.out]; simp [h1], rfl⟩
  · have h3 : (num == 0) = false := by simpa using h2
    go_wp2
    go_ret
    exact ⟨by rw [HW.out]; simp [h1, h2], rfl⟩

/-- May the water of an office flow to a place? -/
def reachB (pl : List Plc) (office to : Int) : Bool := if to = -1 then (office == 2) else wthB to 0 ((pl.length : Int) - 1) && (match pl[to.toNat]? with | some p => wthB (wrap64 (p.office - office)) 0 1 | none => false)
set_option maxRecDepth 100000 in
set_option maxHeartbeats 400000 in
theorem reaches_any (b : Bas) (office to : Int) (w w0 : World) (B : Nat) (hM : SlR.Mem (Rw cPlc MPlc) 12 w0 B b.pl) (hw : Below B w0 w) (hB : B ≤ w.heap.size) : Calls Try.prog 47 #[.agg #[.string b.nm, .slice b.ow.a b.ow.n b.ow.c, .int .i64 b.cells, .slice b.pl.a b.pl.n b.pl.c, .slice b.lk.a b.lk.n b.lk.c, .slice b.tw.a b.tw.n b.tw.c, .slice b.gg.a b.gg.n b.gg.c, .slice b.rd.a b.rd.n b.rd.c, .slice b.sh.a b.sh.n b.sh.c, .slice b.room.a b.room.n b.room.c, .int .i64 b.err], .int .i64 office, .int .i64 to] w fun e w' => e = .returned (.bool (reachB b.pl.l office to)) ∧ Below w.heap.size w w' := by
  have hn := two_byte hM.le
  have hlen := hM.len
  have HR := Lib.hid (show reachB b.pl.l office to = if to = -1 then (office == 2) else wthB to 0 ((b.pl.n : Int) - 1) && (match b.pl.l[to.toNat]? with | some p => wthB (wrap64 (p.office - office)) 0 1 | none => false) by unfold reachB; rw [hlen])
  obtain ⟨A, hA⟩ : ∃ A, b.pl.a = A := ⟨_, rfl⟩
  rw [hA]
  have HA := Lib.hid hA
  clear hA
  have hb0 := Bk.new w 31 #[.string b.nm, .slice b.ow.a b.ow.n b.ow.c, .int .i64 b.cells, .slice A b.pl.n b.pl.c, .slice b.lk.a b.lk.n b.lk.c, .slice b.tw.a b.tw.n b.tw.c, .slice b.gg.a b.gg.n b.gg.c, .slice b.rd.a b.rd.n b.rd.c, .slice b.sh.a b.sh.n b.sh.c, .slice b.room.a b.room.n b.room.c, .int .i64 b.err]
  have c0 := hb0.cell
  have hbw : Below w.heap.size w (w.alloc (.cells #[.string b.nm, .slice b.ow.a b.ow.n b.ow.c, .int .i64 b.cells, .slice A b.pl.n b.pl.c, .slice b.lk.a b.lk.n b.lk.c, .slice b.tw.a b.tw.n b.tw.c, .slice b.gg.a b.gg.n b.gg.c, .slice b.rd.a b.rd.n b.rd.c, .slice b.sh.a b.sh.n b.sh.c, .slice b.room.a b.room.n b.room.c, .int .i64 b.err] 31)) := (Below.refl _ _).alloc (Nat.le_refl _) _
  have HBW := Lib.hid hbw
  have HW := Lib.hid (hw.trans (hbw.mono hB))
  have HMM := Lib.hid hM
  clear hb0 hbw hM hw hlen
  by_cases ht : to = -1
  · have HT := Lib.hid (show reachB b.pl.l office to = (office == 2) by rw [HR.out, if_pos ht])
    subst ht
    go_enter Try.func47, Try.ntmps47
    go_wp2
    all_goals
      go_ret
      exact ⟨by rw [HT.out]; simp, HBW.out⟩
  have ht' : (to == -1) = false := by simpa using ht
  have HT := Lib.hid (show reachB b.pl.l office to = (wthB to 0 ((b.pl.n : Int) - 1) && (match b.pl.l[to.toNat]? with | some p => wthB (wrap64 (p.office - office)) 0 1 | none => false)) by rw [HR.out, if_neg ht])
  clear HR ht
  obtain ⟨v1, hv1⟩ : ∃ r, r = wthB to 0 ((b.pl.n : Int) - 1) := ⟨_, rfl⟩
  rw [← hv1] at HT
  have hn0 : (0 : Int) ≤ (b.pl.n : Int) := by omega
  go_enter Try.func47, Try.ntmps47
  have HV1 := Lib.hid hv1
  clear hv1
  go_wp2_with fail
  refine (within_any _ _ _ _).mono ?_
  rintro e w' ⟨rfl, rfl⟩
  rw [← HV1.out]
  cases v1
  · go_wp2
    go_ret
    exact ⟨by rw [HT.out]; rfl, HBW.out⟩
  have hr := wthB_true HV1.out.symm
  obtain ⟨k, hk⟩ : ∃ k : Nat, to = (k : Int) := ⟨to.toNat, by omega⟩
  subst hk
  have hkl : k < b.pl.n := by omega
  obtain ⟨pb, po, x, hpa, hpb, hx, _, hc⟩ := HMM.out.at_ hkl
  have e2 := hc _ HW.out 2 _ rfl
  have HT2 := Lib.hid (show reachB b.pl.l office (k : Int) = wthB (wrap64 (x.office - office)) 0 1 by
    rw [HT.out, Int.toNat_natCast, hx]
    rfl)
  have hk0 : (0 : Int) ≤ (k : Int) := by omega
  have hki : (k : Int) < (b.pl.n : Int) := by omega
  obtain rfl : A = some ⟨pb, po, none⟩ := HA.out.symm.trans hpa
  clear hr hc hx HV1 HT hpa ht'
  go_wp2_with fail
  refine (within_any _ _ _ _).mono ?_
  rintro e w' ⟨rfl, rfl⟩
  go_wp2_with fail
  go_ret
  exact ⟨by rw [HT2.out]; rfl, HBW.out⟩

end Go.Proofs.Ytmkbojhnbkdalaa
