/- The walk of rightPeople. -/
import Derived.Test.YtmkbojhnbkdalaaBasP
set_option linter.unusedSimpArgs false
set_option linter.unusedVariables false
namespace Go.Proofs.Ytmkbojhnbkdalaa
open Go.RowKit

set_option maxRecDepth 100000 in
set_option maxHeartbeats 1000000 in
theorem people_any (b : Bas) (w w0 : World) (B : Nat) (hM : MBas w0 B b) (hw : Below B w0 w) (hB : B ≤ w.heap.size) (hb : b.pl.n ≤ 64 ∧ b.lk.n ≤ 96 ∧ b.tw.n ≤ 40 ∧ b.sh.n ≤ 40 ∧ 0 ≤ b.cells ∧ b.cells ≤ 64) :
    Calls Try.prog 24 #[.agg #[.string b.nm, .slice b.ow.a b.ow.n b.ow.c, .int .i64 b.cells, .slice b.pl.a b.pl.n b.pl.c, .slice b.lk.a b.lk.n b.lk.c, .slice b.tw.a b.tw.n b.tw.c, .slice b.gg.a b.gg.n b.gg.c, .slice b.rd.a b.rd.n b.rd.c, .slice b.sh.a b.sh.n b.sh.c, .slice b.room.a b.room.n b.room.c, .int .i64 b.err]] w fun e w' => e = .returned (.bool (peopleB b)) ∧ Below w.heap.size w w' := by
  obtain ⟨W1, hW1⟩ : ∃ z, z = w.alloc (.cells #[.string b.nm, .slice b.ow.a b.ow.n b.ow.c, .int .i64 b.cells, .slice b.pl.a b.pl.n b.pl.c, .slice b.lk.a b.lk.n b.lk.c, .slice b.tw.a b.tw.n b.tw.c, .slice b.gg.a b.gg.n b.gg.c, .slice b.rd.a b.rd.n b.rd.c, .slice b.sh.a b.sh.n b.sh.c, .slice b.room.a b.room.n b.room.c, .int .i64 b.err] 31) := ⟨_, rfl⟩
  have hz1 : W1.heap.size = w.heap.size + 1 := by rw [hW1]; simp
  have k1 : Bk W1 w.heap.size 31 #[.string b.nm, .slice b.ow.a b.ow.n b.ow.c, .int .i64 b.cells, .slice b.pl.a b.pl.n b.pl.c, .slice b.lk.a b.lk.n b.lk.c, .slice b.tw.a b.tw.n b.tw.c, .slice b.gg.a b.gg.n b.gg.c, .slice b.rd.a b.rd.n b.rd.c, .slice b.sh.a b.sh.n b.sh.c, .slice b.room.a b.room.n b.room.c, .int .i64 b.err] := by rw [hW1]; exact Bk.new w _ _
  have hb1 : Below w.heap.size w W1 := by rw [hW1]; exact (Below.refl _ _).alloc (Nat.le_refl _) _
  obtain ⟨W2, hW2⟩ : ∃ z, z = W1.alloc (.cells #[.int .i64 (b.pl.n : Int), .int .i64 b.cells, .int .i64 (b.lk.n : Int)] 122) := ⟨_, rfl⟩
  have hz2 : W2.heap.size = w.heap.size + 2 := by rw [hW2]; simp [hz1]
  have k2 : Bk W2 w.heap.size 31 #[.string b.nm, .slice b.ow.a b.ow.n b.ow.c, .int .i64 b.cells, .slice b.pl.a b.pl.n b.pl.c, .slice b.lk.a b.lk.n b.lk.c, .slice b.tw.a b.tw.n b.tw.c, .slice b.gg.a b.gg.n b.gg.c, .slice b.rd.a b.rd.n b.rd.c, .slice b.sh.a b.sh.n b.sh.c, .slice b.room.a b.room.n b.room.c, .int .i64 b.err] := by rw [hW2]; exact k1.alloc _
  have kt : Bk W2 (w.heap.size + 1) 122 #[.int .i64 (b.pl.n : Int), .int .i64 b.cells, .int .i64 (b.lk.n : Int)] := by rw [hW2, ← hz1]; exact Bk.new W1 _ _
  have hb2 : Below w.heap.size w W2 := by rw [hW2]; exact hb1.alloc (by omega) _
  have hbB : Below B w0 W2 := hw.trans (hb2.mono hB)
  obtain ⟨mo, mp, ml, mt, mg, mr, ms, mm⟩ := hM
  have HT := Lib.hid (show peopleB b = (!((b.tw.l.any fun t => !townB b t) || ((b.gg.l.any fun g => !gaugeB b g) || (b.rd.l.any fun r => !roadB b r))) && !(b.sh.l.any fun s => !shelterB s)) from rfl)
  obtain ⟨v0, hv0⟩ : ∃ z, (b.tw.l.any fun t => !townB b t) = z := ⟨_, rfl⟩
  obtain ⟨v1, hv1⟩ : ∃ z, (b.gg.l.any fun g => !gaugeB b g) = z := ⟨_, rfl⟩
  obtain ⟨v2, hv2⟩ : ∃ z, (b.rd.l.any fun r => !roadB b r) = z := ⟨_, rfl⟩
  obtain ⟨v3, hv3⟩ : ∃ z, (b.sh.l.any fun s => !shelterB s) = z := ⟨_, rfl⟩
  rw [hv0, hv1, hv2, hv3] at HT
  have hpn : b.pl.n ≤ maxLen := by unfold maxLen; omega
  have C0 := Lib.hid (fun W (hW : Below (w.heap.size + 2) W2 W) => containsFunc_Twn b.tw (fun t => !townB b t) 57 #[.pointer (some ⟨w.heap.size, 0, none⟩)] W w0 B mt (hbB.trans (hW.mono (by omega))) (by have := hW.size; omega) (enters_of Try.func57 (by kernel_rfl) rfl)
    (fun W' x _ _ hb' => townBad_any b x w.heap.size W' (by have := hW.size; have := hb'.size; omega) (fun j => ((k2.below hW (by omega)).below hb' (by have := hW.size; omega)).cell j) ⟨hpn, hb.2.2.1, hb.2.2.2.1⟩))
  have C1 := Lib.hid (fun W (hW : Below (w.heap.size + 2) W2 W) => containsFunc_Gau b.gg (fun t => !gaugeB b t) 59 #[.pointer (some ⟨w.heap.size + 1, 0, none⟩)] W w0 B mg (hbB.trans (hW.mono (by omega))) (by have := hW.size; omega) (enters_of Try.func59 (by kernel_rfl) rfl)
    (fun W' x _ _ hb' => gaugeBad_any b x (w.heap.size + 1) W' (by have := hW.size; have := hb'.size; omega) (fun j => ((kt.below hW (by omega)).below hb' (by have := hW.size; omega)).cell j) ⟨hb.1, hb.2.1, hb.2.2.2.2.1, hb.2.2.2.2.2⟩))
  have C2 := Lib.hid (fun W (hW : Below (w.heap.size + 2) W2 W) => containsFunc_Rod b.rd (fun t => !roadB b t) 61 #[.pointer (some ⟨w.heap.size, 0, none⟩)] W w0 B mr (hbB.trans (hW.mono (by omega))) (by have := hW.size; omega) (enters_of Try.func61 (by kernel_rfl) rfl)
    (fun W' x _ _ hb' => roadBad_any b x w.heap.size W' (by have := hW.size; have := hb'.size; omega) (fun j => ((k2.below hW (by omega)).below hb' (by have := hW.size; omega)).cell j) ⟨hpn, hb.2.2.1, hb.2.2.2.1⟩))
  have C3 := Lib.hid (fun W (hW : Below (w.heap.size + 2) W2 W) => containsFunc_She b.sh (fun t => !shelterB t) 63 #[] W w0 B ms (hbB.trans (hW.mono (by omega))) (by have := hW.size; omega) (enters_of Try.func63 (by kernel_rfl) rfl)
    (fun W' x _ _ hb' => shelterBad_any x W'))
  rw [hv0] at C0
  rw [hv1] at C1
  rw [hv2] at C2
  rw [hv3] at C3
  have FC := Lib.hid (show ∀ W, Below (w.heap.size + 2) W2 W → ∀ j, W.cell? ⟨w.heap.size, j, none⟩ = (#[.string b.nm, .slice b.ow.a b.ow.n b.ow.c, .int .i64 b.cells, .slice b.pl.a b.pl.n b.pl.c, .slice b.lk.a b.lk.n b.lk.c, .slice b.tw.a b.tw.n b.tw.c, .slice b.gg.a b.gg.n b.gg.c, .slice b.rd.a b.rd.n b.rd.c, .slice b.sh.a b.sh.n b.sh.c, .slice b.room.a b.room.n b.room.c, .int .i64 b.err] : Array Value)[j]? from fun W hW j => (k2.below hW (by omega)).cell j)
  have HB2 := Lib.hid hb2
  have HW1 := Lib.hid hW1
  have HW2 := Lib.hid hW2
  have HZ2 := Lib.hid hz2
  have c1 := k1.cell
  have hz1' : w.heap.size + 1 = W1.heap.size := hz1.symm
  clear hv0 hv1 hv2 hv3 hW1 hW2 k1 k2 kt hb1 hb2 hbB mo mp ml mt mg mr ms mm hpn hw hz2 hz1
  go_enter Try.func24, Try.ntmps24
  go_upto_region 1 with fail
  rw [← HW1.out]
  go_upto_region 2 with fail
  rw [← HW2.out]
  rw [← hz1']
  have HBW := Lib.hid (Below.refl (w.heap.size + 2) W2)
  have c2 := FC.out W2 HBW.out
  clear c1 hz1'
  go_wp2_with fail
  refine (C0.out W2 HBW.out).mono ?_
  rintro e W3 ⟨rfl, hb3⟩
  have HB3 := Lib.hid (hb3.mono (Nat.le_of_eq HZ2.out.symm))
  have c3 := FC.out W3 HB3.out
  clear hb3 c2
  cases v0
  · go_wp2_with fail
    refine (C1.out W3 HB3.out).mono ?_
    rintro e W4 ⟨rfl, hb4⟩
    have HB4 := Lib.hid (HB3.out.trans (hb4.mono (Nat.le_trans (Nat.le_of_eq HZ2.out.symm) HB3.out.size)))
    have c4 := FC.out W4 HB4.out
    clear hb4 c3
    cases v1
    · go_wp2_with fail
      refine (C2.out W4 HB4.out).mono ?_
      rintro e W5 ⟨rfl, hb5⟩
      have HB5 := Lib.hid (HB4.out.trans (hb5.mono (Nat.le_trans (Nat.le_of_eq HZ2.out.symm) HB4.out.size)))
      have c5 := FC.out W5 HB5.out
      clear hb5 c4
      cases v2
      · go_wp2_with fail
        refine (C3.out W5 HB5.out).mono ?_
        rintro e W6 ⟨rfl, hb6⟩
        have HB6 := Lib.hid (HB5.out.trans (hb6.mono (Nat.le_trans (Nat.le_of_eq HZ2.out.symm) HB5.out.size)))
        clear hb6 c5
        go_wp2_with fail
        go_ret
        exact ⟨by rw [HT.out]; first | rfl | simp, HB2.out.trans (HB6.out.mono (by omega))⟩
      · go_wp2_with fail
        go_ret
        exact ⟨by rw [HT.out]; first | rfl | simp, HB2.out.trans (HB5.out.mono (by omega))⟩
    · go_wp2_with fail
      go_ret
      exact ⟨by rw [HT.out]; first | rfl | simp, HB2.out.trans (HB4.out.mono (by omega))⟩
  · go_wp2_with fail
    go_ret
    exact ⟨by rw [HT.out]; first | rfl | simp, HB2.out.trans (HB3.out.mono (by omega))⟩

end Go.Proofs.Ytmkbojhnbkdalaa
