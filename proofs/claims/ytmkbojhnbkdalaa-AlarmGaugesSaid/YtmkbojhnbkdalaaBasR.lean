/- The walk of rightPlace. -/
import Derived.Test.YtmkbojhnbkdalaaBasP
import Derived.Test.YtmkbojhnbkdalaaBasU
import Derived.Test.YtmkbojhnbkdalaaRow
set_option linter.unusedSimpArgs false
set_option linter.unusedVariables false
namespace Go.Proofs.Ytmkbojhnbkdalaa
open Go.RowKit

theorem rainB_no {cells : Int} {l : List Cel} {k : Nat} (hk : k < l.length) (h : rainOk cells l k = false) : rainB cells l = false := by
  unfold rainB
  exact all_no (x := k) (List.getElem?_range hk) h
theorem rainB_yes {cells : Int} {l : List Cel} (h : ∀ k, k < l.length → rainOk cells l k = true) : rainB cells l = true := by
  unfold rainB
  exact List.all_eq_true.2 fun k hk => h k (List.mem_range.1 hk)
theorem rainOk_zero {cells : Int} {l : List Cel} {c : Cel} (h : l[0]? = some c) : rainOk cells l 0 = (wthB c.ix 0 (cells - 1) && volB c.ar) := by
  unfold rainOk
  rw [h]
  simp
theorem rainOk_succ {cells : Int} {l : List Cel} {k : Nat} {c d : Cel} (h : l[k + 1]? = some c) (h' : l[k]? = some d) : rainOk cells l (k + 1) = (wthB c.ix 0 (cells - 1) && (volB c.ar && decide (d.ix < c.ix))) := by
  unfold rainOk
  rw [h]
  simp only [h']

set_option maxRecDepth 100000 in
set_option maxHeartbeats 4000000 in
theorem place_any (b : Bas) (i : Nat) (p : Plc) (w w0 : World) (B : Nat) (hM : MBas w0 B b) (hw : Below B w0 w) (hB : B ≤ w.heap.size) (hp : b.pl.l[i]? = some p) (hb : 0 ≤ b.cells ∧ b.cells ≤ 64) :
    Calls Try.prog 16 #[.agg #[.string b.nm, .slice b.ow.a b.ow.n b.ow.c, .int .i64 b.cells, .slice b.pl.a b.pl.n b.pl.c, .slice b.lk.a b.lk.n b.lk.c, .slice b.tw.a b.tw.n b.tw.c, .slice b.gg.a b.gg.n b.gg.c, .slice b.rd.a b.rd.n b.rd.c, .slice b.sh.a b.sh.n b.sh.c, .slice b.room.a b.room.n b.room.c, .int .i64 b.err], .int .i64 (i : Int)] w fun e w' => e = .returned (.bool (placeB b i p)) ∧ Below w.heap.size w w' := by
  obtain ⟨mo, mp, m3, m4, m5, m6, m7, m8⟩ := hM
  clear mo m3 m4 m5 m6 m7 m8
  have hil : i < b.pl.n := by have := (List.getElem?_eq_some_iff.1 hp).1; rw [mp.len] at this; exact this
  obtain ⟨pb, po, p', hpa, hpb, hx, hmp, hc⟩ := mp.at_ (k := i) hil
  obtain rfl : p = p' := by rw [hx] at hp; injection hp with hp; exact hp.symm
  obtain ⟨mlv, mst, mrn⟩ := hmp
  have hnP := two_byte mp.le
  obtain ⟨W1, hW1⟩ : ∃ z, z = w.alloc (.cells #[.string b.nm, .slice b.ow.a b.ow.n b.ow.c, .int .i64 b.cells, .slice b.pl.a b.pl.n b.pl.c, .slice b.lk.a b.lk.n b.lk.c, .slice b.tw.a b.tw.n b.tw.c, .slice b.gg.a b.gg.n b.gg.c, .slice b.rd.a b.rd.n b.rd.c, .slice b.sh.a b.sh.n b.sh.c, .slice b.room.a b.room.n b.room.c, .int .i64 b.err] 31) := ⟨_, rfl⟩
  have hz1 : W1.heap.size = w.heap.size + 1 := by rw [hW1]; simp
  have k1 : Bk W1 w.heap.size 31 #[.string b.nm, .slice b.ow.a b.ow.n b.ow.c, .int .i64 b.cells, .slice b.pl.a b.pl.n b.pl.c, .slice b.lk.a b.lk.n b.lk.c, .slice b.tw.a b.tw.n b.tw.c, .slice b.gg.a b.gg.n b.gg.c, .slice b.rd.a b.rd.n b.rd.c, .slice b.sh.a b.sh.n b.sh.c, .slice b.room.a b.room.n b.room.c, .int .i64 b.err] := by rw [hW1]; exact Bk.new w _ _
  have hb1 : Below w.heap.size w W1 := by rw [hW1]; exact (Below.refl _ _).alloc (Nat.le_refl _) _
  have hbB : Below B w0 W1 := hw.trans (hb1.mono hB)
  have HT := Lib.hid (show placeB b i p = ((rainB b.cells p.rn.l) && ((wthB p.kind 0 3) && ((wthB p.office 0 2) && ((volB p.cap) && ((volB p.floor) && ((wthB p.delay 0 240) && ((decide (p.st.n = b.ow.n)) && ((curveB p.lv.l) && ((fracB p.num p.den true) && ((!(p.down == (i : Int))) && ((reachB b.pl.l p.office p.down) && !(p.st.l.any fun n => !volB n)))))))))))) from rfl)
  obtain ⟨v0, hv0⟩ : ∃ z, (rainB b.cells p.rn.l) = z := ⟨_, rfl⟩
  obtain ⟨v1, hv1⟩ : ∃ z, (wthB p.kind 0 3) = z := ⟨_, rfl⟩
  obtain ⟨v2, hv2⟩ : ∃ z, (wthB p.office 0 2) = z := ⟨_, rfl⟩
  obtain ⟨v3, hv3⟩ : ∃ z, (volB p.cap) = z := ⟨_, rfl⟩
  obtain ⟨v4, hv4⟩ : ∃ z, (volB p.floor) = z := ⟨_, rfl⟩
  obtain ⟨v5, hv5⟩ : ∃ z, (wthB p.delay 0 240) = z := ⟨_, rfl⟩
  obtain ⟨v6, hv6⟩ : ∃ z, (decide (p.st.n = b.ow.n)) = z := ⟨_, rfl⟩
  obtain ⟨v7, hv7⟩ : ∃ z, (curveB p.lv.l) = z := ⟨_, rfl⟩
  obtain ⟨v8, hv8⟩ : ∃ z, (fracB p.num p.den true) = z := ⟨_, rfl⟩
  obtain ⟨v9, hv9⟩ : ∃ z, (!(p.down == (i : Int))) = z := ⟨_, rfl⟩
  obtain ⟨v10, hv10⟩ : ∃ z, (reachB b.pl.l p.office p.down) = z := ⟨_, rfl⟩
  obtain ⟨v11, hv11⟩ : ∃ z, (p.st.l.any fun n => !volB n) = z := ⟨_, rfl⟩
  rw [hv0, hv1, hv2, hv3, hv4, hv5, hv6, hv7, hv8, hv9, hv10, hv11] at HT
  have HV0 := Lib.hid hv0
  have HV1 := Lib.hid hv1
  have HV2 := Lib.hid hv2
  have HV3 := Lib.hid hv3
  have HV4 := Lib.hid hv4
  have HV5 := Lib.hid hv5
  have HV6 := Lib.hid hv6
  have HV7 := Lib.hid hv7
  have HV8 := Lib.hid hv8
  have HV9 := Lib.hid hv9
  have HV10 := Lib.hid hv10
  have HV11 := Lib.hid hv11
  have CR := Lib.hid (fun W (hW : Below w.heap.size w W) => reaches_any b p.office p.down W w0 B mp (hw.trans (hW.mono hB)) (Nat.le_trans hB hW.size))
  have CC := Lib.hid (fun W (hW : Below w.heap.size w W) => curveRight_any p.lv W w0 B mlv (hw.trans (hW.mono hB)) (Nat.le_trans hB hW.size))
  have CF := Lib.hid (fun W (hW : Below w.heap.size w W) => containsFunc_int p.st (fun n => !volB n) 48 #[] W w0 B mst (hw.trans (hW.mono hB)) (Nat.le_trans hB hW.size) (enters_of Try.func48 (by kernel_rfl) rfl) (fun W' x _ _ hb' => startBad_any x W'))
  have HRN := Lib.hid mrn
  obtain ⟨RA, hRA⟩ : ∃ z, p.rn.a = z := ⟨_, rfl⟩
  have HRA := Lib.hid hRA
  obtain ⟨N, hN⟩ : ∃ z, p.rn.n = z := ⟨_, rfl⟩
  have HN := Lib.hid hN
  have hnN := two_byte mrn.le
  rw [hN] at hnN
  rw [hv10] at CR
  rw [hv7] at CC
  rw [hv11] at CF
  have HHW := Lib.hid hw
  have HC := Lib.hid (show ∀ (j : Nat) (v : Value), #[.string p.nm, .int .i64 p.kind, .int .i64 p.office, .int .i64 p.cap, .slice p.lv.a p.lv.n p.lv.c, .slice p.st.a p.st.n p.st.c, .int .i64 p.num, .int .i64 p.den, .int .i64 p.down, .int .i64 p.delay, .int .i64 p.floor, .slice RA N p.rn.c].toList[j]? = some v → W1.cell? ((⟨pb, po + i * 12, none⟩ : Addr).add j) = some v from fun j v hv => by
    rw [Go.WideShapes.add_plain]
    rw [← hRA, ← hN] at hv
    exact hc W1 hbB j v hv)
  have HK1 := Lib.hid k1
  have HB1 := Lib.hid hb1
  have c1 := k1.cell
  obtain ⟨PA, hPA⟩ : ∃ z, b.pl.a = z := ⟨_, rfl⟩
  rw [hPA] at hpa c1 HK1 CR hW1 ⊢
  subst hpa
  have hi0 : (0 : Int) ≤ (i : Int) := by omega
  have hin : (i : Int) < (b.pl.n : Int) := by omega
  have hz1' := hz1
  have HW1 := Lib.hid hW1
  have HZ1 := Lib.hid hz1
  clear hv0 hv1 hv2 hv3 hv4 hv5 hv6 hv7 hv8 hv9 hv10 hv11 mp mlv mst mrn hp hx hc hw hb1 hbB k1 hW1 hz1 hz1' hPA hil hRA hN
  go_enter Try.func16, Try.ntmps16
  go_upto_region 1 with fail
  rw [← HW1.out]
  go_wp2_with (first | refine wpList_load_cells rfl 70 _ rfl ⟨pb, po + i * 12, none⟩ rfl #[.string p.nm, .int .i64 p.kind, .int .i64 p.office, .int .i64 p.cap, .slice p.lv.a p.lv.n p.lv.c, .slice p.st.a p.st.n p.st.c, .int .i64 p.num, .int .i64 p.den, .int .i64 p.down, .int .i64 p.delay, .int .i64 p.floor, .slice RA N p.rn.c] HC.out _ Try.underlying70 rfl (by kernel_rfl) ?_ | refine wpList_store_rowC rfl 70 _ _ rfl W1.heap.size rfl #[.string p.nm, .int .i64 p.kind, .int .i64 p.office, .int .i64 p.cap, .slice p.lv.a p.lv.n p.lv.c, .slice p.st.a p.st.n p.st.c, .int .i64 p.num, .int .i64 p.den, .int .i64 p.down, .int .i64 p.delay, .int .i64 p.floor, .slice RA N p.rn.c] rfl 70 _ (Bk.new W1 _ _) (by kernel_rfl) (by kernel_rfl) (by kernel_rfl) ?_)
  intro W2 HK2 HG2
  have HB2 := Lib.hid ((HB1.out.alloc (by have := HZ1.out; omega) _).grown HG2.out (by simp; have := HZ1.out; omega) (fun j hj => by injection hj with hj; have := HZ1.out; omega))
  have HKB := Lib.hid ((HK1.out.alloc _).grown HG2.out (fun h => by injection h with h; have := HZ1.out; omega))
  obtain ⟨g, hg⟩ : ∃ z, W1.heap.size = z := ⟨_, rfl⟩
  rw [hg] at HK2 ⊢
  have FC := Lib.hid (show ∀ W, Below W2.heap.size W2 W → (∀ j, W.cell? ⟨w.heap.size, j, none⟩ = (#[.string b.nm, .slice b.ow.a b.ow.n b.ow.c, .int .i64 b.cells, .slice (some ⟨pb, po, none⟩) b.pl.n b.pl.c, .slice b.lk.a b.lk.n b.lk.c, .slice b.tw.a b.tw.n b.tw.c, .slice b.gg.a b.gg.n b.gg.c, .slice b.rd.a b.rd.n b.rd.c, .slice b.sh.a b.sh.n b.sh.c, .slice b.room.a b.room.n b.room.c, .int .i64 b.err] : Array Value)[j]?) ∧ (∀ j, W.cell? ⟨g, j, none⟩ = (#[.string p.nm, .int .i64 p.kind, .int .i64 p.office, .int .i64 p.cap, .slice p.lv.a p.lv.n p.lv.c, .slice p.st.a p.st.n p.st.c, .int .i64 p.num, .int .i64 p.den, .int .i64 p.down, .int .i64 p.delay, .int .i64 p.floor, .slice RA N p.rn.c] : Array Value)[j]?) from fun W hW => ⟨(HKB.out.below hW HKB.out.lt).cell, (HK2.out.below hW HK2.out.lt).cell⟩)
  have HBR := Lib.hid (Below.refl W2.heap.size W2)
  clear c1 HK1 HK2 HG2 HKB HC HW1 hg HZ1
  obtain ⟨c1, c2⟩ := FC.out W2 HBR.out
  go_wp2_with fail
  go_loopw [16] (fun ix wr => ∃ k : Nat, k ≤ N ∧ ix = .int .i64 (k : Int) ∧ Hid (∀ j, j < k → rainOk b.cells p.rn.l j = true) ∧ Below W2.heap.size W2 wr) (fun ix _ => N - (intOf ix).toNat)
  case atStart => exact ⟨0, by omega, rfl, Lib.hid (fun j h => absurd h (Nat.not_lt_zero _)), Below.refl _ _⟩
  case round =>
    clear c1 c2
    obtain ⟨k, hk, rfl, HALL, hbr⟩ := hrel
    have HB := Lib.hid hbr
    have hsz := hbr.size
    clear hbr
    by_cases hlt : k < N
    · have hk0 : (0 : Int) ≤ (k : Int) := by omega
      have hki : (k : Int) < (N : Int) := by omega
      obtain ⟨rb, ro, c, hra, hrb, hx, _, hc⟩ := HRN.out.at_ (k := k) (by rw [HN.out]; exact hlt)
      obtain rfl : RA = some ⟨rb, ro, none⟩ := HRA.out.symm.trans hra
      have hbw := HHW.out.trans (HB2.out.mono hB)
      have hbw2 := hbw.trans (HB.out.mono (Nat.le_trans hB HB2.out.size))
      have e0 := hc _ hbw2 0 _ rfl
      have e1 := hc _ hbw2 1 _ rfl
      simp only [Nat.add_zero] at e0
      obtain ⟨cx, hcx⟩ : ∃ z, c.ix = z := ⟨_, rfl⟩
      obtain ⟨ca, hca⟩ : ∃ z, c.ar = z := ⟨_, rfl⟩
      rw [hcx] at e0
      rw [hca] at e1
      obtain ⟨W3, hW3⟩ : ∃ z, z = wr.alloc (.cells #[.int .i64 cx, .int .i64 ca] 110) := ⟨_, rfl⟩
      have hb3 : Below W2.heap.size W2 W3 := by rw [hW3]; exact HB.out.alloc hsz _
      have c3 : ∀ j, W3.cell? ⟨wr.heap.size, j, none⟩ = (#[.int .i64 cx, .int .i64 ca] : Array Value)[j]? := by rw [hW3]; exact (Bk.new wr _ _).cell
      obtain ⟨cb, cp⟩ := FC.out W3 hb3
      have HB3 := Lib.hid hb3
      have hb3w := hbw.trans (hb3.mono (Nat.le_trans hB HB2.out.size))
      have HW3 := Lib.hid hW3
      obtain ⟨u0, hu0⟩ : ∃ z, wthB cx 0 (b.cells - 1) = z := ⟨_, rfl⟩
      obtain ⟨u1, hu1⟩ : ∃ z, volB ca = z := ⟨_, rfl⟩
      have HU0 := Lib.hid hu0
      have HU1 := Lib.hid hu1
      have hkl : k < p.rn.l.length := by rw [HRN.out.len, HN.out]; exact hlt
      have hq1 : IntKind.i64.wrap (b.cells - 1) = b.cells - 1 := wrapI_id (by omega) (by omega)
      have hk63 : (k : Int) ≤ 9223372036854775807 := by omega
      have hw1 : IntKind.i64.wrap (k : Int) = (k : Int) := wrapI_id (by omega) (by omega)
      rcases Nat.eq_zero_or_pos k with hk1 | hk1
      · subst hk1
        simp only [Nat.zero_mul, Nat.add_zero] at e0 e1
        have HOK := Lib.hid (show rainOk b.cells p.rn.l 0 = (u0 && u1) by rw [rainOk_zero hx, hcx, hca, hu0, hu1])
        clear hra hx hc hbw hbw2 hcx hca hW3 hb3 hb3w hu0 hu1
        go_upto_region 5 with fail
        rw [← HW3.out]
        clear e0 e1
        cases u0
        · go_wp2_with fail
          refine wp_region_M [0, 1, 2, 3, 4, 5, 6, 7, 8, 9, 10, 11, 12, 13, 14, 15, 16, 17, 18, 19, 20, 21, 22, 23, 24, 25, 26, 27, 28] [5] (fun W => W = W3.drew) (by kernel_rfl) (by kernel_rfl) rfl ?_
          iterate 5 (refine M_pure (by rfl) (by rfl) ?_; apply Exists.intro; apply And.intro; (case left => (intro w hSw; (try dsimp only at hSw); go_simp; try with_reducible rfl)); (try simp only [Act.put, List.setIfInBounds_toArray, List.set_cons_zero, List.set_cons_succ]))
          (refine M_call (by rfl) (by rfl) ?_; apply Exists.intro; apply Exists.intro; apply And.intro; (case left => (go_simp; first | (refine ⟨?_, ?_⟩ <;> with_reducible rfl) | rfl)))
          refine (within_any _ _ _ _).mono ?_
          rintro e W' ⟨rfl, rfl⟩
          rw [HU0.out]
          refine ⟨_, rfl, rfl, ?_⟩
          (try simp only [Act.put, List.setIfInBounds_toArray, List.set_cons_zero, List.set_cons_succ])
          iterate 2 (refine M_pure (by rfl) (by rfl) ?_; apply Exists.intro; apply And.intro; (case left => (intro w hSw; (try dsimp only at hSw); go_simp; try with_reducible rfl)); (try simp only [Act.put, List.setIfInBounds_toArray, List.set_cons_zero, List.set_cons_succ]))
          iterate 4 (refine M_off (by rfl) (by rfl) ?_; (try simp only [Act.put, List.setIfInBounds_toArray, List.set_cons_zero, List.set_cons_succ]))
          iterate 2 (refine M_pure (by rfl) (by rfl) ?_; apply Exists.intro; apply And.intro; (case left => (intro w hSw; (try dsimp only at hSw); go_simp; try with_reducible rfl)); (try simp only [Act.put, List.setIfInBounds_toArray, List.set_cons_zero, List.set_cons_succ]))
          iterate 14 (refine M_off (by rfl) (by rfl) ?_; (try simp only [Act.put, List.setIfInBounds_toArray, List.set_cons_zero, List.set_cons_succ]))
          iterate 1 (refine M_pure (by rfl) (by rfl) ?_; apply Exists.intro; apply And.intro; (case left => (intro w hSw; (try dsimp only at hSw); go_simp; try with_reducible rfl)); (try simp only [Act.put, List.setIfInBounds_toArray, List.set_cons_zero, List.set_cons_succ]))
          refine M_nil ?_
          try dsimp only
          go_wp2_with fail
          go_ret
          exact ⟨by rw [HT.out, ← HV0.out, rainB_no hkl (by rw [HOK.out]; rfl)]; rfl, HB2.out.trans (HB3.out.drew.mono HB2.out.size)⟩
        cases u1
        · go_wp2_with fail
          refine wp_region_M [0, 1, 2, 3, 4, 5, 6, 7, 8, 9, 10, 11, 12, 13, 14, 15, 16, 17, 18, 19, 20, 21, 22, 23, 24, 25, 26, 27, 28] [5, 10] (fun W => W = W3.drew) (by kernel_rfl) (by kernel_rfl) rfl ?_
          iterate 5 (refine M_pure (by rfl) (by rfl) ?_; apply Exists.intro; apply And.intro; (case left => (intro w hSw; (try dsimp only at hSw); go_simp; try with_reducible rfl)); (try simp only [Act.put, List.setIfInBounds_toArray, List.set_cons_zero, List.set_cons_succ]))
          (refine M_call (by rfl) (by rfl) ?_; apply Exists.intro; apply Exists.intro; apply And.intro; (case left => (go_simp; first | (refine ⟨?_, ?_⟩ <;> with_reducible rfl) | rfl)))
          refine (within_any _ _ _ _).mono ?_
          rintro e W' ⟨rfl, rfl⟩
          rw [HU0.out]
          refine ⟨_, rfl, rfl, ?_⟩
          (try simp only [Act.put, List.setIfInBounds_toArray, List.set_cons_zero, List.set_cons_succ])
          iterate 4 (refine M_pure (by rfl) (by rfl) ?_; apply Exists.intro; apply And.intro; (case left => (intro w hSw; (try dsimp only at hSw); go_simp; try with_reducible rfl)); (try simp only [Act.put, List.setIfInBounds_toArray, List.set_cons_zero, List.set_cons_succ]))
          (refine M_call (by rfl) (by rfl) ?_; apply Exists.intro; apply Exists.intro; apply And.intro; (case left => (go_simp; first | (refine ⟨?_, ?_⟩ <;> with_reducible rfl) | rfl)))
          refine (volume_any _ _).mono ?_
          rintro e W' ⟨rfl, rfl⟩
          rw [HU1.out]
          refine ⟨_, rfl, rfl, ?_⟩
          (try simp only [Act.put, List.setIfInBounds_toArray, List.set_cons_zero, List.set_cons_succ])
          iterate 3 (refine M_pure (by rfl) (by rfl) ?_; apply Exists.intro; apply And.intro; (case left => (intro w hSw; (try dsimp only at hSw); go_simp; try with_reducible rfl)); (try simp only [Act.put, List.setIfInBounds_toArray, List.set_cons_zero, List.set_cons_succ]))
          iterate 14 (refine M_off (by rfl) (by rfl) ?_; (try simp only [Act.put, List.setIfInBounds_toArray, List.set_cons_zero, List.set_cons_succ]))
          iterate 1 (refine M_pure (by rfl) (by rfl) ?_; apply Exists.intro; apply And.intro; (case left => (intro w hSw; (try dsimp only at hSw); go_simp; try with_reducible rfl)); (try simp only [Act.put, List.setIfInBounds_toArray, List.set_cons_zero, List.set_cons_succ]))
          refine M_nil ?_
          try dsimp only
          go_wp2_with fail
          go_ret
          exact ⟨by rw [HT.out, ← HV0.out, rainB_no hkl (by rw [HOK.out]; rfl)]; rfl, HB2.out.trans (HB3.out.drew.mono HB2.out.size)⟩
        go_wp2_with fail
        refine wp_region_M [0, 1, 2, 3, 4, 5, 6, 7, 8, 9, 10, 11, 12, 13, 14, 15, 16, 17, 18, 19, 20, 21, 22, 23, 24, 25, 26, 27, 28] [5, 10] (fun W => W = W3.drew) (by kernel_rfl) (by kernel_rfl) rfl ?_
        iterate 5 (refine M_pure (by rfl) (by rfl) ?_; apply Exists.intro; apply And.intro; (case left => (intro w hSw; (try dsimp only at hSw); go_simp; try with_reducible rfl)); (try simp only [Act.put, List.setIfInBounds_toArray, List.set_cons_zero, List.set_cons_succ]))
        (refine M_call (by rfl) (by rfl) ?_; apply Exists.intro; apply Exists.intro; apply And.intro; (case left => (go_simp; first | (refine ⟨?_, ?_⟩ <;> with_reducible rfl) | rfl)))
        refine (within_any _ _ _ _).mono ?_
        rintro e W' ⟨rfl, rfl⟩
        rw [HU0.out]
        refine ⟨_, rfl, rfl, ?_⟩
        (try simp only [Act.put, List.setIfInBounds_toArray, List.set_cons_zero, List.set_cons_succ])
        iterate 4 (refine M_pure (by rfl) (by rfl) ?_; apply Exists.intro; apply And.intro; (case left => (intro w hSw; (try dsimp only at hSw); go_simp; try with_reducible rfl)); (try simp only [Act.put, List.setIfInBounds_toArray, List.set_cons_zero, List.set_cons_succ]))
        (refine M_call (by rfl) (by rfl) ?_; apply Exists.intro; apply Exists.intro; apply And.intro; (case left => (go_simp; first | (refine ⟨?_, ?_⟩ <;> with_reducible rfl) | rfl)))
        refine (volume_any _ _).mono ?_
        rintro e W' ⟨rfl, rfl⟩
        rw [HU1.out]
        refine ⟨_, rfl, rfl, ?_⟩
        (try simp only [Act.put, List.setIfInBounds_toArray, List.set_cons_zero, List.set_cons_succ])
        iterate 6 (refine M_pure (by rfl) (by rfl) ?_; apply Exists.intro; apply And.intro; (case left => (intro w hSw; (try dsimp only at hSw); go_simp; try with_reducible rfl)); (try simp only [Act.put, List.setIfInBounds_toArray, List.set_cons_zero, List.set_cons_succ]))
        iterate 10 (refine M_off (by rfl) (by rfl) ?_; (try simp only [Act.put, List.setIfInBounds_toArray, List.set_cons_zero, List.set_cons_succ]))
        iterate 2 (refine M_pure (by rfl) (by rfl) ?_; apply Exists.intro; apply And.intro; (case left => (intro w hSw; (try dsimp only at hSw); go_simp; try with_reducible rfl)); (try simp only [Act.put, List.setIfInBounds_toArray, List.set_cons_zero, List.set_cons_succ]))
        refine M_nil ?_
        try dsimp only
        go_wp2_with fail
        go_roundw
        case rel =>
          refine ⟨0 + 1, by omega, by go_num, Lib.hid (fun j hj => ?_), HB3.out.drew⟩
          by_cases hjk : j < 0
          · exact HALL.out j hjk
          · obtain rfl : j = 0 := by omega
            rw [HOK.out]
            rfl
        case measure => simp [intOf]; omega
      · obtain ⟨q, rfl⟩ : ∃ q, k = q + 1 := ⟨k - 1, by omega⟩
        obtain ⟨rb', ro', d, hra', hrb', hx', _, hc'⟩ := HRN.out.at_ (k := q) (by rw [HN.out]; omega)
        obtain ⟨rfl, rfl⟩ : rb = rb' ∧ ro = ro' := by
          have := HRA.out.symm.trans hra'
          simpa using this
        have d0 := hc' W3 hb3w 0 _ rfl
        simp only [Nat.add_zero] at d0
        obtain ⟨dx, hdx⟩ : ∃ z, d.ix = z := ⟨_, rfl⟩
        rw [hdx] at d0
        obtain ⟨u2, hu2⟩ : ∃ z, decide (dx < cx) = z := ⟨_, rfl⟩
        have HOK := Lib.hid (show rainOk b.cells p.rn.l (q + 1) = (u0 && (u1 && u2)) by rw [rainOk_succ hx hx', hcx, hca, hdx, hu0, hu1, hu2])
        have hge : decide (cx ≤ dx) = !u2 := by rw [← hu2]; by_cases h : dx < cx <;> simp [h] <;> omega
        obtain ⟨k1, hkk⟩ : ∃ z, q + 1 = z := ⟨_, rfl⟩
        rw [hkk] at hw1 hk0 hki hk63 e0 e1 hkl HALL hlt hk hk1 HOK ⊢
        have hgt : decide ((0 : Int) < (k1 : Int)) = true := decide_eq_true (by omega)
        have hkq : (k1 : Int) - 1 = (q : Int) := by omega
        have hw2 : IntKind.i64.wrap ((k1 : Int) - 1) = (q : Int) := by rw [hkq]; exact wrapI_id (by omega) (by omega)
        have hw3 : IntKind.i64.wrap (q : Int) = (q : Int) := wrapI_id (by omega) (by omega)
        have hq0 : (0 : Int) ≤ (q : Int) := by omega
        have hqn : (q : Int) < (N : Int) := by omega
        clear hra hx hc hbw hbw2 hcx hca hW3 hb3 hb3w hu0 hu1 hra' hx' hc' hdx hu2 hkq
        go_upto_region 5 with fail
        rw [← HW3.out]
        clear e0 e1
        cases u0
        · go_wp2_with fail
          refine wp_region_M [0, 1, 2, 3, 4, 5, 6, 7, 8, 9, 10, 11, 12, 13, 14, 15, 16, 17, 18, 19, 20, 21, 22, 23, 24, 25, 26, 27, 28] [5] (fun W => W = W3.drew) (by kernel_rfl) (by kernel_rfl) rfl ?_
          iterate 5 (refine M_pure (by rfl) (by rfl) ?_; apply Exists.intro; apply And.intro; (case left => (intro w hSw; (try dsimp only at hSw); go_simp; try with_reducible rfl)); (try simp only [Act.put, List.setIfInBounds_toArray, List.set_cons_zero, List.set_cons_succ]))
          (refine M_call (by rfl) (by rfl) ?_; apply Exists.intro; apply Exists.intro; apply And.intro; (case left => (go_simp; first | (refine ⟨?_, ?_⟩ <;> with_reducible rfl) | rfl)))
          refine (within_any _ _ _ _).mono ?_
          rintro e W' ⟨rfl, rfl⟩
          rw [HU0.out]
          refine ⟨_, rfl, rfl, ?_⟩
          (try simp only [Act.put, List.setIfInBounds_toArray, List.set_cons_zero, List.set_cons_succ])
          iterate 2 (refine M_pure (by rfl) (by rfl) ?_; apply Exists.intro; apply And.intro; (case left => (intro w hSw; (try dsimp only at hSw); go_simp; try with_reducible rfl)); (try simp only [Act.put, List.setIfInBounds_toArray, List.set_cons_zero, List.set_cons_succ]))
          iterate 4 (refine M_off (by rfl) (by rfl) ?_; (try simp only [Act.put, List.setIfInBounds_toArray, List.set_cons_zero, List.set_cons_succ]))
          iterate 2 (refine M_pure (by rfl) (by rfl) ?_; apply Exists.intro; apply And.intro; (case left => (intro w hSw; (try dsimp only at hSw); go_simp; try with_reducible rfl)); (try simp only [Act.put, List.setIfInBounds_toArray, List.set_cons_zero, List.set_cons_succ]))
          iterate 14 (refine M_off (by rfl) (by rfl) ?_; (try simp only [Act.put, List.setIfInBounds_toArray, List.set_cons_zero, List.set_cons_succ]))
          iterate 1 (refine M_pure (by rfl) (by rfl) ?_; apply Exists.intro; apply And.intro; (case left => (intro w hSw; (try dsimp only at hSw); go_simp; try with_reducible rfl)); (try simp only [Act.put, List.setIfInBounds_toArray, List.set_cons_zero, List.set_cons_succ]))
          refine M_nil ?_
          try dsimp only
          go_wp2_with fail
          go_ret
          exact ⟨by rw [HT.out, ← HV0.out, rainB_no hkl (by rw [HOK.out]; rfl)]; rfl, HB2.out.trans (HB3.out.drew.mono HB2.out.size)⟩
        cases u1
        · go_wp2_with fail
          refine wp_region_M [0, 1, 2, 3, 4, 5, 6, 7, 8, 9, 10, 11, 12, 13, 14, 15, 16, 17, 18, 19, 20, 21, 22, 23, 24, 25, 26, 27, 28] [5, 10] (fun W => W = W3.drew) (by kernel_rfl) (by kernel_rfl) rfl ?_
          iterate 5 (refine M_pure (by rfl) (by rfl) ?_; apply Exists.intro; apply And.intro; (case left => (intro w hSw; (try dsimp only at hSw); go_simp; try with_reducible rfl)); (try simp only [Act.put, List.setIfInBounds_toArray, List.set_cons_zero, List.set_cons_succ]))
          (refine M_call (by rfl) (by rfl) ?_; apply Exists.intro; apply Exists.intro; apply And.intro; (case left => (go_simp; first | (refine ⟨?_, ?_⟩ <;> with_reducible rfl) | rfl)))
          refine (within_any _ _ _ _).mono ?_
          rintro e W' ⟨rfl, rfl⟩
          rw [HU0.out]
          refine ⟨_, rfl, rfl, ?_⟩
          (try simp only [Act.put, List.setIfInBounds_toArray, List.set_cons_zero, List.set_cons_succ])
          iterate 4 (refine M_pure (by rfl) (by rfl) ?_; apply Exists.intro; apply And.intro; (case left => (intro w hSw; (try dsimp only at hSw); go_simp; try with_reducible rfl)); (try simp only [Act.put, List.setIfInBounds_toArray, List.set_cons_zero, List.set_cons_succ]))
          (refine M_call (by rfl) (by rfl) ?_; apply Exists.intro; apply Exists.intro; apply And.intro; (case left => (go_simp; first | (refine ⟨?_, ?_⟩ <;> with_reducible rfl) | rfl)))
          refine (volume_any _ _).mono ?_
          rintro e W' ⟨rfl, rfl⟩
          rw [HU1.out]
          refine ⟨_, rfl, rfl, ?_⟩
          (try simp only [Act.put, List.setIfInBounds_toArray, List.set_cons_zero, List.set_cons_succ])
          iterate 3 (refine M_pure (by rfl) (by rfl) ?_; apply Exists.intro; apply And.intro; (case left => (intro w hSw; (try dsimp only at hSw); go_simp; try with_reducible rfl)); (try simp only [Act.put, List.setIfInBounds_toArray, List.set_cons_zero, List.set_cons_succ]))
          iterate 14 (refine M_off (by rfl) (by rfl) ?_; (try simp only [Act.put, List.setIfInBounds_toArray, List.set_cons_zero, List.set_cons_succ]))
          iterate 1 (refine M_pure (by rfl) (by rfl) ?_; apply Exists.intro; apply And.intro; (case left => (intro w hSw; (try dsimp only at hSw); go_simp; try with_reducible rfl)); (try simp only [Act.put, List.setIfInBounds_toArray, List.set_cons_zero, List.set_cons_succ]))
          refine M_nil ?_
          try dsimp only
          go_wp2_with fail
          go_ret
          exact ⟨by rw [HT.out, ← HV0.out, rainB_no hkl (by rw [HOK.out]; rfl)]; rfl, HB2.out.trans (HB3.out.drew.mono HB2.out.size)⟩
        cases u2
        · go_wp2_with fail
          refine wp_region_M [0, 1, 2, 3, 4, 5, 6, 7, 8, 9, 10, 11, 12, 13, 14, 15, 16, 17, 18, 19, 20, 21, 22, 23, 24, 25, 26, 27, 28] [5, 10] (fun W => W = W3.drew) (by kernel_rfl) (by kernel_rfl) rfl ?_
          iterate 5 (refine M_pure (by rfl) (by rfl) ?_; apply Exists.intro; apply And.intro; (case left => (intro w hSw; (try dsimp only at hSw); go_simp; try with_reducible rfl)); (try simp only [Act.put, List.setIfInBounds_toArray, List.set_cons_zero, List.set_cons_succ]))
          (refine M_call (by rfl) (by rfl) ?_; apply Exists.intro; apply Exists.intro; apply And.intro; (case left => (go_simp; first | (refine ⟨?_, ?_⟩ <;> with_reducible rfl) | rfl)))
          refine (within_any _ _ _ _).mono ?_
          rintro e W' ⟨rfl, rfl⟩
          rw [HU0.out]
          refine ⟨_, rfl, rfl, ?_⟩
          (try simp only [Act.put, List.setIfInBounds_toArray, List.set_cons_zero, List.set_cons_succ])
          iterate 4 (refine M_pure (by rfl) (by rfl) ?_; apply Exists.intro; apply And.intro; (case left => (intro w hSw; (try dsimp only at hSw); go_simp; try with_reducible rfl)); (try simp only [Act.put, List.setIfInBounds_toArray, List.set_cons_zero, List.set_cons_succ]))
          (refine M_call (by rfl) (by rfl) ?_; apply Exists.intro; apply Exists.intro; apply And.intro; (case left => (go_simp; first | (refine ⟨?_, ?_⟩ <;> with_reducible rfl) | rfl)))
          refine (volume_any _ _).mono ?_
          rintro e W' ⟨rfl, rfl⟩
          rw [HU1.out]
          refine ⟨_, rfl, rfl, ?_⟩
          (try simp only [Act.put, List.setIfInBounds_toArray, List.set_cons_zero, List.set_cons_succ])
          iterate 18 (refine M_pure (by rfl) (by rfl) ?_; apply Exists.intro; apply And.intro; (case left => (intro w hSw; (try dsimp only at hSw); go_simp; try with_reducible rfl)); (try simp only [Act.put, List.setIfInBounds_toArray, List.set_cons_zero, List.set_cons_succ]))
          refine M_nil ?_
          try dsimp only
          go_wp2_with fail
          go_ret
          exact ⟨by rw [HT.out, ← HV0.out, rainB_no hkl (by rw [HOK.out]; rfl)]; rfl, HB2.out.trans (HB3.out.drew.mono HB2.out.size)⟩
        go_wp2_with fail
        refine wp_region_M [0, 1, 2, 3, 4, 5, 6, 7, 8, 9, 10, 11, 12, 13, 14, 15, 16, 17, 18, 19, 20, 21, 22, 23, 24, 25, 26, 27, 28] [5, 10] (fun W => W = W3.drew) (by kernel_rfl) (by kernel_rfl) rfl ?_
        iterate 5 (refine M_pure (by rfl) (by rfl) ?_; apply Exists.intro; apply And.intro; (case left => (intro w hSw; (try dsimp only at hSw); go_simp; try with_reducible rfl)); (try simp only [Act.put, List.setIfInBounds_toArray, List.set_cons_zero, List.set_cons_succ]))
        (refine M_call (by rfl) (by rfl) ?_; apply Exists.intro; apply Exists.intro; apply And.intro; (case left => (go_simp; first | (refine ⟨?_, ?_⟩ <;> with_reducible rfl) | rfl)))
        refine (within_any _ _ _ _).mono ?_
        rintro e W' ⟨rfl, rfl⟩
        rw [HU0.out]
        refine ⟨_, rfl, rfl, ?_⟩
        (try simp only [Act.put, List.setIfInBounds_toArray, List.set_cons_zero, List.set_cons_succ])
        iterate 4 (refine M_pure (by rfl) (by rfl) ?_; apply Exists.intro; apply And.intro; (case left => (intro w hSw; (try dsimp only at hSw); go_simp; try with_reducible rfl)); (try simp only [Act.put, List.setIfInBounds_toArray, List.set_cons_zero, List.set_cons_succ]))
        (refine M_call (by rfl) (by rfl) ?_; apply Exists.intro; apply Exists.intro; apply And.intro; (case left => (go_simp; first | (refine ⟨?_, ?_⟩ <;> with_reducible rfl) | rfl)))
        refine (volume_any _ _).mono ?_
        rintro e W' ⟨rfl, rfl⟩
        rw [HU1.out]
        refine ⟨_, rfl, rfl, ?_⟩
        (try simp only [Act.put, List.setIfInBounds_toArray, List.set_cons_zero, List.set_cons_succ])
        iterate 18 (refine M_pure (by rfl) (by rfl) ?_; apply Exists.intro; apply And.intro; (case left => (intro w hSw; (try dsimp only at hSw); go_simp; try with_reducible rfl)); (try simp only [Act.put, List.setIfInBounds_toArray, List.set_cons_zero, List.set_cons_succ]))
        refine M_nil ?_
        try dsimp only
        go_wp2_with fail
        go_roundw
        case rel =>
          refine ⟨k1 + 1, by omega, by go_num, Lib.hid (fun j hj => ?_), HB3.out.drew⟩
          by_cases hjk : j < k1
          · exact HALL.out j hjk
          · obtain rfl : j = k1 := by omega
            rw [HOK.out]
            rfl
        case measure => simp [intOf]; omega
    · obtain rfl : k = N := by omega
      have HV0T := Lib.hid (rainB_yes (cells := b.cells) (l := p.rn.l) (fun j hj => HALL.out j (by rw [HRN.out.len, HN.out] at hj; exact hj)))
      obtain rfl : v0 = true := HV0.out.symm.trans HV0T.out
      obtain ⟨c1, c2⟩ := FC.out wr HB.out
      clear HALL hlt hk hsz
      have HBW := Lib.hid (HB2.out.trans (HB.out.mono HB2.out.size))
      go_wp2_with fail
      refine (within_any _ _ _ _).mono ?_
      rintro e W' ⟨rfl, rfl⟩
      rw [HV1.out]
      cases v1
      · go_wp2_with fail
        go_ret
        exact ⟨by rw [HT.out]; rfl, HBW.out⟩
      go_wp2_with fail
      refine (within_any _ _ _ _).mono ?_
      rintro e W' ⟨rfl, rfl⟩
      rw [HV2.out]
      cases v2
      · go_wp2_with fail
        go_ret
        exact ⟨by rw [HT.out]; rfl, HBW.out⟩
      go_wp2_with fail
      refine (volume_any _ _).mono ?_
      rintro e W' ⟨rfl, rfl⟩
      rw [HV3.out]
      cases v3
      · go_wp2_with fail
        go_ret
        exact ⟨by rw [HT.out]; rfl, HBW.out⟩
      go_wp2_with fail
      refine (volume_any _ _).mono ?_
      rintro e W' ⟨rfl, rfl⟩
      rw [HV4.out]
      cases v4
      · go_wp2_with fail
        go_ret
        exact ⟨by rw [HT.out]; rfl, HBW.out⟩
      go_wp2_with fail
      refine (within_any _ _ _ _).mono ?_
      rintro e W' ⟨rfl, rfl⟩
      rw [HV5.out]
      cases v5
      · go_wp2_with fail
        go_ret
        exact ⟨by rw [HT.out]; rfl, HBW.out⟩
      have hne6 : ((p.st.n : Int) != (b.ow.n : Int)) = !v6 := by
        rw [← HV6.out]
        by_cases h : p.st.n = b.ow.n
        · simp [h]
        · have h2 : ¬ ((p.st.n : Int) = (b.ow.n : Int)) := by omega
          simp [h, h2]
      cases v6
      · go_wp2_with fail
        go_ret
        exact ⟨by rw [HT.out]; rfl, HBW.out⟩
      go_wp2_with fail
      refine (CC.out wr HBW.out).mono ?_
      rintro e W4 ⟨rfl, hb4⟩
      have HB4 := Lib.hid (HBW.out.trans (hb4.mono HBW.out.size))
      have hb24 : Below W2.heap.size W2 W4 := HB.out.trans (hb4.mono HB.out.size)
      have HB24 := Lib.hid hb24
      clear c1 c2
      obtain ⟨c1, c2⟩ := FC.out W4 hb24
      clear hb4 hb24
      cases v7
      · go_wp2_with fail
        go_ret
        exact ⟨by rw [HT.out]; rfl, HB4.out⟩
      go_wp2_with fail
      refine (fraction_any _ _ _ _).mono ?_
      rintro e W' ⟨rfl, rfl⟩
      rw [HV8.out]
      cases v8
      · go_wp2_with fail
        go_ret
        exact ⟨by rw [HT.out]; rfl, HB4.out⟩
      have hne9 : (p.down != (i : Int)) = v9 := HV9.out
      cases v9
      · go_wp2_with fail
        go_ret
        exact ⟨by rw [HT.out]; rfl, HB4.out⟩
      go_wp2_with fail
      refine (CR.out W4 HB4.out).mono ?_
      rintro e W5 ⟨rfl, hb5⟩
      have HB5 := Lib.hid (HB4.out.trans (hb5.mono HB4.out.size))
      clear c1 c2
      obtain ⟨c1, c2⟩ := FC.out W5 (HB24.out.trans (hb5.mono HB24.out.size))
      clear hb5
      cases v10
      · go_wp2_with fail
        go_ret
        exact ⟨by rw [HT.out]; rfl, HB5.out⟩
      go_wp2_with fail
      refine (CF.out W5 HB5.out).mono ?_
      rintro e W6 ⟨rfl, hb6⟩
      have HB6 := Lib.hid (HB5.out.trans (hb6.mono HB5.out.size))
      clear hb6
      go_wp2_with fail
      go_ret
      exact ⟨by rw [HT.out]; rfl, HB6.out⟩

end Go.Proofs.Ytmkbojhnbkdalaa
