/- The walk of curve.at. -/
import Derived.Test.YtmkbojhnbkdalaaBasG
import Derived.Test.YtmkbojhnbkdalaaRegionN
import Derived.RegionTactic
import Derived.Deep.DeepCutAuto
set_option linter.unusedSimpArgs false
set_option linter.unusedVariables false
namespace Go.Proofs.Ytmkbojhnbkdalaa
open Go.RowKit

set_option maxRecDepth 100000 in
set_option maxHeartbeats 2000000 in
theorem curveAt_any (s : SlR Pt) (x : Int) (w w0 : World) (B : Nat) (hM : SlR.Mem (Rw cPt MPt) 2 w0 B s) (hw : Below B w0 w) (hB : B ≤ w.heap.size) (hR : curveB s.l = true) :
    Calls Try.prog 70 #[.slice s.a s.n s.c, .int .i64 x] w fun e w' => e = .returned (.tuple #[.int .i64 (atD s.l x), .int .i64 (atU s.l x)]) ∧ Below w.heap.size w w' := by
  have hn := two_byte hM.le
  have hlen := curveB_len hR
  have hLEN := hM.len
  rw [hLEN] at hlen
  obtain ⟨W2, hW2⟩ : ∃ W, W = (w.alloc (.cells #[.slice s.a s.n s.c] 67)).alloc (.cells #[.int .i64 x] 3) := ⟨_, rfl⟩
  have hz2 : W2.heap.size = w.heap.size + 2 := by rw [hW2]; simp
  have hBW : Below w.heap.size w W2 := by rw [hW2]; exact ((Below.refl _ _).alloc (Nat.le_refl _) _).alloc (by simp) _
  have kC : Bk W2 w.heap.size 67 #[.slice s.a s.n s.c] := by rw [hW2]; exact (Bk.new w _ _).alloc _
  have kX : Bk W2 (w.heap.size + 1) 3 #[.int .i64 x] := by rw [hW2]; exact Bk.newAt _ (by simp) _ _
  have hsr := search_any s.n (geB s.l x) 80 #[.pointer (some ⟨w.heap.size, 0, none⟩), .pointer (some ⟨w.heap.size + 1, 0, none⟩)] W2 (by omega) (enters_of Try.func80 (by kernel_rfl) rfl)
    (fun W i hi hb => at1_any s x w.heap.size (w.heap.size + 1) i W w0 B hM (hw.trans ((hBW.trans (hb.mono hBW.size)).mono hB)) hi ((kC.below hb (by omega)).cell 0) ((kX.below hb (by omega)).cell 0))
  obtain ⟨I, hI⟩ : ∃ I, I = searchI (geB s.l x) s.n := ⟨_, rfl⟩
  obtain ⟨hI1, hI2, hI3⟩ := searchI_prop (geB s.l x) s.n
  rw [← hI] at hsr hI1 hI2 hI3
  have HI := Lib.hid (show atI s.l x = I by unfold atI; rw [hLEN, hI])
  have HSR := Lib.hid hsr
  have HI2 := Lib.hid hI2
  have HI3 := Lib.hid hI3
  have HR := Lib.hid hR
  have HMM := Lib.hid hM
  have HW := Lib.hid hw
  have HBW := Lib.hid hBW
  have HKC := Lib.hid kC
  have HKX := Lib.hid kX
  have HLEN := Lib.hid hLEN
  obtain ⟨pb, po, p0, hpa, hpb, hp0, _, hc0⟩ := hM.at_ (k := 0) (by omega)
  obtain ⟨A, hA⟩ : ∃ A, A = s.a := ⟨_, rfl⟩
  have HW2 := Lib.hid hW2
  have HZ2 := Lib.hid hz2
  have HPA := Lib.hid hpa
  clear hpa hM hw hR hI hI2 hI3 hsr hBW kC kX hLEN hW2 hz2 hc0 hp0 hA
  go_enter Try.func70, Try.ntmps70
  go_wp2_with fail
  rw [← HW2.out]
  refine HSR.out.mono ?_
  rintro e W1 ⟨rfl, hb1⟩
  have hz1 := hb1.size
  have hz2 := HZ2.out
  have hbw1 := HBW.out.trans (hb1.mono HBW.out.size)
  have cC := (HKC.out.below hb1 (by omega)).cell 0
  have cX := (HKX.out.below hb1 (by omega)).cell 0
  have HB1 := Lib.hid hbw1
  have HWB := Lib.hid (HW.out.trans (hbw1.mono hB))
  have hzw : w.heap.size + 2 ≤ W1.heap.size := by omega
  clear hb1 hz1 hz2 hbw1
  rw [HPA.out] at cC
  have FS := Lib.hid (show ∀ W, Below (w.heap.size + 2) W1 W → (W.cell? ⟨w.heap.size, 0, none⟩ = some (.slice (some ⟨pb, po, none⟩) s.n s.c) ∧ W.cell? ⟨w.heap.size + 1, 0, none⟩ = some (.int .i64 x)) from fun W hW => ⟨(hW.cell (p := ⟨w.heap.size, 0, none⟩) (by simp)).trans cC, (hW.cell (p := ⟨w.heap.size + 1, 0, none⟩) (by simp)).trans cX⟩)
  have hnn : (0 : Int) < (s.n : Int) := by omega
  have hB2 : B ≤ w.heap.size + 2 := by omega
  by_cases h0 : I = 0
  · subst h0
    obtain ⟨qb, qo, q, hqa, hqb, hq, _, hcq⟩ := HMM.out.at_ (k := 0) (by omega)
    obtain ⟨rfl, rfl⟩ : pb = qb ∧ po = qo := by
      have := HPA.out.symm.trans hqa
      simpa using this
    have e1 := hcq W1 HWB.out 1 _ rfl
    simp only [Nat.zero_mul, Nat.add_zero] at e1
    have HD := Lib.hid (show atD s.l x = q.y ∧ atU s.l x = q.y by unfold atD atU; rw [HI.out]; simp only [Nat.zero_sub]; rw [hq]; simp)
    have HY := Lib.hid (show ∀ W, Below (w.heap.size + 2) W1 W → (W.cell? ⟨w.heap.size, 0, none⟩ = some (.slice (some ⟨pb, po, none⟩) s.n s.c) ∧ W.cell? ⟨pb, po + 1, none⟩ = some (.int .i64 q.y)) from fun W hW => ⟨(FS.out W hW).1, (hW.cell (p := ⟨pb, po + 1, none⟩) (by show pb < _; omega)).trans e1⟩)
    clear hqa hq hcq
    go_wp2_with fail
    refine wp_region_M [0, 1, 2, 3, 4, 5, 6, 7, 8, 9] [] (fun W => W.cell? ⟨w.heap.size, 0, none⟩ = some (.slice (some ⟨pb, po, none⟩) s.n s.c) ∧ W.cell? ⟨pb, po + 1, none⟩ = some (.int .i64 q.y)) (by kernel_rfl) (by kernel_rfl) (HY.out _ (Below.refl _ _).drew) ?_
    iterate 10 (refine M_pure (by rfl) (by rfl) ?_; apply Exists.intro; apply And.intro; (case left => (intro w hSw; (try dsimp only at hSw); go_simp; try with_reducible rfl)); (try simp only [Act.put, List.setIfInBounds_toArray, List.set_cons_zero, List.set_cons_succ]))
    refine M_nil ?_
    try dsimp only
    go_wp2_with fail
    go_ret2
    exact ⟨by rw [HD.out.1, HD.out.2]; rfl, HB1.out.drew⟩
  by_cases hIn : I = s.n
  · obtain ⟨k, hk⟩ : ∃ k, s.n = k + 1 := ⟨s.n - 1, by omega⟩
    obtain ⟨qb, qo, q, hqa, hqb, hq, _, hcq⟩ := HMM.out.at_ (k := k) (by omega)
    obtain ⟨rfl, rfl⟩ : pb = qb ∧ po = qo := by
      have := HPA.out.symm.trans hqa
      simpa using this
    have e1 := hcq W1 HWB.out 1 _ rfl
    have HD := Lib.hid (show atD s.l x = q.y ∧ atU s.l x = q.y by
      unfold atD atU
      rw [HI.out, hIn, hk, show k + 1 - 1 = k from rfl, hq, List.getElem?_eq_none (show s.l.length ≤ k + 1 by rw [HLEN.out, hk]; exact Nat.le_refl _)]
      exact ⟨rfl, rfl⟩)
    have HY := Lib.hid (show ∀ W, Below (w.heap.size + 2) W1 W → (W.cell? ⟨w.heap.size, 0, none⟩ = some (.slice (some ⟨pb, po, none⟩) s.n s.c) ∧ W.cell? ⟨pb, po + k * 2 + 1, none⟩ = some (.int .i64 q.y)) from fun W hW => ⟨(FS.out W hW).1, (hW.cell (p := ⟨pb, po + k * 2 + 1, none⟩) (by show pb < _; omega)).trans e1⟩)
    have hk1 : (s.n : Int) - 1 = (k : Int) := by omega
    have hkz : (0 : Int) ≤ (k : Int) := by omega
    have hkn : (k : Int) < (s.n : Int) := by omega
    have hkw : IntKind.i64.wrap (k : Int) = (k : Int) := i64_id k (by omega)
    have hk2 : IntKind.i64.wrap ((s.n : Int) - 1) = (k : Int) := by rw [hk1]; exact hkw
    have hz' : ((s.n : Int) == 0) = false := by simp; omega
    have hk3 : wrap64 ((s.n : Int) - 1) = (k : Int) := by unfold wrap64; omega
    clear hqa hq hcq hk
    subst hIn
    go_wp2_with fail
    refine wp_region_M [0, 1, 2, 3, 4, 5, 6, 7, 8, 9, 10, 11, 12, 13] [] (fun W => W.cell? ⟨w.heap.size, 0, none⟩ = some (.slice (some ⟨pb, po, none⟩) s.n s.c) ∧ W.cell? ⟨pb, po + k * 2 + 1, none⟩ = some (.int .i64 q.y)) (by kernel_rfl) (by kernel_rfl) (HY.out _ (Below.refl _ _).drew) ?_
    iterate 14 (refine M_pure (by rfl) (by rfl) ?_; apply Exists.intro; apply And.intro; (case left => (intro w hSw; (try dsimp only at hSw); go_simp; try with_reducible rfl)); (try simp only [Act.put, List.setIfInBounds_toArray, List.set_cons_zero, List.set_cons_succ]))
    refine M_nil ?_
    try dsimp only
    go_wp2_with fail
    go_ret2
    exact ⟨by rw [HD.out.1, HD.out.2]; rfl, HB1.out.drew⟩
  obtain ⟨k, hk⟩ : ∃ k, I = k + 1 := ⟨I - 1, by omega⟩
  subst hk
  obtain ⟨pb', po', p, hpa', hpb', hp, _, hcp⟩ := HMM.out.at_ (k := k) (by omega)
  obtain ⟨qb, qo, q, hqa, hqb, hq, _, hcq⟩ := HMM.out.at_ (k := k + 1) (by omega)
  obtain ⟨rfl, rfl⟩ : pb = pb' ∧ po = po' := by
    have := HPA.out.symm.trans hpa'
    simpa using this
  obtain ⟨rfl, rfl⟩ : pb = qb ∧ po = qo := by
    have := HPA.out.symm.trans hqa
    simpa using this
  have e0 := hcp W1 HWB.out 0 _ rfl
  have e1 := hcp W1 HWB.out 1 _ rfl
  have g0 := hcq W1 HWB.out 0 _ rfl
  have g1 := hcq W1 HWB.out 1 _ rfl
  simp only [Nat.add_zero] at e0 g0
  have bp := curveB_pt HR.out hp
  have bq := curveB_pt HR.out hq
  have bs := curveB_step HR.out hp hq
  have bx1 : p.x < x := by
    have h := HI2.out
    rcases h with h | h
    · omega
    · rw [show k + 1 - 1 = k from rfl] at h
      unfold geB at h
      rw [hp] at h
      simpa using h
  have bx2 : x ≤ q.x := by
    have h := HI3.out
    rcases h with h | h
    · omega
    · unfold geB at h
      rw [hq] at h
      simpa using h
  unfold maxVolI at bp bq
  obtain ⟨px, hpx⟩ : ∃ z, p.x = z := ⟨_, rfl⟩
  obtain ⟨py, hpy⟩ : ∃ z, p.y = z := ⟨_, rfl⟩
  obtain ⟨qx, hqx⟩ : ∃ z, q.x = z := ⟨_, rfl⟩
  obtain ⟨qy, hqy⟩ : ∃ z, q.y = z := ⟨_, rfl⟩
  obtain ⟨dy, hdy⟩ : ∃ z, qy - py = z := ⟨_, rfl⟩
  obtain ⟨dx, hdx⟩ : ∃ z, x - px = z := ⟨_, rfl⟩
  obtain ⟨dq, hdq⟩ : ∃ z, qx - px = z := ⟨_, rfl⟩
  obtain ⟨sq, hsq⟩ : ∃ z, scaleQ dy dx dq = z := ⟨_, rfl⟩
  obtain ⟨sr, hsr⟩ : ∃ z, scaleR dy dx dq = z := ⟨_, rfl⟩
  have bsq := scaleQ_bd dy dx dq
  rw [hsq] at bsq
  rw [hpx, hpy] at bp bs
  rw [hqx, hqy] at bq bs
  rw [hpx] at bx1
  rw [hqx] at bx2
  obtain ⟨dn, hdn⟩ : ∃ z, py + sq = z := ⟨_, rfl⟩
  obtain ⟨up, hup⟩ : ∃ z, dn + 1 = z := ⟨_, rfl⟩
  have HD := Lib.hid (show atD s.l x = dn by
    unfold atD
    rw [HI.out, show k + 1 - 1 = k from rfl, hp, hq]
    simp only [Nat.add_eq_zero_iff, Nat.one_ne_zero, and_false, if_false]
    rw [hpx, hpy, hqx, hqy, hdy, hdx, hdq, hsq, hdn])
  have HU := Lib.hid (show atU s.l x = if 0 < sr then up else dn by
    unfold atU
    rw [HI.out, show k + 1 - 1 = k from rfl, hp, hq]
    simp only [Nat.add_eq_zero_iff, Nat.one_ne_zero, and_false, if_false]
    rw [HD.out, hpx, hpy, hqx, hqy, hdy, hdx, hdq, hsr, ← hup]
    split <;> omega)
  rw [hpx] at e0
  rw [hpy] at e1
  rw [hqx] at g0
  rw [hqy] at g1
  have hw1 : wrap64 (qy - py) = dy := by unfold wrap64; omega
  have hw2 : wrap64 (x - px) = dx := by unfold wrap64; omega
  have hw3 : wrap64 (qx - px) = dq := by unfold wrap64; omega
  have hw4 : wrap64 (py + sq) = dn := by unfold wrap64; omega
  have hw5 : wrap64 (dn + 1) = up := by unfold wrap64; omega
  have hv1 : IntKind.i64.wrap (qy - py) = dy := by rw [IntKind.wrap_i64]; omega
  have hv2 : IntKind.i64.wrap (x - px) = dx := by rw [IntKind.wrap_i64]; omega
  have hv3 : IntKind.i64.wrap (qx - px) = dq := by rw [IntKind.wrap_i64]; omega
  have hv4 : IntKind.i64.wrap (py + sq) = dn := by rw [IntKind.wrap_i64]; omega
  have hv5 : IntKind.i64.wrap (dn + 1) = up := by rw [IntKind.wrap_i64]; omega
  have CS := Lib.hid (scale_any dy dx dq)
  rw [hsq, hsr] at CS
  have hb1' : (((k + 1 : Nat) : Int) == 0) = false := by simp; omega
  have hb2' : (((k + 1 : Nat) : Int) == (s.n : Int)) = false := by simp; omega
  have hk1 : ((k + 1 : Nat) : Int) - 1 = (k : Int) := by omega
  obtain ⟨k1, hkk⟩ : ∃ z : Nat, k + 1 = z := ⟨_, rfl⟩
  rw [hkk] at g0 g1 hb1' hb2' hk1 ⊢
  have hkn : (k1 : Int) < (s.n : Int) := by omega
  have hkn' : (k : Int) < (s.n : Int) := by omega
  have hkz : (0 : Int) ≤ (k : Int) := by omega
  have hkz' : (0 : Int) ≤ (k1 : Int) := by omega
  have hiw : IntKind.i64.wrap (k1 : Int) = (k1 : Int) := i64_id k1 (by omega)
  have hiw2 : IntKind.i64.wrap (k : Int) = (k : Int) := i64_id k (by omega)
  have hk2 : IntKind.i64.wrap ((k1 : Int) - 1) = (k : Int) := by rw [hk1]; exact hiw2
  have HL := Lib.hid (show ∀ W, Below (w.heap.size + 2) W1 W → (Below (w.heap.size + 2) W1 W ∧ W.cell? ⟨w.heap.size, 0, none⟩ = some (.slice (some ⟨pb, po, none⟩) s.n s.c) ∧ W.cell? ⟨pb, po + k * 2, none⟩ = some (.int .i64 px) ∧ W.cell? ⟨pb, po + k * 2 + 1, none⟩ = some (.int .i64 py) ∧ W.cell? ⟨pb, po + k1 * 2, none⟩ = some (.int .i64 qx) ∧ W.cell? ⟨pb, po + k1 * 2 + 1, none⟩ = some (.int .i64 qy)) from fun W hW =>
    ⟨hW, (FS.out W hW).1, (hW.cell (p := ⟨pb, po + k * 2, none⟩) (by show pb < _; omega)).trans e0, (hW.cell (p := ⟨pb, po + k * 2 + 1, none⟩) (by show pb < _; omega)).trans e1, (hW.cell (p := ⟨pb, po + k1 * 2, none⟩) (by show pb < _; omega)).trans g0, (hW.cell (p := ⟨pb, po + k1 * 2 + 1, none⟩) (by show pb < _; omega)).trans g1⟩)
  clear hpa' hqa hp hq hcp hcq hpx hpy hqx hqy hdy hdx hdq hsq hsr bsq bp bq bs bx1 bx2 hdn hup e0 e1 g0 g1 hkk hIn h0
  go_upto_region 6 with fail
  go_cut [7, 8] (fun s7 s8 wx => ∃ ga gb, s7 = .pointer (some ⟨ga, 0, none⟩) ∧ s8 = .pointer (some ⟨gb, 0, none⟩) ∧ Bk wx ga 133 #[.int .i64 px, .int .i64 py] ∧ Bk wx gb 133 #[.int .i64 qx, .int .i64 qy] ∧ Below (w.heap.size + 2) W1 wx)
  case first =>
    go_wp2_with fail
    have HBD := Lib.hid (show Below (w.heap.size + 2) W1 W1.drew from (Below.refl _ _).drew)
    refine GoodN.region (by kernel_rfl) ?_
    refine GoodN.split 9 10 (by decide) ?_ ?_
    · refine GoodN.chain [0, 1, 2, 3, 4, 5, 6, 7, 8, 9, 10, 11, 12] [9, 10, 11, 12] (fun W => Below (w.heap.size + 2) W1 W ∧ W.cell? ⟨w.heap.size, 0, none⟩ = some (.slice (some ⟨pb, po, none⟩) s.n s.c) ∧ W.cell? ⟨pb, po + k * 2, none⟩ = some (.int .i64 px) ∧ W.cell? ⟨pb, po + k * 2 + 1, none⟩ = some (.int .i64 py) ∧ W.cell? ⟨pb, po + k1 * 2, none⟩ = some (.int .i64 qx) ∧ W.cell? ⟨pb, po + k1 * 2 + 1, none⟩ = some (.int .i64 qy)) (by kernel_rfl) (HL.out _ HBD.out) ?_
      iterate 9 (refine M_pure (by rfl) (by rfl) ?_; apply Exists.intro; apply And.intro; (case left => (intro w hSw; (try dsimp only at hSw); go_simp; try with_reducible rfl)); (try simp only [Act.put, List.setIfInBounds_toArray, List.set_cons_zero, List.set_cons_succ]))
      have hb1 : Below (w.heap.size + 2) W1 (W1.drew.alloc (.cells #[.int .i64 0, .int .i64 0] 133)) := HBD.out.alloc hzw _
      refine M_do (by rfl) (by rfl) ⟨.pointer (some ⟨W1.heap.size, 0, none⟩), W1.drew.alloc (.cells #[.int .i64 0, .int .i64 0] 133), (by go_simp), HL.out _ hb1, ?_⟩
      (try simp only [Act.put, List.setIfInBounds_toArray, List.set_cons_zero, List.set_cons_succ])
      have hb2 : Below (w.heap.size + 2) W1 ((W1.drew.alloc (.cells #[.int .i64 0, .int .i64 0] 133)).alloc (.cells #[.int .i64 0, .int .i64 0] 133)) := hb1.alloc (by simp; omega) _
      refine M_do (by rfl) (by rfl) ⟨.pointer (some ⟨W1.heap.size + 1, 0, none⟩), (W1.drew.alloc (.cells #[.int .i64 0, .int .i64 0] 133)).alloc (.cells #[.int .i64 0, .int .i64 0] 133), (by go_simp), HL.out _ hb2, ?_⟩
      (try simp only [Act.put, List.setIfInBounds_toArray, List.set_cons_zero, List.set_cons_succ])
      obtain ⟨Wa, hWa⟩ : ∃ z, z = (W1.drew.alloc (.cells #[.int .i64 0, .int .i64 0] 133)).alloc (.cells #[.int .i64 0, .int .i64 0] 133) := ⟨_, rfl⟩
      have hba : Below (w.heap.size + 2) W1 Wa := by rw [hWa]; exact hb2
      have ka : Bk Wa (W1.heap.size) 133 #[.int .i64 0, .int .i64 0] := by rw [hWa]; exact (Bk.newAt W1.drew rfl 133 #[.int .i64 0, .int .i64 0]).alloc _
      have kb : Bk Wa (W1.heap.size + 1) 133 #[.int .i64 0, .int .i64 0] := by rw [hWa]; exact Bk.newAt (W1.drew.alloc (.cells #[.int .i64 0, .int .i64 0] 133)) (by simp) 133 #[.int .i64 0, .int .i64 0]
      rw [← hWa]
      obtain ⟨gb, hgb⟩ : ∃ z, z = W1.heap.size + 1 := ⟨_, rfl⟩
      rw [← hgb] at kb ⊢
      obtain ⟨ga, hga⟩ : ∃ z, z = W1.heap.size := ⟨_, rfl⟩
      rw [← hga] at ka ⊢
      have hga2 : w.heap.size + 2 ≤ ga := by omega
      have hgb2 : w.heap.size + 2 ≤ gb := by omega
      have hab : ga ≠ gb := by omega
      clear hga hgb hWa hb1 hb2
      have ca := ka.cell
      have fa := ka.frozen
      have hb3 : Below (w.heap.size + 2) W1 ((Wa.setCell ⟨ga, 0, none⟩ (.int .i64 px)).setCell ⟨ga, 1, none⟩ (.int .i64 py)) := (hba.setCell (p := ⟨ga, 0, none⟩) hga2 _).setCell (p := ⟨ga, 1, none⟩) hga2 _
      have ka3 : Bk ((Wa.setCell ⟨ga, 0, none⟩ (.int .i64 px)).setCell ⟨ga, 1, none⟩ (.int .i64 py)) ga 133 #[.int .i64 px, .int .i64 py] := (ka.set_ 0 _).set_ 1 _
      have kb3 : Bk ((Wa.setCell ⟨ga, 0, none⟩ (.int .i64 px)).setCell ⟨ga, 1, none⟩ (.int .i64 py)) gb 133 #[.int .i64 0, .int .i64 0] := (kb.far (p := ⟨ga, 0, none⟩) (fun h => hab h.symm) _).far (p := ⟨ga, 1, none⟩) (fun h => hab h.symm) _
      refine M_store (by rfl) (by rfl) ?_
      refine ⟨_, (by go_simp; try with_reducible rfl), HL.out _ hb3, ?_⟩
      (try simp only [Act.put, List.setIfInBounds_toArray, List.set_cons_zero, List.set_cons_succ])
      clear ca fa ka kb hba
      obtain ⟨Wb, hWb⟩ : ∃ z, z = (Wa.setCell ⟨ga, 0, none⟩ (.int .i64 px)).setCell ⟨ga, 1, none⟩ (.int .i64 py) := ⟨_, rfl⟩
      rw [← hWb] at hb3 ka3 kb3 ⊢
      clear hWb
      have cb := kb3.cell
      have fb := kb3.frozen
      have hb4 : Below (w.heap.size + 2) W1 ((Wb.setCell ⟨gb, 0, none⟩ (.int .i64 qx)).setCell ⟨gb, 1, none⟩ (.int .i64 qy)) := (hb3.setCell (p := ⟨gb, 0, none⟩) hgb2 _).setCell (p := ⟨gb, 1, none⟩) hgb2 _
      have kb4 : Bk ((Wb.setCell ⟨gb, 0, none⟩ (.int .i64 qx)).setCell ⟨gb, 1, none⟩ (.int .i64 qy)) gb 133 #[.int .i64 qx, .int .i64 qy] := (kb3.set_ 0 _).set_ 1 _
      have ka4 : Bk ((Wb.setCell ⟨gb, 0, none⟩ (.int .i64 qx)).setCell ⟨gb, 1, none⟩ (.int .i64 qy)) ga 133 #[.int .i64 px, .int .i64 py] := (ka3.far (p := ⟨gb, 0, none⟩) (fun h => hab h) _).far (p := ⟨gb, 1, none⟩) (fun h => hab h) _
      refine M_store (by rfl) (by rfl) ?_
      refine ⟨_, (by go_simp; try with_reducible rfl), HL.out _ hb4, ?_⟩
      (try simp only [Act.put, List.setIfInBounds_toArray, List.set_cons_zero, List.set_cons_succ])
      clear cb fb ka3 kb3 hb3
      refine M_nil ?_
      try dsimp only
      have HK := Lib.hid (show _ ∧ _ ∧ _ from ⟨ka4, kb4, hb4⟩)
      clear ka4 kb4 hb4
      go_wp2_with fail
      go_meet
      exact ⟨ga, gb, rfl, rfl, HK.out.1, HK.out.2.1, HK.out.2.2⟩
    · refine GoodN.chain [0, 1, 2, 3, 4, 5, 6, 7, 8, 10, 9, 11, 12] [9, 10, 11, 12] (fun W => Below (w.heap.size + 2) W1 W ∧ W.cell? ⟨w.heap.size, 0, none⟩ = some (.slice (some ⟨pb, po, none⟩) s.n s.c) ∧ W.cell? ⟨pb, po + k * 2, none⟩ = some (.int .i64 px) ∧ W.cell? ⟨pb, po + k * 2 + 1, none⟩ = some (.int .i64 py) ∧ W.cell? ⟨pb, po + k1 * 2, none⟩ = some (.int .i64 qx) ∧ W.cell? ⟨pb, po + k1 * 2 + 1, none⟩ = some (.int .i64 qy)) (by kernel_rfl) (HL.out _ HBD.out) ?_
      iterate 9 (refine M_pure (by rfl) (by rfl) ?_; apply Exists.intro; apply And.intro; (case left => (intro w hSw; (try dsimp only at hSw); go_simp; try with_reducible rfl)); (try simp only [Act.put, List.setIfInBounds_toArray, List.set_cons_zero, List.set_cons_succ]))
      have hb1 : Below (w.heap.size + 2) W1 (W1.drew.alloc (.cells #[.int .i64 0, .int .i64 0] 133)) := HBD.out.alloc hzw _
      refine M_do (by rfl) (by rfl) ⟨.pointer (some ⟨W1.heap.size, 0, none⟩), W1.drew.alloc (.cells #[.int .i64 0, .int .i64 0] 133), (by go_simp), HL.out _ hb1, ?_⟩
      (try simp only [Act.put, List.setIfInBounds_toArray, List.set_cons_zero, List.set_cons_succ])
      have hb2 : Below (w.heap.size + 2) W1 ((W1.drew.alloc (.cells #[.int .i64 0, .int .i64 0] 133)).alloc (.cells #[.int .i64 0, .int .i64 0] 133)) := hb1.alloc (by simp; omega) _
      refine M_do (by rfl) (by rfl) ⟨.pointer (some ⟨W1.heap.size + 1, 0, none⟩), (W1.drew.alloc (.cells #[.int .i64 0, .int .i64 0] 133)).alloc (.cells #[.int .i64 0, .int .i64 0] 133), (by go_simp), HL.out _ hb2, ?_⟩
      (try simp only [Act.put, List.setIfInBounds_toArray, List.set_cons_zero, List.set_cons_succ])
      obtain ⟨Wa, hWa⟩ : ∃ z, z = (W1.drew.alloc (.cells #[.int .i64 0, .int .i64 0] 133)).alloc (.cells #[.int .i64 0, .int .i64 0] 133) := ⟨_, rfl⟩
      have hba : Below (w.heap.size + 2) W1 Wa := by rw [hWa]; exact hb2
      have ka : Bk Wa (W1.heap.size + 1) 133 #[.int .i64 0, .int .i64 0] := by rw [hWa]; exact Bk.newAt (W1.drew.alloc (.cells #[.int .i64 0, .int .i64 0] 133)) (by simp) 133 #[.int .i64 0, .int .i64 0]
      have kb : Bk Wa (W1.heap.size) 133 #[.int .i64 0, .int .i64 0] := by rw [hWa]; exact (Bk.newAt W1.drew rfl 133 #[.int .i64 0, .int .i64 0]).alloc _
      rw [← hWa]
      obtain ⟨ga, hga⟩ : ∃ z, z = W1.heap.size + 1 := ⟨_, rfl⟩
      obtain ⟨gb, hgb⟩ : ∃ z, z = W1.heap.size := ⟨_, rfl⟩
      rw [← hga] at ka ⊢
      rw [← hgb] at kb ⊢
      have hga2 : w.heap.size + 2 ≤ ga := by omega
      have hgb2 : w.heap.size + 2 ≤ gb := by omega
      have hab : ga ≠ gb := by omega
      clear hga hgb hWa hb1 hb2
      have ca := ka.cell
      have fa := ka.frozen
      have hb3 : Below (w.heap.size + 2) W1 ((Wa.setCell ⟨ga, 0, none⟩ (.int .i64 px)).setCell ⟨ga, 1, none⟩ (.int .i64 py)) := (hba.setCell (p := ⟨ga, 0, none⟩) hga2 _).setCell (p := ⟨ga, 1, none⟩) hga2 _
      have ka3 : Bk ((Wa.setCell ⟨ga, 0, none⟩ (.int .i64 px)).setCell ⟨ga, 1, none⟩ (.int .i64 py)) ga 133 #[.int .i64 px, .int .i64 py] := (ka.set_ 0 _).set_ 1 _
      have kb3 : Bk ((Wa.setCell ⟨ga, 0, none⟩ (.int .i64 px)).setCell ⟨ga, 1, none⟩ (.int .i64 py)) gb 133 #[.int .i64 0, .int .i64 0] := (kb.far (p := ⟨ga, 0, none⟩) (fun h => hab h.symm) _).far (p := ⟨ga, 1, none⟩) (fun h => hab h.symm) _
      refine M_store (by rfl) (by rfl) ?_
      refine ⟨_, (by go_simp; try with_reducible rfl), HL.out _ hb3, ?_⟩
      (try simp only [Act.put, List.setIfInBounds_toArray, List.set_cons_zero, List.set_cons_succ])
      clear ca fa ka kb hba
      obtain ⟨Wb, hWb⟩ : ∃ z, z = (Wa.setCell ⟨ga, 0, none⟩ (.int .i64 px)).setCell ⟨ga, 1, none⟩ (.int .i64 py) := ⟨_, rfl⟩
      rw [← hWb] at hb3 ka3 kb3 ⊢
      clear hWb
      have cb := kb3.cell
      have fb := kb3.frozen
      have hb4 : Below (w.heap.size + 2) W1 ((Wb.setCell ⟨gb, 0, none⟩ (.int .i64 qx)).setCell ⟨gb, 1, none⟩ (.int .i64 qy)) := (hb3.setCell (p := ⟨gb, 0, none⟩) hgb2 _).setCell (p := ⟨gb, 1, none⟩) hgb2 _
      have kb4 : Bk ((Wb.setCell ⟨gb, 0, none⟩ (.int .i64 qx)).setCell ⟨gb, 1, none⟩ (.int .i64 qy)) gb 133 #[.int .i64 qx, .int .i64 qy] := (kb3.set_ 0 _).set_ 1 _
      have ka4 : Bk ((Wb.setCell ⟨gb, 0, none⟩ (.int .i64 qx)).setCell ⟨gb, 1, none⟩ (.int .i64 qy)) ga 133 #[.int .i64 px, .int .i64 py] := (ka3.far (p := ⟨gb, 0, none⟩) (fun h => hab h) _).far (p := ⟨gb, 1, none⟩) (fun h => hab h) _
      refine M_store (by rfl) (by rfl) ?_
      refine ⟨_, (by go_simp; try with_reducible rfl), HL.out _ hb4, ?_⟩
      (try simp only [Act.put, List.setIfInBounds_toArray, List.set_cons_zero, List.set_cons_succ])
      clear cb fb ka3 kb3 hb3
      refine M_nil ?_
      try dsimp only
      have HK := Lib.hid (show _ ∧ _ ∧ _ from ⟨ka4, kb4, hb4⟩)
      clear ka4 kb4 hb4
      go_wp2_with fail
      go_meet
      exact ⟨ga, gb, rfl, rfl, HK.out.1, HK.out.2.1, HK.out.2.2⟩
  case rest =>
    obtain ⟨ga, gb, rfl, rfl, ka, kb, hbc⟩ := hcut
    have hga := ka.lt
    have ca := ka.cell
    have cb := kb.cell
    have cxx := (FS.out wc hbc).2
    have HBC := Lib.hid (HB1.out.trans (hbc.mono (by omega)))
    clear ka kb hbc
    go_wp2_with fail
    refine (CS.out wc).mono ?_
    rintro e W3 ⟨rfl, hb3⟩
    have HB3 := Lib.hid (HBC.out.trans (hb3.mono HBC.out.size))
    have ca3 : W3.cell? ⟨ga, 1, none⟩ = some (.int .i64 py) := (hb3.cell (p := ⟨ga, 1, none⟩) hga).trans (ca 1)
    clear hb3 ca cb cxx
    by_cases hsr : 0 < sr
    · have hup' := HU.out
      rw [if_pos hsr] at hup'
      have HUU := Lib.hid hup'
      have hgt : decide (0 < sr) = true := decide_eq_true hsr
      clear hup'
      go_wp2_with fail
      go_ret2
      exact ⟨by rw [HD.out, HUU.out]; rfl, HB3.out⟩
    · have hup' := HU.out
      rw [if_neg hsr] at hup'
      have HUU := Lib.hid hup'
      have hgt : decide (0 < sr) = false := decide_eq_false hsr
      clear hup'
      go_wp2_with fail
      go_ret2
      exact ⟨by rw [HD.out, HUU.out]; rfl, HB3.out⟩

end Go.Proofs.Ytmkbojhnbkdalaa
