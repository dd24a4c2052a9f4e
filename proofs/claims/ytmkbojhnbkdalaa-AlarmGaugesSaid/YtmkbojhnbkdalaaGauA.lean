/- The walk of curve.Least. -/
import Derived.Test.YtmkbojhnbkdalaaBasG2
set_option linter.unusedSimpArgs false
set_option linter.unusedVariables false
namespace Go.Proofs.Ytmkbojhnbkdalaa
open Go.RowKit

def geY (l : List Pt) (x : Int) (k : Nat) : Bool := match l[k]? with | some p => decide (x ≤ p.y) | none => false
set_option maxRecDepth 100000 in
set_option maxHeartbeats 400000 in
theorem least1_any (s : SlR Pt) (x : Int) (bc bx i : Nat) (W w0 : World) (B : Nat) (hM : SlR.Mem (Rw cPt MPt) 2 w0 B s) (hW : Below B w0 W) (hi : i < s.n)
    (hc : W.cell? ⟨bc, 0, none⟩ = some (.slice s.a s.n s.c)) (hx : W.cell? ⟨bx, 0, none⟩ = some (.int .i64 x)) :
    Calls Try.prog 65 #[.int .i64 (i : Int), .pointer (some ⟨bc, 0, none⟩), .pointer (some ⟨bx, 0, none⟩)] W fun e w' => e = .returned (.bool (geY s.l x i)) ∧ Below W.heap.size W w' := by
  have hn := two_byte hM.le
  obtain ⟨pb, po, p, hpa, hpb, hx', _, hcc⟩ := hM.at_ hi
  have e0 := hcc W hW 1 _ rfl
  rw [hpa] at hc
  have HG := Lib.hid (show geY s.l x i = decide (x ≤ p.y) by unfold geY; rw [hx'])
  have hi0 : (0 : Int) ≤ (i : Int) := by omega
  have hin : (i : Int) < (s.n : Int) := by omega
  have hiw : IntKind.i64.wrap (i : Int) = (i : Int) := i64_id i (by omega)
  clear hM hW hpa hx' hcc
  go_enter Try.func65, Try.ntmps65
  go_wp2_with fail
  refine wp_region_head 8 (fun w' => w' = W.drew) (by kernel_rfl) (by kernel_rfl) rfl ?_
  iterate 8 (refine chain_pure (by rfl) ?_; apply Exists.intro; apply And.intro; (case left => (intro w hSw; (try dsimp only at hSw); go_simp; try with_reducible rfl)); (try simp only [Act.put, List.setIfInBounds_toArray, List.set_cons_zero, List.set_cons_succ]))
  intro W' hSW
  subst hSW
  go_wp2
  go_ret
  exact ⟨by rw [HG.out]; rfl, (Below.refl _ _).drew⟩


def leastI (l : List Pt) (x : Int) : Nat := searchI (geY l x) l.length
def leastF (l : List Pt) (x : Int) : Int × Bool :=
  if curveB l = false then (0, false) else if leastI l x = l.length then (0, false) else if leastI l x = 0 then (0, true) else
  match l[leastI l x - 1]?, l[leastI l x]? with
  | some p, some q => (p.x + (scaleQ (x - p.y) (q.x - p.x) (q.y - p.y) + (if 0 < scaleR (x - p.y) (q.x - p.x) (q.y - p.y) then 1 else 0)), true)
  | _, _ => (0, false)
theorem leastF_bd (l : List Pt) (x : Int) : 0 ≤ (leastF l x).1 ∧ (leastF l x).1 ≤ 2251799813685249 := by
  unfold leastF
  split
  · simp
  · rename_i hc
    have hc : curveB l = true := by simpa using hc
    split
    · simp
    · split
      · simp
      · split
        · rename_i p q hp hq
          have bp := curveB_pt hc hp
          unfold maxVolI at bp
          have bs := scaleQ_bd (x - p.y) (q.x - p.x) (q.y - p.y)
          split <;> (simp only []; omega)
        · simp

set_option maxRecDepth 100000 in
set_option maxHeartbeats 2000000 in
theorem least_any (s : SlR Pt) (x : Int) (w w0 : World) (B : Nat) (hM : SlR.Mem (Rw cPt MPt) 2 w0 B s) (hw : Below B w0 w) (hB : B ≤ w.heap.size) (hI64 : -9223372036854775808 ≤ x ∧ x ≤ 9223372036854775807) :
    Calls Try.prog 26 #[.slice s.a s.n s.c, .int .i64 x] w fun e w' => e = .returned (.tuple #[.int .i64 (leastF s.l x).1, .bool (leastF s.l x).2]) ∧ Below w.heap.size w w' := by
  have hn := two_byte hM.le
  have hLEN := hM.len
  obtain ⟨W2, hW2⟩ : ∃ W, W = (w.alloc (.cells #[.slice s.a s.n s.c] 67)).alloc (.cells #[.int .i64 x] 3) := ⟨_, rfl⟩
  have hz2 : W2.heap.size = w.heap.size + 2 := by rw [hW2]; simp
  have hBW : Below w.heap.size w W2 := by rw [hW2]; exact ((Below.refl _ _).alloc (Nat.le_refl _) _).alloc (by simp) _
  have kC : Bk W2 w.heap.size 67 #[.slice s.a s.n s.c] := by rw [hW2]; exact (Bk.new w _ _).alloc _
  have kX : Bk W2 (w.heap.size + 1) 3 #[.int .i64 x] := by rw [hW2]; exact Bk.newAt _ (by simp) _ _
  have HSRF := Lib.hid (fun W3 (hb3 : Below W2.heap.size W2 W3) (hlen : 0 < s.n ∧ s.n ≤ 32) => search_any s.n (geY s.l x) 65 #[.pointer (some ⟨w.heap.size, 0, none⟩), .pointer (some ⟨w.heap.size + 1, 0, none⟩)] W3 (by omega) (enters_of Try.func65 (by kernel_rfl) rfl)
    (fun W i hi hb => least1_any s x w.heap.size (w.heap.size + 1) i W w0 B hM (hw.trans (((hBW.trans (hb3.mono hBW.size)).trans (hb.mono (Nat.le_trans hBW.size hb3.size))).mono hB)) hi (((kC.below hb3 (by omega)).below hb (by have := hb3.size; omega)).cell 0) (((kX.below hb3 (by omega)).below hb (by have := hb3.size; omega)).cell 0)))
  have HCR := Lib.hid (curveRight_any s W2 w0 B hM (hw.trans (hBW.mono hB)) (Nat.le_trans hB hBW.size))
  have cC2 := kC.cell 0
  have cX2 := kX.cell 0
  have HMM := Lib.hid hM
  have HW := Lib.hid hw
  have HBW := Lib.hid hBW
  have HKC := Lib.hid kC
  have HKX := Lib.hid kX
  have HLEN := Lib.hid hLEN
  have HW2 := Lib.hid hW2
  have HZ2 := Lib.hid hz2
  clear hM hw hBW kC kX hLEN hW2 hz2
  go_enter Try.func26, Try.ntmps26
  go_upto_region 1 with fail
  rw [← HW2.out]
  go_wp2_with fail
  refine HCR.out.mono ?_
  rintro e W3 ⟨rfl, hb3⟩
  have HB3 := Lib.hid hb3
  have cC3 := (hb3.cell (p := ⟨w.heap.size, 0, none⟩) (by have := HZ2.out; show w.heap.size < _; omega)).trans cC2
  clear hb3 cC2 cX2
  cases hR : curveB s.l with
  | false =>
    have HL := Lib.hid (show leastF s.l x = (0, false) by unfold leastF; rw [if_pos hR])
    clear hR
    go_wp2_with fail
    go_ret2
    exact ⟨by rw [HL.out]; rfl, HBW.out.trans (HB3.out.mono HBW.out.size)⟩
  | true =>
  have hlen := curveB_len hR
  rw [HLEN.out] at hlen
  have hsr := HSRF.out W3 HB3.out hlen
  obtain ⟨I, hI⟩ : ∃ I, I = searchI (geY s.l x) s.n := ⟨_, rfl⟩
  obtain ⟨hI1, hI2, hI3⟩ := searchI_prop (geY s.l x) s.n
  rw [← hI] at hsr hI1 hI2 hI3
  have HI := Lib.hid (show leastI s.l x = I by unfold leastI; rw [HLEN.out, hI])
  have HSR := Lib.hid hsr
  have HI2 := Lib.hid hI2
  have HI3 := Lib.hid hI3
  have HR := Lib.hid hR
  obtain ⟨pb, po, p0, hpa, hpb, hp0, _, hc0⟩ := HMM.out.at_ (k := 0) (by omega)
  obtain ⟨A, hA⟩ : ∃ A, A = s.a := ⟨_, rfl⟩
  have HPA := Lib.hid hpa
  clear hpa hR hI hI2 hI3 hsr hc0 hp0 hA
  rw [HPA.out] at cC3
  go_wp2_with fail
  refine HSR.out.mono ?_
  rintro e W1 ⟨rfl, hb1'⟩
  have hb1 : Below W2.heap.size W2 W1 := HB3.out.trans (hb1'.mono HB3.out.size)
  clear hb1' cC3
  have hz1 := hb1.size
  have hz2 := HZ2.out
  have hbw1 := HBW.out.trans (hb1.mono HBW.out.size)
  have cC := (HKC.out.below hb1 (by omega)).cell 0
  have cX := (HKX.out.below hb1 (by omega)).cell 0
  have HB1 := Lib.hid hbw1
  have HWB := Lib.hid (HW.out.trans (hbw1.mono hB))
  have hzw : w.heap.size + 2 ≤ W1.heap.size := by omega
  clear hb1 hz1 hz2 hbw1
  rw [HPA.out] at cC
  have FS := Lib.hid (show ∀ W, Below (w.heap.size + 2) W1 W → (W.cell? ⟨w.heap.size, 0, none⟩ = some (.slice (some ⟨pb, po, none⟩) s.n s.c) ∧ W.cell? ⟨w.heap.size + 1, 0, none⟩ = some (.int .i64 x)) from fun W hW => ⟨(hW.cell (p := ⟨w.heap.size, 0, none⟩) (by simp)).trans cC, (hW.cell (p := ⟨w.heap.size + 1, 0, none⟩) (by simp)).trans cX⟩)
  have hnn : (0 : Int) < (s.n : Int) := by omega
  have hB2 : B ≤ w.heap.size + 2 := by omega
  have hnz : ((s.n : Int) == 0) = false := by simp; omega
  by_cases hIn : I = s.n
  · have HD := Lib.hid (show leastF s.l x = (0, false) by
      unfold leastF
      rw [if_neg (by rw [HR.out]; simp), if_pos (by rw [HI.out, HLEN.out, hIn])])
    subst hIn
    go_wp2_with fail
    go_ret2
    exact ⟨by rw [HD.out]; rfl, HB1.out⟩
  by_cases h0 : I = 0
  · have HD := Lib.hid (show leastF s.l x = (0, true) by
      unfold leastF
      rw [if_neg (by rw [HR.out]; simp), if_neg (by rw [HI.out, HLEN.out]; exact hIn), if_pos (by rw [HI.out, h0])])
    have h0n : ((0 : Int) == (s.n : Int)) = false := by simp; omega
    subst h0
    go_wp2_with fail
    go_ret2
    exact ⟨by rw [HD.out]; rfl, HB1.out⟩
  obtain ⟨k, hk⟩ : ∃ k, I = k + 1 := ⟨I - 1, by omega⟩
  subst hk
  obtain ⟨pb', po', p, hpa', hpb', hp, _, hcp⟩ := HMM.out.at_ (k := k) (by omega)
  obtain ⟨qb, qo, q, hqa, hqb, hq, _, hcq⟩ := HMM.out.at_ (k := k + 1) (by omega)
  obtain ⟨rfl, rfl⟩ : pb = pb' ∧ po = po' := by
    have := HPA.out.symm.trans hpa'
    simpa using this
  obtain ⟨rfl, rfl⟩ : pb = qb ∧ po = qo := by
    have := HPA.out.symm.trans hqa
    simpa using this
  have e0 := hcp W1 HWB.out 0 _ rfl
  have e1 := hcp W1 HWB.out 1 _ rfl
  have g0 := hcq W1 HWB.out 0 _ rfl
  have g1 := hcq W1 HWB.out 1 _ rfl
  simp only [Nat.add_zero] at e0 g0
  have bp := curveB_pt HR.out hp
  have bq := curveB_pt HR.out hq
  have bs := curveB_step HR.out hp hq
  have bx1 : p.y < x := by
    have h := HI2.out
    rcases h with h | h
    · omega
    · rw [show k + 1 - 1 = k from rfl] at h
      unfold geY at h
      rw [hp] at h
      simpa using h
  have bx2 : x ≤ q.y := by
    have h := HI3.out
    rcases h with h | h
    · omega
    · unfold geY at h
      rw [hq] at h
      simpa using h
  unfold maxVolI at bp bq
  obtain ⟨px, hpx⟩ : ∃ z, p.x = z := ⟨_, rfl⟩
  obtain ⟨py, hpy⟩ : ∃ z, p.y = z := ⟨_, rfl⟩
  obtain ⟨qx, hqx⟩ : ∃ z, q.x = z := ⟨_, rfl⟩
  obtain ⟨qy, hqy⟩ : ∃ z, q.y = z := ⟨_, rfl⟩
  obtain ⟨dy, hdy⟩ : ∃ z, x - py = z := ⟨_, rfl⟩
  obtain ⟨dx, hdx⟩ : ∃ z, qx - px = z := ⟨_, rfl⟩
  obtain ⟨dq, hdq⟩ : ∃ z, qy - py = z := ⟨_, rfl⟩
  obtain ⟨sq, hsq⟩ : ∃ z, scaleQ dy dx dq = z := ⟨_, rfl⟩
  obtain ⟨sr, hsr⟩ : ∃ z, scaleR dy dx dq = z := ⟨_, rfl⟩
  have bsq := scaleQ_bd dy dx dq
  rw [hsq] at bsq
  rw [hpx, hpy] at bp bs
  rw [hqx, hqy] at bq bs
  rw [hpy] at bx1
  rw [hqy] at bx2
  obtain ⟨dn, hdn⟩ : ∃ z, px + sq = z := ⟨_, rfl⟩
  obtain ⟨s1, hs1⟩ : ∃ z, sq + 1 = z := ⟨_, rfl⟩
  obtain ⟨up, hup⟩ : ∃ z, px + s1 = z := ⟨_, rfl⟩
  have HD := Lib.hid (show leastF s.l x = (if 0 < sr then up else dn, true) by
    unfold leastF
    rw [if_neg (by rw [HR.out]; simp), if_neg (by rw [HI.out, HLEN.out]; exact hIn), if_neg (by rw [HI.out]; omega), HI.out, show k + 1 - 1 = k from rfl, hp, hq]
    simp only []
    rw [hpx, hpy, hqx, hqy, hdy, hdx, hdq, hsq, hsr, ← hup, ← hdn, ← hs1]
    split
    · rfl
    · rw [Int.add_zero])
  rw [hpx] at e0
  rw [hpy] at e1
  rw [hqx] at g0
  rw [hqy] at g1
  have hw0 : wrap64 (x - py) = dy := by unfold wrap64; omega
  have hv0 : IntKind.i64.wrap (x - py) = dy := by rw [IntKind.wrap_i64]; omega
  have hw1 : wrap64 (qx - px) = dx := by unfold wrap64; omega
  have hv1 : IntKind.i64.wrap (qx - px) = dx := by rw [IntKind.wrap_i64]; omega
  have hw2 : wrap64 (qy - py) = dq := by unfold wrap64; omega
  have hv2 : IntKind.i64.wrap (qy - py) = dq := by rw [IntKind.wrap_i64]; omega
  have hw3 : wrap64 (px + sq) = dn := by unfold wrap64; omega
  have hv3 : IntKind.i64.wrap (px + sq) = dn := by rw [IntKind.wrap_i64]; omega
  have hw4 : wrap64 (sq + 1) = s1 := by unfold wrap64; omega
  have hv4 : IntKind.i64.wrap (sq + 1) = s1 := by rw [IntKind.wrap_i64]; omega
  have hw5 : wrap64 (px + s1) = up := by unfold wrap64; omega
  have hv5 : IntKind.i64.wrap (px + s1) = up := by rw [IntKind.wrap_i64]; omega
  have CS := Lib.hid (scale_any dy dx dq)
  rw [hsq, hsr] at CS
  have hb1' : (((k + 1 : Nat) : Int) == 0) = false := by simp; omega
  have hb2' : (((k + 1 : Nat) : Int) == (s.n : Int)) = false := by simp; omega
  have hk1 : ((k + 1 : Nat) : Int) - 1 = (k : Int) := by omega
  obtain ⟨k1, hkk⟩ : ∃ z : Nat, k + 1 = z := ⟨_, rfl⟩
  rw [hkk] at g0 g1 hb1' hb2' hk1 ⊢
  have hkn : (k1 : Int) < (s.n : Int) := by omega
  have hkn' : (k : Int) < (s.n : Int) := by omega
  have hkz : (0 : Int) ≤ (k : Int) := by omega
  have hkz' : (0 : Int) ≤ (k1 : Int) := by omega
  have hiw : IntKind.i64.wrap (k1 : Int) = (k1 : Int) := i64_id k1 (by omega)
  have hiw2 : IntKind.i64.wrap (k : Int) = (k : Int) := i64_id k (by omega)
  have hk2 : IntKind.i64.wrap ((k1 : Int) - 1) = (k : Int) := by rw [hk1]; exact hiw2
  have HL := Lib.hid (show ∀ W, Below (w.heap.size + 2) W1 W → (Below (w.heap.size + 2) W1 W ∧ W.cell? ⟨w.heap.size, 0, none⟩ = some (.slice (some ⟨pb, po, none⟩) s.n s.c) ∧ W.cell? ⟨pb, po + k * 2, none⟩ = some (.int .i64 px) ∧ W.cell? ⟨pb, po + k * 2 + 1, none⟩ = some (.int .i64 py) ∧ W.cell? ⟨pb, po + k1 * 2, none⟩ = some (.int .i64 qx) ∧ W.cell? ⟨pb, po + k1 * 2 + 1, none⟩ = some (.int .i64 qy)) from fun W hW =>
    ⟨hW, (FS.out W hW).1, (hW.cell (p := ⟨pb, po + k * 2, none⟩) (by show pb < _; omega)).trans e0, (hW.cell (p := ⟨pb, po + k * 2 + 1, none⟩) (by show pb < _; omega)).trans e1, (hW.cell (p := ⟨pb, po + k1 * 2, none⟩) (by show pb < _; omega)).trans g0, (hW.cell (p := ⟨pb, po + k1 * 2 + 1, none⟩) (by show pb < _; omega)).trans g1⟩)
  clear hpa' hqa hp hq hcp hcq hpx hpy hqx hqy hdy hdx hdq hsq hsr bsq bp bq bs bx1 bx2 hdn hup hs1 e0 e1 g0 g1 hkk hIn h0
  go_upto_region 9 with fail
  go_cut [7, 8] (fun s7 s8 wx => ∃ ga gb, s7 = .pointer (some ⟨ga, 0, none⟩) ∧ s8 = .pointer (some ⟨gb, 0, none⟩) ∧ Bk wx ga 133 #[.int .i64 px, .int .i64 py] ∧ Bk wx gb 133 #[.int .i64 qx, .int .i64 qy] ∧ Below (w.heap.size + 2) W1 wx)
  case first =>
    go_wp2_with fail
    have HBD := Lib.hid (show Below (w.heap.size + 2) W1 W1.drew from (Below.refl _ _).drew)
    refine GoodN.region (by kernel_rfl) ?_
    refine GoodN.split 9 10 (by decide) ?_ ?_
    · refine GoodN.chain [0, 1, 2, 3, 4, 5, 6, 7, 8, 9, 10, 11, 12] [9, 10, 11, 12] (fun W => Below (w.heap.size + 2) W1 W ∧ W.cell? ⟨w.heap.size, 0, none⟩ = some (.slice (some ⟨pb, po, none⟩) s.n s.c) ∧ W.cell? ⟨pb, po + k * 2, none⟩ = some (.int .i64 px) ∧ W.cell? ⟨pb, po + k * 2 + 1, none⟩ = some (.int .i64 py) ∧ W.cell? ⟨pb, po + k1 * 2, none⟩ = some (.int .i64 qx) ∧ W.cell? ⟨pb, po + k1 * 2 + 1, none⟩ = some (.int .i64 qy)) (by kernel_rfl) (HL.out _ HBD.out) ?_
      iterate 9 (refine M_pure (by rfl) (by rfl) ?_; apply Exists.intro; apply And.intro; (case left => (intro w hSw; (try dsimp only at hSw); go_simp; try with_reducible rfl)); (try simp only [Act.put, List.setIfInBounds_toArray, List.set_cons_zero, List.set_cons_succ]))
      have hb1 : Below (w.heap.size + 2) W1 (W1.drew.alloc (.cells #[.int .i64 0, .int .i64 0] 133)) := HBD.out.alloc hzw _
      refine M_do (by rfl) (by rfl) ⟨.pointer (some ⟨W1.heap.size, 0, none⟩), W1.drew.alloc (.cells #[.int .i64 0, .int .i64 0] 133), (by go_simp), HL.out _ hb1, ?_⟩
      (try simp only [Act.put, List.setIfInBounds_toArray, List.set_cons_zero, List.set_cons_succ])
      have hb2 : Below (w.heap.size + 2) W1 ((W1.drew.alloc (.cells #[.int .i64 0, .int .i64 0] 133)).alloc (.cells #[.int .i64 0, .int .i64 0] 133)) := hb1.alloc (by simp; omega) _
      refine M_do (by rfl) (by rfl) ⟨.pointer (some ⟨W1.heap.size + 1, 0, none⟩), (W1.drew.alloc (.cells #[.int .i64 0, .int .i64 0] 133)).alloc (.cells #[.int .i64 0, .int .i64 0] 133), (by go_simp), HL.out _ hb2, ?_⟩
      (try simp only [Act.put, List.setIfInBounds_toArray, List.set_cons_zero, List.set_cons_succ])
      obtain ⟨Wa, hWa⟩ : ∃ z, z = (W1.drew.alloc (.cells #[.int .i64 0, .int .i64 0] 133)).alloc (.cells #[.int .i64 0, .int .i64 0] 133) := ⟨_, rfl⟩
      have hba : Below (w.heap.size + 2) W1 Wa := by rw [hWa]; exact hb2
      have ka : Bk Wa (W1.heap.size) 133 #[.int .i64 0, .int .i64 0] := by rw [hWa]; exact (Bk.newAt W1.drew rfl 133 #[.int .i64 0, .int .i64 0]).alloc _
      have kb : Bk Wa (W1.heap.size + 1) 133 #[.int .i64 0, .int .i64 0] := by rw [hWa]; exact Bk.newAt (W1.drew.alloc (.cells #[.int .i64 0, .int .i64 0] 133)) (by simp) 133 #[.int .i64 0, .int .i64 0]
      rw [← hWa]
      obtain ⟨gb, hgb⟩ : ∃ z, z = W1.heap.size + 1 := ⟨_, rfl⟩
      rw [← hgb] at kb ⊢
      obtain ⟨ga, hga⟩ : ∃ z, z = W1.heap.size := ⟨_, rfl⟩
      rw [← hga] at ka ⊢
      have hga2 : w.heap.size + 2 ≤ ga := by omega
      have hgb2 : w.heap.size + 2 ≤ gb := by omega
      have hab : ga ≠ gb := by omega
      clear hga hgb hWa hb1 hb2
      have ca := ka.cell
      have fa := ka.frozen
      have hb3 : Below (w.heap.size + 2) W1 ((Wa.setCell ⟨ga, 0, none⟩ (.int .i64 px)).setCell ⟨ga, 1, none⟩ (.int .i64 py)) := (hba.setCell (p := ⟨ga, 0, none⟩) hga2 _).setCell (p := ⟨ga, 1, none⟩) hga2 _
      have ka3 : Bk ((Wa.setCell ⟨ga, 0, none⟩ (.int .i64 px)).setCell ⟨ga, 1, none⟩ (.int .i64 py)) ga 133 #[.int .i64 px, .int .i64 py] := (ka.set_ 0 _).set_ 1 _
      have kb3 : Bk ((Wa.setCell ⟨ga, 0, none⟩ (.int .i64 px)).setCell ⟨ga, 1, none⟩ (.int .i64 py)) gb 133 #[.int .i64 0, .int .i64 0] := (kb.far (p := ⟨ga, 0, none⟩) (fun h => hab h.symm) _).far (p := ⟨ga, 1, none⟩) (fun h => hab h.symm) _
      refine M_store (by rfl) (by rfl) ?_
      refine ⟨_, (by go_simp; try with_reducible rfl), HL.out _ hb3, ?_⟩
      (try simp only [Act.put, List.setIfInBounds_toArray, List.set_cons_zero, List.set_cons_succ])
      clear ca fa ka kb hba
      obtain ⟨Wb, hWb⟩ : ∃ z, z = (Wa.setCell ⟨ga, 0, none⟩ (.int .i64 px)).setCell ⟨ga, 1, none⟩ (.int .i64 py) := ⟨_, rfl⟩
      rw [← hWb] at hb3 ka3 kb3 ⊢
      clear hWb
      have cb := kb3.cell
      have fb := kb3.frozen
      have hb4 : Below (w.heap.size + 2) W1 ((Wb.setCell ⟨gb, 0, none⟩ (.int .i64 qx)).setCell ⟨gb, 1, none⟩ (.int .i64 qy)) := (hb3.setCell (p := ⟨gb, 0, none⟩) hgb2 _).setCell (p := ⟨gb, 1, none⟩) hgb2 _
      have kb4 : Bk ((Wb.setCell ⟨gb, 0, none⟩ (.int .i64 qx)).setCell ⟨gb, 1, none⟩ (.int .i64 qy)) gb 133 #[.int .i64 qx, .int .i64 qy] := (kb3.set_ 0 _).set_ 1 _
      have ka4 : Bk ((Wb.setCell ⟨gb, 0, none⟩ (.int .i64 qx)).setCell ⟨gb, 1, none⟩ (.int .i64 qy)) ga 133 #[.int .i64 px, .int .i64 py] := (ka3.far (p := ⟨gb, 0, none⟩) (fun h => hab h) _).far (p := ⟨gb, 1, none⟩) (fun h => hab h) _
      refine M_store (by rfl) (by rfl) ?_
      refine ⟨_, (by go_simp; try with_reducible rfl), HL.out _ hb4, ?_⟩
      (try simp only [Act.put, List.setIfInBounds_toArray, List.set_cons_zero, List.set_cons_succ])
      clear cb fb ka3 kb3 hb3
      refine M_nil ?_
      try dsimp only
      have HK := Lib.hid (show _ ∧ _ ∧ _ from ⟨ka4, kb4, hb4⟩)
      clear ka4 kb4 hb4
      go_wp2_with fail
      go_meet
      exact ⟨ga, gb, rfl, rfl, HK.out.1, HK.out.2.1, HK.out.2.2⟩
    · refine GoodN.chain [0, 1, 2, 3, 4, 5, 6, 7, 8, 10, 9, 11, 12] [9, 10, 11, 12] (fun W => Below (w.heap.size + 2) W1 W ∧ W.cell? ⟨w.heap.size, 0, none⟩ = some (.slice (some ⟨pb, po, none⟩) s.n s.c) ∧ W.cell? ⟨pb, po + k * 2, none⟩ = some (.int .i64 px) ∧ W.cell? ⟨pb, po + k * 2 + 1, none⟩ = some (.int .i64 py) ∧ W.cell? ⟨pb, po + k1 * 2, none⟩ = some (.int .i64 qx) ∧ W.cell? ⟨pb, po + k1 * 2 + 1, none⟩ = some (.int .i64 qy)) (by kernel_rfl) (HL.out _ HBD.out) ?_
      iterate 9 (refine M_pure (by rfl) (by rfl) ?_; apply Exists.intro; apply And.intro; (case left => (intro w hSw; (try dsimp only at hSw); go_simp; try with_reducible rfl)); (try simp only [Act.put, List.setIfInBounds_toArray, List.set_cons_zero, List.set_cons_succ]))
      have hb1 : Below (w.heap.size + 2) W1 (W1.drew.alloc (.cells #[.int .i64 0, .int .i64 0] 133)) := HBD.out.alloc hzw _
      refine M_do (by rfl) (by rfl) ⟨.pointer (some ⟨W1.heap.size, 0, none⟩), W1.drew.alloc (.cells #[.int .i64 0, .int .i64 0] 133), (by go_simp), HL.out _ hb1, ?_⟩
      (try simp only [Act.put, List.setIfInBounds_toArray, List.set_cons_zero, List.set_cons_succ])
      have hb2 : Below (w.heap.size + 2) W1 ((W1.drew.alloc (.cells #[.int .i64 0, .int .i64 0] 133)).alloc (.cells #[.int .i64 0, .int .i64 0] 133)) := hb1.alloc (by simp; omega) _
      refine M_do (by rfl) (by rfl) ⟨.pointer (some ⟨W1.heap.size + 1, 0, none⟩), (W1.drew.alloc (.cells #[.int .i64 0, .int .i64 0] 133)).alloc (.cells #[.int .i64 0, .int .i64 0] 133), (by go_simp), HL.out _ hb2, ?_⟩
      (try simp only [Act.put, List.setIfInBounds_toArray, List.set_cons_zero, List.set_cons_succ])
      obtain ⟨Wa, hWa⟩ : ∃ z, z = (W1.drew.alloc (.cells #[.int .i64 0, .int .i64 0] 133)).alloc (.cells #[.int .i64 0, .int .i64 0] 133) := ⟨_, rfl⟩
      have hba : Below (w.heap.size + 2) W1 Wa := by rw [hWa]; exact hb2
      have ka : Bk Wa (W1.heap.size + 1) 133 #[.int .i64 0, .int .i64 0] := by rw [hWa]; exact Bk.newAt (W1.drew.alloc (.cells #[.int .i64 0, .int .i64 0] 133)) (by simp) 133 #[.int .i64 0, .int .i64 0]
      have kb : Bk Wa (W1.heap.size) 133 #[.int .i64 0, .int .i64 0] := by rw [hWa]; exact (Bk.newAt W1.drew rfl 133 #[.int .i64 0, .int .i64 0]).alloc _
      rw [← hWa]
      obtain ⟨ga, hga⟩ : ∃ z, z = W1.heap.size + 1 := ⟨_, rfl⟩
      obtain ⟨gb, hgb⟩ : ∃ z, z = W1.heap.size := ⟨_, rfl⟩
      rw [← hga] at ka ⊢
      rw [← hgb] at kb ⊢
      have hga2 : w.heap.size + 2 ≤ ga := by omega
      have hgb2 : w.heap.size + 2 ≤ gb := by omega
      have hab : ga ≠ gb := by omega
      clear hga hgb hWa hb1 hb2
      have ca := ka.cell
      have fa := ka.frozen
      have hb3 : Below (w.heap.size + 2) W1 ((Wa.setCell ⟨ga, 0, none⟩ (.int .i64 px)).setCell ⟨ga, 1, none⟩ (.int .i64 py)) := (hba.setCell (p := ⟨ga, 0, none⟩) hga2 _).setCell (p := ⟨ga, 1, none⟩) hga2 _
      have ka3 : Bk ((Wa.setCell ⟨ga, 0, none⟩ (.int .i64 px)).setCell ⟨ga, 1, none⟩ (.int .i64 py)) ga 133 #[.int .i64 px, .int .i64 py] := (ka.set_ 0 _).set_ 1 _
      have kb3 : Bk ((Wa.setCell ⟨ga, 0, none⟩ (.int .i64 px)).setCell ⟨ga, 1, none⟩ (.int .i64 py)) gb 133 #[.int .i64 0, .int .i64 0] := (kb.far (p := ⟨ga, 0, none⟩) (fun h => hab h.symm) _).far (p := ⟨ga, 1, none⟩) (fun h => hab h.symm) _
      refine M_store (by rfl) (by rfl) ?_
      refine ⟨_, (by go_simp; try with_reducible rfl), HL.out _ hb3, ?_⟩
      (try simp only [Act.put, List.setIfInBounds_toArray, List.set_cons_zero, List.set_cons_succ])
      clear ca fa ka kb hba
      obtain ⟨Wb, hWb⟩ : ∃ z, z = (Wa.setCell ⟨ga, 0, none⟩ (.int .i64 px)).setCell ⟨ga, 1, none⟩ (.int .i64 py) := ⟨_, rfl⟩
      rw [← hWb] at hb3 ka3 kb3 ⊢
      clear hWb
      have cb := kb3.cell
      have fb := kb3.frozen
      have hb4 : Below (w.heap.size + 2) W1 ((Wb.setCell ⟨gb, 0, none⟩ (.int .i64 qx)).setCell ⟨gb, 1, none⟩ (.int .i64 qy)) := (hb3.setCell (p := ⟨gb, 0, none⟩) hgb2 _).setCell (p := ⟨gb, 1, none⟩) hgb2 _
      have kb4 : Bk ((Wb.setCell ⟨gb, 0, none⟩ (.int .i64 qx)).setCell ⟨gb, 1, none⟩ (.int .i64 qy)) gb 133 #[.int .i64 qx, .int .i64 qy] := (kb3.set_ 0 _).set_ 1 _
      have ka4 : Bk ((Wb.setCell ⟨gb, 0, none⟩ (.int .i64 qx)).setCell ⟨gb, 1, none⟩ (.int .i64 qy)) ga 133 #[.int .i64 px, .int .i64 py] := (ka3.far (p := ⟨gb, 0, none⟩) (fun h => hab h) _).far (p := ⟨gb, 1, none⟩) (fun h => hab h) _
      refine M_store (by rfl) (by rfl) ?_
      refine ⟨_, (by go_simp; try with_reducible rfl), HL.out _ hb4, ?_⟩
      (try simp only [Act.put, List.setIfInBounds_toArray, List.set_cons_zero, List.set_cons_succ])
      clear cb fb ka3 kb3 hb3
      refine M_nil ?_
      try dsimp only
      have HK := Lib.hid (show _ ∧ _ ∧ _ from ⟨ka4, kb4, hb4⟩)
      clear ka4 kb4 hb4
      go_wp2_with fail
      go_meet
      exact ⟨ga, gb, rfl, rfl, HK.out.1, HK.out.2.1, HK.out.2.2⟩
  case rest =>
    obtain ⟨ga, gb, rfl, rfl, ka, kb, hbc⟩ := hcut
    have hga := ka.lt
    have ca := ka.cell
    have cb := kb.cell
    have cxx := (FS.out wc hbc).2
    have HBC := Lib.hid (HB1.out.trans (hbc.mono (by omega)))
    clear ka kb hbc
    go_wp2_with fail
    refine (CS.out wc).mono ?_
    rintro e W5 ⟨rfl, hb5⟩
    have HB5 := Lib.hid (HBC.out.trans (hb5.mono HBC.out.size))
    have ca3 : W5.cell? ⟨ga, 0, none⟩ = some (.int .i64 px) := (hb5.cell (p := ⟨ga, 0, none⟩) hga).trans (ca 0)
    clear hb5 ca cb cxx
    by_cases hsr : 0 < sr
    · have hup' := HD.out
      rw [if_pos hsr] at hup'
      have HUU := Lib.hid hup'
      have hgt : decide (0 < sr) = true := decide_eq_true hsr
      clear hup'
      go_wp2_with fail
      go_ret2
      exact ⟨by rw [HUU.out]; rfl, HB5.out⟩
    · have hup' := HD.out
      rw [if_neg hsr] at hup'
      have HUU := Lib.hid hup'
      have hgt : decide (0 < sr) = false := decide_eq_false hsr
      clear hup'
      go_wp2_with fail
      go_ret2
      exact ⟨by rw [HUU.out]; rfl, HB5.out⟩

end Go.Proofs.Ytmkbojhnbkdalaa
