/- The walk of fuse.Volume. -/
import Derived.Test.YtmkbojhnbkdalaaGauB
set_option linter.unusedSimpArgs false
set_option linter.unusedVariables false
namespace Go.Proofs.Ytmkbojhnbkdalaa
open Go.RowKit

def spn0 : Spn := ⟨0, 0⟩
def volF (b : Bas) (r : Rdg) : Spn × Bool :=
  if (gaugeF b r).2 = false then (spn0, false) else if decide (r.value.lo ≤ r.value.hi) = false then (spn0, false) else
  match b.pl.l[(gaugeF b r).1.target.toNat]? with
  | none => (spn0, false)
  | some p => if (leastF p.lv.l r.value.lo).2 = false then (spn0, false) else
     meetF ⟨(leastF p.lv.l r.value.lo).1, if (leastF p.lv.l (satI (r.value.hi + 1))).2 then (leastF p.lv.l (satI (r.value.hi + 1))).1 - 1 else 1125899906842624⟩ ⟨0, 1125899906842624⟩
theorem meetF_lo {a b : Spn} (h : (meetF a b).2 = true) : (meetF a b).1.lo ≤ (meetF a b).1.hi := by
  unfold meetF at *
  split at h
  · rename_i hc; rw [if_pos hc]; exact hc
  · cases h
theorem volF_lo {b : Bas} {r : Rdg} (h : (volF b r).2 = true) : (volF b r).1.lo ≤ (volF b r).1.hi := by
  unfold volF at *
  split at h
  · cases h
  · rename_i h1
    rw [if_neg h1]
    split at h
    · cases h
    · rename_i h2
      rw [if_neg h2]
      split at h
      · cases h
      · rename_i p hp
        split at h
        · cases h
        · rename_i h3
          rw [if_neg h3]
          exact meetF_lo h
theorem gaugeF_target {b : Bas} {r : Rdg} (h : (gaugeF b r).2 = true) : 0 ≤ (gaugeF b r).1.target ∧ (gaugeF b r).1.target < (b.pl.n : Int) := by
  unfold gaugeF at *
  split at h
  · rename_i h0
    rw [if_pos h0]
    split at h
    · rename_i g hg
      simp only [Bool.and_eq_true, decide_eq_true_eq] at h
      exact h.2
    · cases h
  · cases h

set_option maxRecDepth 100000 in
set_option maxHeartbeats 4000000 in
theorem volume28_any (b : Bas) (r : Rdg) (w w0 : World) (B : Nat) (hM : MBas w0 B b) (hO : OkRdg r) (hw : Below B w0 w) (hB : B ≤ w.heap.size) :
    Calls Try.prog 8 #[.agg #[.string b.nm, .slice b.ow.a b.ow.n b.ow.c, .int .i64 b.cells, .slice b.pl.a b.pl.n b.pl.c, .slice b.lk.a b.lk.n b.lk.c, .slice b.tw.a b.tw.n b.tw.c, .slice b.gg.a b.gg.n b.gg.c, .slice b.rd.a b.rd.n b.rd.c, .slice b.sh.a b.sh.n b.sh.c, .slice b.room.a b.room.n b.room.c, .int .i64 b.err], .agg #[.int .i64 r.gauge, .int .i64 r.hour, .int .i64 r.value.lo, .int .i64 r.value.hi]] w fun e w' => e = .returned (.tuple #[.agg #[.int .i64 (volF b r).1.lo, .int .i64 (volF b r).1.hi], .bool (volF b r).2]) ∧ Below w.heap.size w w' := by
  have HM := Lib.hid hM
  have HHW := Lib.hid hw
  have HO := Lib.hid hO
  have hpn := two_byte hM.2.1.le
  have hp0 : (0 : Int) ≤ (b.pl.n : Int) := by omega
  obtain ⟨PA, hPA⟩ : ∃ z, b.pl.a = z := ⟨_, rfl⟩
  have HPA := Lib.hid hPA
  obtain ⟨W1, hW1⟩ : ∃ z, z = ((w.alloc (.cells #[.string b.nm, .slice b.ow.a b.ow.n b.ow.c, .int .i64 b.cells, .slice PA b.pl.n b.pl.c, .slice b.lk.a b.lk.n b.lk.c, .slice b.tw.a b.tw.n b.tw.c, .slice b.gg.a b.gg.n b.gg.c, .slice b.rd.a b.rd.n b.rd.c, .slice b.sh.a b.sh.n b.sh.c, .slice b.room.a b.room.n b.room.c, .int .i64 b.err] 31)).alloc (.cells #[.int .i64 r.gauge, .int .i64 r.hour, .int .i64 r.value.lo, .int .i64 r.value.hi] 36)).alloc (.cells #[.int .i64 0, .int .i64 0] 34) := ⟨_, rfl⟩
  have hz1 : W1.heap.size = w.heap.size + 3 := by rw [hW1]; simp
  have ka : Bk W1 w.heap.size 31 #[.string b.nm, .slice b.ow.a b.ow.n b.ow.c, .int .i64 b.cells, .slice PA b.pl.n b.pl.c, .slice b.lk.a b.lk.n b.lk.c, .slice b.tw.a b.tw.n b.tw.c, .slice b.gg.a b.gg.n b.gg.c, .slice b.rd.a b.rd.n b.rd.c, .slice b.sh.a b.sh.n b.sh.c, .slice b.room.a b.room.n b.room.c, .int .i64 b.err] := by rw [hW1]; exact ((Bk.new w _ _).alloc _).alloc _
  have kb : Bk W1 (w.heap.size + 1) 36 #[.int .i64 r.gauge, .int .i64 r.hour, .int .i64 r.value.lo, .int .i64 r.value.hi] := by rw [hW1]; exact (Bk.newAt _ (by simp) _ _).alloc _
  have kz : Bk W1 (w.heap.size + 2) 34 #[.int .i64 0, .int .i64 0] := by rw [hW1]; exact Bk.newAt _ (by simp) _ _
  have hb1 : Below w.heap.size w W1 := by rw [hW1]; exact (((Below.refl _ _).alloc (Nat.le_refl _) _).alloc (by simp) _).alloc (by simp; omega) _
  have FC := Lib.hid (show ∀ W, Below (w.heap.size + 3) W1 W → (∀ j, W.cell? ⟨w.heap.size, j, none⟩ = (#[.string b.nm, .slice b.ow.a b.ow.n b.ow.c, .int .i64 b.cells, .slice PA b.pl.n b.pl.c, .slice b.lk.a b.lk.n b.lk.c, .slice b.tw.a b.tw.n b.tw.c, .slice b.gg.a b.gg.n b.gg.c, .slice b.rd.a b.rd.n b.rd.c, .slice b.sh.a b.sh.n b.sh.c, .slice b.room.a b.room.n b.room.c, .int .i64 b.err] : Array Value)[j]?) ∧ (∀ j, W.cell? ⟨w.heap.size + 1, j, none⟩ = (#[.int .i64 r.gauge, .int .i64 r.hour, .int .i64 r.value.lo, .int .i64 r.value.hi] : Array Value)[j]?) ∧ Bk W (w.heap.size + 2) 34 #[.int .i64 0, .int .i64 0] from fun W hW => ⟨(ka.below hW (by omega)).cell, (kb.below hW (by omega)).cell, kz.below hW (by omega)⟩)
  have BWW := Lib.hid (show ∀ W, Below (w.heap.size + 3) W1 W → Below w.heap.size w W from fun W hW => hb1.trans (hW.mono (by omega)))
  have BUP := Lib.hid (show ∀ W W', Below (w.heap.size + 3) W1 W → Below W.heap.size W W' → Below (w.heap.size + 3) W1 W' from fun W W' hW hW' => hW.trans (hW'.mono (by have := hW.size; omega)))
  have B0 := Lib.hid (show ∀ W, Below (w.heap.size + 3) W1 W → Below B w0 W ∧ B ≤ W.heap.size from fun W hW => ⟨hw.trans ((BWW.out W hW).mono hB), Nat.le_trans hB (BWW.out W hW).size⟩)
  have HB1 := Lib.hid (Below.refl (w.heap.size + 3) W1)
  have HW1 := Lib.hid hW1
  have CG := Lib.hid (gauge_any b r W1 w0 B HM.out.2.2.2.2.1 (B0.out _ HB1.out).1 (B0.out _ HB1.out).2)
  obtain ⟨g, hg⟩ : ∃ z, (gaugeF b r).1 = z := ⟨_, rfl⟩
  obtain ⟨ok, hok⟩ : ∃ z, (gaugeF b r).2 = z := ⟨_, rfl⟩
  rw [hg, hok] at CG
  unfold gauV at CG
  rw [hPA] at CG ⊢
  have HG := Lib.hid hg
  have HOK := Lib.hid hok
  have RET := Lib.hid (show ∀ W (x y : Int) (v : Bool), Below (w.heap.size + 3) W1 W → volF b r = (⟨x, y⟩, v) → (fun W' => (∀ j, W'.cell? ⟨w.heap.size + 2, j, none⟩ = (#[.int .i64 x, .int .i64 y] : Array Value)[j]?) ∧ Below w.heap.size w W') ((W.setCell ⟨w.heap.size + 2, 0, none⟩ (.int .i64 x)).setCell ⟨w.heap.size + 2, 1, none⟩ (.int .i64 y)) from fun W x y v hW _ =>
    ⟨((((FC.out W hW).2.2).set_ 0 _).set_ 1 _).cell, ((BWW.out W hW).setCell (p := ⟨w.heap.size + 2, 0, none⟩) (by simp) _).setCell (p := ⟨w.heap.size + 2, 1, none⟩) (by simp) _⟩)
  obtain ⟨c1, c2, kz1⟩ := FC.out W1 HB1.out
  clear hM hO hw hPA ka kb kz hb1 hW1 hz1 hg hok kz1
  go_enter Try.func8, Try.ntmps8
  go_upto_region 1 with fail
  rw [← HW1.out]
  go_wp2_with fail
  refine CG.out.mono ?_
  rintro e W2 ⟨rfl, hb2⟩
  have HB2 := Lib.hid (BUP.out _ _ HB1.out hb2)
  clear hb2 c1 c2
  obtain ⟨W3, hW3⟩ : ∃ z, z = W2.alloc (.cells #[.string g.nm, .int .i64 g.kind, .int .i64 g.target, .int .i64 g.err, .int .i64 g.drift] 44) := ⟨_, rfl⟩
  have hb3 : Below W2.heap.size W2 W3 := by rw [hW3]; exact (Below.refl _ _).alloc (Nat.le_refl _) _
  have kg : Bk W3 W2.heap.size 44 #[.string g.nm, .int .i64 g.kind, .int .i64 g.target, .int .i64 g.err, .int .i64 g.drift] := by rw [hW3]; exact Bk.new W2 _ _
  have HB3 := Lib.hid (BUP.out _ _ HB2.out hb3)
  obtain ⟨h, hh⟩ : ∃ z, W2.heap.size = z := ⟨_, rfl⟩
  rw [hh] at kg
  have HKG := Lib.hid kg
  have HW3 := Lib.hid hW3
  obtain ⟨c1, c2, kz3⟩ := FC.out W3 HB3.out
  have cz := kz3.cell
  have fz := kz3.frozen
  clear hb3 hW3 kg kz3
  go_upto_region 2 with fail
  rw [← HW3.out]
  try rw [hh]
  clear hh
  cases ok
  · have HV := Lib.hid (show volF b r = (⟨0, 0⟩, false) by unfold volF; rw [if_pos HOK.out]; rfl)
    obtain ⟨ck, hbe⟩ := RET.out W3 0 0 false HB3.out HV.out
    have HBE := Lib.hid hbe
    clear hbe
    go_wp2_with fail
    refine bodyPost_ret (v := .tuple #[.agg #[.int .i64 0, .int .i64 0], .bool false]) ?_ rfl ⟨by rw [HV.out], HBE.out⟩
    simp [results, Try.results8, go_sem, *]
  go_wp2_with fail
  refine (spanRight_any ⟨r.value.lo, r.value.hi⟩ W3).mono ?_
  rintro e W4 ⟨rfl, hb4⟩
  have HB4 := Lib.hid (BUP.out _ _ HB3.out hb4)
  have HKG4 := Lib.hid (HKG.out.below hb4 HKG.out.lt)
  clear hb4 c1 c2 cz fz
  obtain ⟨c1, c2, kz4⟩ := FC.out W4 HB4.out
  have cz := kz4.cell
  have fz := kz4.frozen
  clear kz4
  obtain ⟨v1, hv1⟩ : ∃ z, decide (r.value.lo ≤ r.value.hi) = z := ⟨_, rfl⟩
  have HV1 := Lib.hid hv1
  rw [hv1]
  clear hv1
  cases v1
  · have HV := Lib.hid (show volF b r = (⟨0, 0⟩, false) by unfold volF; rw [if_neg (by rw [HOK.out]; simp), if_pos HV1.out]; rfl)
    obtain ⟨ck, hbe⟩ := RET.out W4 0 0 false HB4.out HV.out
    have HBE := Lib.hid hbe
    clear hbe
    go_wp2_with fail
    refine bodyPost_ret (v := .tuple #[.agg #[.int .i64 0, .int .i64 0], .bool false]) ?_ rfl ⟨by rw [HV.out], HBE.out⟩
    simp [results, Try.results8, go_sem, *]
  have htg := gaugeF_target HOK.out
  rw [HG.out] at htg
  obtain ⟨t, ht⟩ : ∃ t : Nat, g.target = (t : Int) := ⟨g.target.toNat, by omega⟩
  have htn : t < b.pl.n := by omega
  obtain ⟨pb, po, p, hpa, hpb, hx, hmp, hc⟩ := HM.out.2.1.at_ (k := t) htn
  obtain rfl : PA = some ⟨pb, po, none⟩ := HPA.out.symm.trans hpa
  have e4 := hc W4 (B0.out _ HB4.out).1 4 _ rfl
  have cg := HKG4.out.cell
  have ht0 : (0 : Int) ≤ (t : Int) := by omega
  have hti : (t : Int) < (b.pl.n : Int) := by omega
  have htw : IntKind.i64.wrap (t : Int) = (t : Int) := wrapI_id (by omega) (by omega)
  have bl1 := leastF_bd p.lv.l r.value.lo
  have bl2 := leastF_bd p.lv.l (satI (r.value.hi + 1))
  obtain ⟨x1, hx1⟩ : ∃ z, (leastF p.lv.l r.value.lo).1 = z := ⟨_, rfl⟩
  obtain ⟨o1, ho1⟩ : ∃ z, (leastF p.lv.l r.value.lo).2 = z := ⟨_, rfl⟩
  obtain ⟨x2, hx2⟩ : ∃ z, (leastF p.lv.l (satI (r.value.hi + 1))).1 = z := ⟨_, rfl⟩
  obtain ⟨o2, ho2⟩ : ∃ z, (leastF p.lv.l (satI (r.value.hi + 1))).2 = z := ⟨_, rfl⟩
  rw [hx2] at bl2
  obtain ⟨x3, hx3⟩ : ∃ z, x2 - 1 = z := ⟨_, rfl⟩
  have w1 : IntKind.i64.wrap (x2 - 1) = x3 := by rw [wrapI_id (by omega) (by omega), hx3]
  have w2 : wrap64 (x2 - 1) = x3 := by rw [wrap64_id (by omega) (by omega), hx3]
  have HVA := Lib.hid (show volF b r = if o1 = false then (spn0, false) else meetF ⟨x1, if o2 then x3 else 1125899906842624⟩ ⟨0, 1125899906842624⟩ by
    unfold volF
    rw [if_neg (by rw [HOK.out]; simp), if_neg (by rw [HV1.out]; simp), HG.out, ht, Int.toNat_natCast, hx]
    simp only []
    rw [hx1, ho1, hx2, ho2, hx3])
  have HLO := Lib.hid (show -9223372036854775808 ≤ r.value.lo ∧ r.value.lo ≤ 9223372036854775807 from HO.out.2.2.1)
  have CL1 := Lib.hid (least_any p.lv r.value.lo W4 w0 B hmp.1 (B0.out _ HB4.out).1 (B0.out _ HB4.out).2 HLO.out)
  have CL2 := Lib.hid (fun W (hW : Below (w.heap.size + 3) W1 W) => least_any p.lv (satI (r.value.hi + 1)) W w0 B hmp.1 (B0.out _ hW).1 (B0.out _ hW).2 (satI_bd _))
  have CAD := Lib.hid (fun W => addE_any r.value.hi 1 W HO.out.2.2.2 (by omega))
  rw [hx1, ho1] at CL1
  rw [hx2, ho2] at CL2
  obtain ⟨hi1, hhi⟩ : ∃ z, satI (r.value.hi + 1) = z := ⟨_, rfl⟩
  rw [hhi] at CL2 CAD
  clear hpa hx hmp hc htg htn bl1 bl2 hx1 ho1 hx2 ho2 hx3 hhi
  go_wp2_with fail
  refine CL1.out.mono ?_
  rintro e W5 ⟨rfl, hb5⟩
  have HB5 := Lib.hid (BUP.out _ _ HB4.out hb5)
  clear hb5 c1 c2 cz fz cg e4 ht
  obtain ⟨c1, c2, kz5⟩ := FC.out W5 HB5.out
  have cz := kz5.cell
  have fz := kz5.frozen
  clear kz5
  cases o1
  · have HV := Lib.hid (show volF b r = (⟨0, 0⟩, false) by rw [HVA.out]; rfl)
    obtain ⟨ck, hbe⟩ := RET.out W5 0 0 false HB5.out HV.out
    have HBE := Lib.hid hbe
    clear hbe
    go_wp2_with fail
    refine bodyPost_ret (v := .tuple #[.agg #[.int .i64 0, .int .i64 0], .bool false]) ?_ rfl ⟨by rw [HV.out], HBE.out⟩
    simp [results, Try.results8, go_sem, *]
  go_wp2_with fail
  refine (CAD.out W5).mono ?_
  rintro e W' ⟨rfl, rfl⟩
  go_wp2_with fail
  refine (CL2.out W5 HB5.out).mono ?_
  rintro e W6 ⟨rfl, hb6⟩
  have HB6 := Lib.hid (BUP.out _ _ HB5.out hb6)
  clear hb6 c1 c2 cz fz
  obtain ⟨hv, hhv⟩ : ∃ z, (if o2 then x3 else 1125899906842624) = z := ⟨_, rfl⟩
  have HVB := Lib.hid (show volF b r = meetF ⟨x1, hv⟩ ⟨0, 1125899906842624⟩ by rw [HVA.out, hhv]; rfl)
  have HHV := Lib.hid hhv
  obtain ⟨m, hm⟩ : ∃ z, meetF ⟨x1, hv⟩ ⟨0, 1125899906842624⟩ = z := ⟨_, rfl⟩
  obtain ⟨⟨mlo, mhi⟩, mb⟩ := m
  have CM := Lib.hid (meet_any ⟨x1, hv⟩ ⟨0, 1125899906842624⟩ W6)
  rw [hm] at CM HVB
  clear hm hhv
  cases o2
  · have hq : hv = 1125899906842624 := by have := HHV.out; simpa using this.symm
    subst hq
    clear HHV
    go_wp2_with fail
    refine CM.out.mono ?_
    rintro e W7 ⟨rfl, hb7⟩
    have HB7 := Lib.hid (BUP.out _ _ HB6.out hb7)
    obtain ⟨_, _, kz7⟩ := FC.out W7 HB7.out
    have cz := kz7.cell
    have fz := kz7.frozen
    obtain ⟨ck, hbe⟩ := RET.out W7 mlo mhi mb HB7.out HVB.out
    have HBE := Lib.hid hbe
    clear hbe hb7 kz7
    go_wp2_with fail
    refine bodyPost_ret (v := .tuple #[.agg #[.int .i64 mlo, .int .i64 mhi], .bool mb]) ?_ rfl ⟨by rw [HVB.out], HBE.out⟩
    simp [results, Try.results8, go_sem, *]
  · have hq : hv = x3 := by have := HHV.out; simpa using this.symm
    subst hq
    clear HHV
    go_wp2_with fail
    refine CM.out.mono ?_
    rintro e W7 ⟨rfl, hb7⟩
    have HB7 := Lib.hid (BUP.out _ _ HB6.out hb7)
    obtain ⟨_, _, kz7⟩ := FC.out W7 HB7.out
    have cz := kz7.cell
    have fz := kz7.frozen
    obtain ⟨ck, hbe⟩ := RET.out W7 mlo mhi mb HB7.out HVB.out
    have HBE := Lib.hid hbe
    clear hbe hb7 kz7
    go_wp2_with fail
    refine bodyPost_ret (v := .tuple #[.agg #[.int .i64 mlo, .int .i64 mhi], .bool mb]) ?_ rfl ⟨by rw [HVB.out], HBE.out⟩
    simp [results, Try.results8, go_sem, *]

end Go.Proofs.Ytmkbojhnbkdalaa
