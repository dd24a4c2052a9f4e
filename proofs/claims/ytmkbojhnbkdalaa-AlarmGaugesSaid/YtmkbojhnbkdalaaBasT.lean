/- The walk of rightLink. -/
import Derived.Test.YtmkbojhnbkdalaaBasP
import Derived.Test.YtmkbojhnbkdalaaBasU
import Derived.Test.YtmkbojhnbkdalaaBasD
import Derived.Test.YtmkbojhnbkdalaaRow
import Derived.Test.YtmkbojhnbkdalaaRegionL
set_option linter.unusedSimpArgs false
set_option linter.unusedVariables false
namespace Go.Proofs.Ytmkbojhnbkdalaa
open Go.RowKit

def kindB (b : Bas) (l : Lnk) (p : Plc) : Bool :=
  if l.kind = 0 then underB l.band.lo.l l.rate.l && (underB l.rate.l l.band.hi.l && (wthB l.pos 0 64 && (wthB l.speed 0 l.pos && (volB l.leak && (fracB l.bnum l.bden true && (decide (l.bden = 0) || decide (0 ≤ l.to)))))))
  else if l.kind = 2 then volB l.num && (wthB l.pos 1 64 && wthB l.speed 0 l.pos)
  else if l.kind = 3 then fracB l.num l.den false && (volB l.prime && wthB l.brk 0 (l.prime - 1))
  else if l.kind = 4 then fracB l.num l.den false && (fracB l.bnum l.bden true && (decide (0 ≤ l.to) && (match b.pl.l[l.to.toNat]? with | some q => decide (q.office = p.office) | none => false)))
  else fracB l.num l.den false && volB l.crest
theorem linkB_at {b : Bas} {l : Lnk} {p : Plc} (hp : b.pl.l[l.frm.toNat]? = some p) : linkB b l = (wthB l.frm 0 ((b.pl.n : Int) - 1) && (!(l.frm == l.to) && (wthB l.delay 0 240 && (wthB l.kind 0 5 && (reachB b.pl.l p.office l.to && (needB l && kindB b l p)))))) := by
  unfold linkB kindB
  rw [hp]
  rfl
theorem linkB_no {b : Bas} {l : Lnk} (h : wthB l.frm 0 ((b.pl.n : Int) - 1) = false) : linkB b l = false := by
  unfold linkB
  rw [h]
  rfl

set_option maxRecDepth 100000 in
set_option maxHeartbeats 8000000 in
theorem link_any (b : Bas) (l : Lnk) (w w0 : World) (B : Nat) (hM : MBas w0 B b) (hML : MLnk w0 B l) (hw : Below B w0 w) (hB : B ≤ w.heap.size) (hn : b.pl.n ≤ 64) :
    Calls Try.prog 21 #[.agg #[.string b.nm, .slice b.ow.a b.ow.n b.ow.c, .int .i64 b.cells, .slice b.pl.a b.pl.n b.pl.c, .slice b.lk.a b.lk.n b.lk.c, .slice b.tw.a b.tw.n b.tw.c, .slice b.gg.a b.gg.n b.gg.c, .slice b.rd.a b.rd.n b.rd.c, .slice b.sh.a b.sh.n b.sh.c, .slice b.room.a b.room.n b.room.c, .int .i64 b.err], .agg #[.string l.nm, .int .i64 l.kind, .int .i64 l.frm, .int .i64 l.to, .slice l.rate.a l.rate.n l.rate.c, .slice l.band.lo.a l.band.lo.n l.band.lo.c, .slice l.band.hi.a l.band.hi.n l.band.hi.c, .int .i64 l.pos, .int .i64 l.speed, .int .i64 l.leak, .int .i64 l.crest, .int .i64 l.num, .int .i64 l.den, .int .i64 l.prime, .int .i64 l.brk, .int .i64 l.bnum, .int .i64 l.bden, .int .i64 l.delay]] w fun e w' => e = .returned (.bool (linkB b l)) ∧ Below w.heap.size w w' := by
  obtain ⟨mo, mp, m3, m4, m5, m6, m7, m8⟩ := hM
  clear mo m3 m4 m5 m6 m7 m8
  have HMP := Lib.hid mp
  have HML := Lib.hid hML
  have HHW := Lib.hid hw
  obtain ⟨PA, hPA⟩ : ∃ z, b.pl.a = z := ⟨_, rfl⟩
  have CR := Lib.hid (fun office W (hW : Below w.heap.size w W) => reaches_any b office l.to W w0 B mp (hw.trans (hW.mono hB)) (Nat.le_trans hB hW.size))
  rw [hPA] at CR ⊢
  have HPA := Lib.hid hPA
  have CN := Lib.hid (needless_any l)
  obtain ⟨W1, hW1⟩ : ∃ z, z = w.alloc (.cells #[.string b.nm, .slice b.ow.a b.ow.n b.ow.c, .int .i64 b.cells, .slice PA b.pl.n b.pl.c, .slice b.lk.a b.lk.n b.lk.c, .slice b.tw.a b.tw.n b.tw.c, .slice b.gg.a b.gg.n b.gg.c, .slice b.rd.a b.rd.n b.rd.c, .slice b.sh.a b.sh.n b.sh.c, .slice b.room.a b.room.n b.room.c, .int .i64 b.err] 31) := ⟨_, rfl⟩
  have hz1 : W1.heap.size = w.heap.size + 1 := by rw [hW1]; simp
  have k1 : Bk W1 w.heap.size 31 #[.string b.nm, .slice b.ow.a b.ow.n b.ow.c, .int .i64 b.cells, .slice PA b.pl.n b.pl.c, .slice b.lk.a b.lk.n b.lk.c, .slice b.tw.a b.tw.n b.tw.c, .slice b.gg.a b.gg.n b.gg.c, .slice b.rd.a b.rd.n b.rd.c, .slice b.sh.a b.sh.n b.sh.c, .slice b.room.a b.room.n b.room.c, .int .i64 b.err] := by rw [hW1]; exact Bk.new w _ _
  have hb1 : Below w.heap.size w W1 := by rw [hW1]; exact (Below.refl _ _).alloc (Nat.le_refl _) _
  obtain ⟨W2, hW2⟩ : ∃ z, z = (w.alloc (.cells #[.string b.nm, .slice b.ow.a b.ow.n b.ow.c, .int .i64 b.cells, .slice PA b.pl.n b.pl.c, .slice b.lk.a b.lk.n b.lk.c, .slice b.tw.a b.tw.n b.tw.c, .slice b.gg.a b.gg.n b.gg.c, .slice b.rd.a b.rd.n b.rd.c, .slice b.sh.a b.sh.n b.sh.c, .slice b.room.a b.room.n b.room.c, .int .i64 b.err] 31)).alloc (.cells #[.string l.nm, .int .i64 l.kind, .int .i64 l.frm, .int .i64 l.to, .slice l.rate.a l.rate.n l.rate.c, .slice l.band.lo.a l.band.lo.n l.band.lo.c, .slice l.band.hi.a l.band.hi.n l.band.hi.c, .int .i64 l.pos, .int .i64 l.speed, .int .i64 l.leak, .int .i64 l.crest, .int .i64 l.num, .int .i64 l.den, .int .i64 l.prime, .int .i64 l.brk, .int .i64 l.bnum, .int .i64 l.bden, .int .i64 l.delay] 79) := ⟨_, rfl⟩
  have hW21 : W2 = W1.alloc (.cells #[.string l.nm, .int .i64 l.kind, .int .i64 l.frm, .int .i64 l.to, .slice l.rate.a l.rate.n l.rate.c, .slice l.band.lo.a l.band.lo.n l.band.lo.c, .slice l.band.hi.a l.band.hi.n l.band.hi.c, .int .i64 l.pos, .int .i64 l.speed, .int .i64 l.leak, .int .i64 l.crest, .int .i64 l.num, .int .i64 l.den, .int .i64 l.prime, .int .i64 l.brk, .int .i64 l.bnum, .int .i64 l.bden, .int .i64 l.delay] 79) := by rw [hW2, hW1]
  have hz2 : W2.heap.size = w.heap.size + 2 := by rw [hW21]; simp [hz1]
  have k2 : Bk W2 w.heap.size 31 #[.string b.nm, .slice b.ow.a b.ow.n b.ow.c, .int .i64 b.cells, .slice PA b.pl.n b.pl.c, .slice b.lk.a b.lk.n b.lk.c, .slice b.tw.a b.tw.n b.tw.c, .slice b.gg.a b.gg.n b.gg.c, .slice b.rd.a b.rd.n b.rd.c, .slice b.sh.a b.sh.n b.sh.c, .slice b.room.a b.room.n b.room.c, .int .i64 b.err] := by rw [hW21]; exact k1.alloc _
  have kl : Bk W2 (w.heap.size + 1) 79 #[.string l.nm, .int .i64 l.kind, .int .i64 l.frm, .int .i64 l.to, .slice l.rate.a l.rate.n l.rate.c, .slice l.band.lo.a l.band.lo.n l.band.lo.c, .slice l.band.hi.a l.band.hi.n l.band.hi.c, .int .i64 l.pos, .int .i64 l.speed, .int .i64 l.leak, .int .i64 l.crest, .int .i64 l.num, .int .i64 l.den, .int .i64 l.prime, .int .i64 l.brk, .int .i64 l.bnum, .int .i64 l.bden, .int .i64 l.delay] := by rw [hW21, ← hz1]; exact Bk.new W1 _ _
  have hb2 : Below w.heap.size w W2 := by rw [hW21]; exact hb1.alloc (by omega) _
  have HB2 := Lib.hid hb2
  have FC := Lib.hid (show ∀ W, Below (w.heap.size + 2) W2 W → (∀ j, W.cell? ⟨w.heap.size, j, none⟩ = (#[.string b.nm, .slice b.ow.a b.ow.n b.ow.c, .int .i64 b.cells, .slice PA b.pl.n b.pl.c, .slice b.lk.a b.lk.n b.lk.c, .slice b.tw.a b.tw.n b.tw.c, .slice b.gg.a b.gg.n b.gg.c, .slice b.rd.a b.rd.n b.rd.c, .slice b.sh.a b.sh.n b.sh.c, .slice b.room.a b.room.n b.room.c, .int .i64 b.err] : Array Value)[j]?) ∧ (∀ j, W.cell? ⟨w.heap.size + 1, j, none⟩ = (#[.string l.nm, .int .i64 l.kind, .int .i64 l.frm, .int .i64 l.to, .slice l.rate.a l.rate.n l.rate.c, .slice l.band.lo.a l.band.lo.n l.band.lo.c, .slice l.band.hi.a l.band.hi.n l.band.hi.c, .int .i64 l.pos, .int .i64 l.speed, .int .i64 l.leak, .int .i64 l.crest, .int .i64 l.num, .int .i64 l.den, .int .i64 l.prime, .int .i64 l.brk, .int .i64 l.bnum, .int .i64 l.bden, .int .i64 l.delay] : Array Value)[j]?) from fun W hW => ⟨(k2.below hW (by omega)).cell, (kl.below hW (by omega)).cell⟩)
  have FK := Lib.hid (show ∀ W, Below (w.heap.size + 2) W2 W → Bk W (w.heap.size + 1) 79 #[.string l.nm, .int .i64 l.kind, .int .i64 l.frm, .int .i64 l.to, .slice l.rate.a l.rate.n l.rate.c, .slice l.band.lo.a l.band.lo.n l.band.lo.c, .slice l.band.hi.a l.band.hi.n l.band.hi.c, .int .i64 l.pos, .int .i64 l.speed, .int .i64 l.leak, .int .i64 l.crest, .int .i64 l.num, .int .i64 l.den, .int .i64 l.prime, .int .i64 l.brk, .int .i64 l.bnum, .int .i64 l.bden, .int .i64 l.delay] from fun W hW => kl.below hW (by omega))
  have BWW := Lib.hid (show ∀ W, Below (w.heap.size + 2) W2 W → Below w.heap.size w W from fun W hW => hb2.trans (hW.mono (by omega)))
  have BUP := Lib.hid (show ∀ W W', Below (w.heap.size + 2) W2 W → Below W.heap.size W W' → Below (w.heap.size + 2) W2 W' from fun W W' hW hW' => hW.trans (hW'.mono (by have := hW.size; omega)))
  have HBR := Lib.hid (Below.refl (w.heap.size + 2) W2)
  have HW2 := Lib.hid hW2
  have hn0 : (0 : Int) ≤ (b.pl.n : Int) := by omega
  have hn1 : (b.pl.n : Int) ≤ 64 := by omega
  obtain ⟨v0, hv0⟩ : ∃ z, wthB l.frm 0 ((b.pl.n : Int) - 1) = z := ⟨_, rfl⟩
  obtain ⟨v1, hv1⟩ : ∃ z, (l.frm == l.to) = z := ⟨_, rfl⟩
  obtain ⟨v2, hv2⟩ : ∃ z, wthB l.delay 0 240 = z := ⟨_, rfl⟩
  obtain ⟨v3, hv3⟩ : ∃ z, wthB l.kind 0 5 = z := ⟨_, rfl⟩
  have HV0 := Lib.hid hv0
  have HV1 := Lib.hid hv1
  have HV2 := Lib.hid hv2
  have HV3 := Lib.hid hv3
  obtain ⟨c1, c2⟩ := FC.out W2 HBR.out
  clear mp hML hw hPA hW1 hz1 k1 hb1 hW2 hW21 hz2 k2 kl hb2 hv0 hv2 hv3
  go_enter Try.func21, Try.ntmps21
  go_upto_region 1 with fail
  rw [← HW2.out]
  go_wp2_with fail
  refine (within_any _ _ _ _).mono ?_
  rintro e W' ⟨rfl, rfl⟩
  rw [HV0.out]
  cases v0
  · have HF := Lib.hid (linkB_no HV0.out)
    clear hv1
    go_wp2_with fail
    go_ret
    exact ⟨by rw [HF.out]; rfl, BWW.out _ HBR.out⟩
  have hvf := wthB_true HV0.out
  obtain ⟨f, hf⟩ : ∃ f : Nat, l.frm = (f : Int) := ⟨l.frm.toNat, by omega⟩
  have hfn : f < b.pl.n := by omega
  obtain ⟨pb, po, p, hpa, hpb, hx, _, hc⟩ := HMP.out.at_ (k := f) hfn
  obtain rfl : PA = some ⟨pb, po, none⟩ := HPA.out.symm.trans hpa
  have HT := Lib.hid (linkB_at (b := b) (l := l) (p := p) (by rw [hf, Int.toNat_natCast]; exact hx))
  rw [HV0.out, hv1, HV2.out, HV3.out] at HT
  have HPO := Lib.hid (show ∀ W, Below (w.heap.size + 2) W2 W → W.cell? ⟨pb, po + f * 12 + 2, none⟩ = some (.int .i64 p.office) from fun W hW => hc W (HHW.out.trans ((BWW.out W hW).mono hB)) 2 _ rfl)
  have hf0 : (0 : Int) ≤ (f : Int) := by omega
  have hfn' : (f : Int) < (b.pl.n : Int) := by omega
  have hfw : IntKind.i64.wrap (f : Int) = (f : Int) := wrapI_id (by omega) (by omega)
  obtain ⟨v4, hv4⟩ : ∃ z, reachB b.pl.l p.office l.to = z := ⟨_, rfl⟩
  obtain ⟨v5, hv5⟩ : ∃ z, needB l = z := ⟨_, rfl⟩
  obtain ⟨kb, hkb⟩ : ∃ z, kindB b l p = z := ⟨_, rfl⟩
  rw [hv4, hv5, hkb] at HT
  have HV4 := Lib.hid hv4
  have HV5 := Lib.hid hv5
  have HKB := Lib.hid hkb
  have CR2 := Lib.hid (CR.out p.office)
  rw [hv4] at CR2
  rw [hv5] at CN
  obtain ⟨po2, hpo2⟩ : ∃ z, p.office = z := ⟨_, rfl⟩
  rw [hpo2] at CR2 HPO
  have HPO2 := Lib.hid hpo2
  have HHX := Lib.hid hx
  have HHF := Lib.hid hf
  clear CR hvf hpa hx hc hv4 hv5 hkb hpo2 hf
  have h1cell : True := trivial
  cases v1
  · go_wp2_with fail
    refine (within_any _ _ _ _).mono ?_
    rintro e W' ⟨rfl, rfl⟩
    rw [HV2.out]
    cases v2
    · go_wp2_with fail
      go_ret
      exact ⟨by rw [HT.out]; rfl, BWW.out _ HBR.out⟩
    go_wp2_with fail
    refine (within_any _ _ _ _).mono ?_
    rintro e W' ⟨rfl, rfl⟩
    rw [HV3.out]
    cases v3
    · go_wp2_with fail
      go_ret
      exact ⟨by rw [HT.out]; rfl, BWW.out _ HBR.out⟩
    have hpo := HPO.out W2 HBR.out
    have hf := HHF.out
    go_upto_region 4 with fail
    clear hpo hf
    refine wp_region_L ?_
    iterate 4 (refine L_pure (by kernel_rfl) ?_; apply Exists.intro; apply And.intro; (case left => (go_simp; try with_reducible rfl)); (try simp only [Act.put, List.setIfInBounds_toArray, List.set_cons_zero, List.set_cons_succ]))
    (refine L_call (by kernel_rfl) ?_; apply Exists.intro; apply Exists.intro; apply And.intro; (case left => (go_simp; first | (refine ⟨?_, ?_⟩ <;> with_reducible rfl) | rfl)))
    refine (CR2.out W2 (BWW.out _ HBR.out)).mono ?_
    rintro e W3 ⟨rfl, hb3⟩
    have HB3 := Lib.hid (BUP.out _ _ HBR.out hb3)
    clear hb3
    refine ⟨_, rfl, ?_⟩
    (try simp only [Act.put, List.setIfInBounds_toArray, List.set_cons_zero, List.set_cons_succ])
    clear c1 c2
    obtain ⟨c1, c2⟩ := FC.out W3 HB3.out
    cases v4
    · iterate 2 (refine L_pure (by kernel_rfl) ?_; apply Exists.intro; apply And.intro; (case left => (go_simp; try with_reducible rfl)); (try simp only [Act.put, List.setIfInBounds_toArray, List.set_cons_zero, List.set_cons_succ]))
      iterate 3 (refine L_off (by kernel_rfl) ?_; (try simp only [Act.put, List.setIfInBounds_toArray, List.set_cons_zero, List.set_cons_succ]))
      iterate 1 (refine L_pure (by kernel_rfl) ?_; apply Exists.intro; apply And.intro; (case left => (go_simp; try with_reducible rfl)); (try simp only [Act.put, List.setIfInBounds_toArray, List.set_cons_zero, List.set_cons_succ]))
      refine L_nil ?_
      try dsimp only
      go_wp2_with fail
      go_ret
      exact ⟨by rw [HT.out]; rfl, BWW.out _ HB3.out⟩
    iterate 2 (refine L_pure (by kernel_rfl) ?_; apply Exists.intro; apply And.intro; (case left => (go_simp; try with_reducible rfl)); (try simp only [Act.put, List.setIfInBounds_toArray, List.set_cons_zero, List.set_cons_succ]))
    refine L_pure (by kernel_rfl) ⟨.agg #[.string l.nm, .int .i64 l.kind, .int .i64 l.frm, .int .i64 l.to, .slice l.rate.a l.rate.n l.rate.c, .slice l.band.lo.a l.band.lo.n l.band.lo.c, .slice l.band.hi.a l.band.hi.n l.band.hi.c, .int .i64 l.pos, .int .i64 l.speed, .int .i64 l.leak, .int .i64 l.crest, .int .i64 l.num, .int .i64 l.den, .int .i64 l.prime, .int .i64 l.brk, .int .i64 l.bnum, .int .i64 l.bden, .int .i64 l.delay], exec_load_row 79 _ rfl (w.heap.size + 1) rfl 79 #[.string l.nm, .int .i64 l.kind, .int .i64 l.frm, .int .i64 l.to, .slice l.rate.a l.rate.n l.rate.c, .slice l.band.lo.a l.band.lo.n l.band.lo.c, .slice l.band.hi.a l.band.hi.n l.band.hi.c, .int .i64 l.pos, .int .i64 l.speed, .int .i64 l.leak, .int .i64 l.crest, .int .i64 l.num, .int .i64 l.den, .int .i64 l.prime, .int .i64 l.brk, .int .i64 l.bnum, .int .i64 l.bden, .int .i64 l.delay] _ (FK.out W3 HB3.out) Try.underlying79 rfl (by kernel_rfl), ?_⟩
    (try simp only [Act.put, List.setIfInBounds_toArray, List.set_cons_zero, List.set_cons_succ])
    (refine L_call (by kernel_rfl) ?_; apply Exists.intro; apply Exists.intro; apply And.intro; (case left => (go_simp; first | (refine ⟨?_, ?_⟩ <;> with_reducible rfl) | rfl)))
    refine (CN.out W3).mono ?_
    rintro e W4 ⟨rfl, hb4⟩
    have HB4 := Lib.hid (BUP.out _ _ HB3.out hb4)
    clear hb4
    refine ⟨_, rfl, ?_⟩
    (try simp only [Act.put, List.setIfInBounds_toArray, List.set_cons_zero, List.set_cons_succ])
    clear c1 c2
    obtain ⟨c1, c2⟩ := FC.out W4 HB4.out
    cases v5
    · iterate 2 (refine L_pure (by kernel_rfl) ?_; apply Exists.intro; apply And.intro; (case left => (go_simp; try with_reducible rfl)); (try simp only [Act.put, List.setIfInBounds_toArray, List.set_cons_zero, List.set_cons_succ]))
      refine L_nil ?_
      try dsimp only
      go_wp2_with fail
      go_ret
      exact ⟨by rw [HT.out]; rfl, BWW.out _ HB4.out⟩
    iterate 2 (refine L_pure (by kernel_rfl) ?_; apply Exists.intro; apply And.intro; (case left => (go_simp; try with_reducible rfl)); (try simp only [Act.put, List.setIfInBounds_toArray, List.set_cons_zero, List.set_cons_succ]))
    refine L_nil ?_
    try dsimp only
    by_cases hk0 : l.kind = 0
    · have b0 : (l.kind == 0) = true := by simp [hk0]
      have HK := Lib.hid (show kb = (underB l.band.lo.l l.rate.l && (underB l.rate.l l.band.hi.l && (wthB l.pos 0 64 && (wthB l.speed 0 l.pos && (volB l.leak && (fracB l.bnum l.bden true && ((l.bden == 0) || decide (0 ≤ l.to)))))))) by
        rw [← HKB.out]
        unfold kindB
        rw [if_pos hk0]
        rw [show decide (l.bden = 0) = (l.bden == 0) from rfl])
      have CU1 := Lib.hid (fun W (hW : Below (w.heap.size + 2) W2 W) => under_any l.band.lo l.rate W w0 B HML.out.2.1 HML.out.1 (HHW.out.trans ((BWW.out W hW).mono hB)) (Nat.le_trans hB (BWW.out W hW).size))
      have CU2 := Lib.hid (fun W (hW : Below (w.heap.size + 2) W2 W) => under_any l.rate l.band.hi W w0 B HML.out.1 HML.out.2.2 (HHW.out.trans ((BWW.out W hW).mono hB)) (Nat.le_trans hB (BWW.out W hW).size))
      obtain ⟨u0, hu0⟩ : ∃ z, (underB l.band.lo.l l.rate.l) = z := ⟨_, rfl⟩
      obtain ⟨u1, hu1⟩ : ∃ z, (underB l.rate.l l.band.hi.l) = z := ⟨_, rfl⟩
      obtain ⟨u2, hu2⟩ : ∃ z, (wthB l.pos 0 64) = z := ⟨_, rfl⟩
      obtain ⟨u3, hu3⟩ : ∃ z, (wthB l.speed 0 l.pos) = z := ⟨_, rfl⟩
      obtain ⟨u4, hu4⟩ : ∃ z, (volB l.leak) = z := ⟨_, rfl⟩
      obtain ⟨u5, hu5⟩ : ∃ z, (fracB l.bnum l.bden true) = z := ⟨_, rfl⟩
      obtain ⟨u6, hu6⟩ : ∃ z, (l.bden == 0) = z := ⟨_, rfl⟩
      obtain ⟨u7, hu7⟩ : ∃ z, (decide (0 ≤ l.to)) = z := ⟨_, rfl⟩
      rw [hu0, hu1, hu2, hu3, hu4, hu5, hu6, hu7] at HK
      have HU0 := Lib.hid hu0
      have HU1 := Lib.hid hu1
      have HU2 := Lib.hid hu2
      have HU3 := Lib.hid hu3
      have HU4 := Lib.hid hu4
      have HU5 := Lib.hid hu5
      have HU6 := Lib.hid hu6
      have HU7 := Lib.hid hu7
      rw [hu0] at CU1
      rw [hu1] at CU2
      clear hk0 hu0 hu1 hu2 hu3 hu4 hu5
      go_wp2_with fail
      refine (CU1.out W4 HB4.out).mono ?_
      rintro e W5 ⟨rfl, hb5⟩
      have HB5 := Lib.hid (BUP.out _ _ HB4.out hb5)
      clear hb5 c1 c2
      obtain ⟨c1, c2⟩ := FC.out W5 HB5.out
      cases u0
      · go_wp2_with fail
        go_ret
        exact ⟨by rw [HT.out, HK.out]; rfl, BWW.out _ HB5.out⟩
      go_wp2_with fail
      refine (CU2.out W5 HB5.out).mono ?_
      rintro e W6 ⟨rfl, hb6⟩
      have HB6 := Lib.hid (BUP.out _ _ HB5.out hb6)
      clear hb6 c1 c2
      obtain ⟨c1, c2⟩ := FC.out W6 HB6.out
      cases u1
      · go_wp2_with fail
        go_ret
        exact ⟨by rw [HT.out, HK.out]; rfl, BWW.out _ HB6.out⟩
      go_wp2_with fail
      refine (within_any _ _ _ _).mono ?_
      rintro e W' ⟨rfl, rfl⟩
      rw [HU2.out]
      cases u2
      · go_wp2_with fail
        go_ret
        exact ⟨by rw [HT.out, HK.out]; rfl, BWW.out _ HB6.out⟩
      go_wp2_with fail
      refine (within_any _ _ _ _).mono ?_
      rintro e W' ⟨rfl, rfl⟩
      rw [HU3.out]
      cases u3
      · go_wp2_with fail
        go_ret
        exact ⟨by rw [HT.out, HK.out]; rfl, BWW.out _ HB6.out⟩
      go_wp2_with fail
      refine (volume_any _ _).mono ?_
      rintro e W' ⟨rfl, rfl⟩
      rw [HU4.out]
      cases u4
      · go_wp2_with fail
        go_ret
        exact ⟨by rw [HT.out, HK.out]; rfl, BWW.out _ HB6.out⟩
      go_wp2_with fail
      refine (fraction_any _ _ _ _).mono ?_
      rintro e W' ⟨rfl, rfl⟩
      rw [HU5.out]
      cases u5
      · go_wp2_with fail
        go_ret
        exact ⟨by rw [HT.out, HK.out]; rfl, BWW.out _ HB6.out⟩
      cases u6
      · cases u7
        · go_wp2_with fail
          go_ret
          exact ⟨by rw [HT.out, HK.out]; rfl, BWW.out _ HB6.out⟩
        · go_wp2_with fail
          go_ret
          exact ⟨by rw [HT.out, HK.out]; rfl, BWW.out _ HB6.out⟩
      · go_wp2_with fail
        go_ret
        exact ⟨by rw [HT.out, HK.out]; rfl, BWW.out _ HB6.out⟩
    by_cases hk2 : l.kind = 2
    · have b0 : (l.kind == 0) = false := by simp [hk0]
      have b2 : (l.kind == 2) = true := by simp [hk2]
      have HK := Lib.hid (show kb = (volB l.num && (wthB l.pos 1 64 && wthB l.speed 0 l.pos)) by rw [← HKB.out]; unfold kindB; rw [if_neg hk0, if_pos hk2])
      obtain ⟨u0, hu0⟩ : ∃ z, (volB l.num) = z := ⟨_, rfl⟩
      obtain ⟨u1, hu1⟩ : ∃ z, (wthB l.pos 1 64) = z := ⟨_, rfl⟩
      obtain ⟨u2, hu2⟩ : ∃ z, (wthB l.speed 0 l.pos) = z := ⟨_, rfl⟩
      rw [hu0, hu1, hu2] at HK
      have HU0 := Lib.hid hu0
      have HU1 := Lib.hid hu1
      have HU2 := Lib.hid hu2
      clear hk0 hk2 hu0 hu1 hu2
      go_wp2_with fail
      refine (volume_any _ _).mono ?_
      rintro e W' ⟨rfl, rfl⟩
      rw [HU0.out]
      cases u0
      · go_wp2_with fail
        go_ret
        exact ⟨by rw [HT.out, HK.out]; rfl, BWW.out _ HB4.out⟩
      go_wp2_with fail
      refine (within_any _ _ _ _).mono ?_
      rintro e W' ⟨rfl, rfl⟩
      rw [HU1.out]
      cases u1
      · go_wp2_with fail
        go_ret
        exact ⟨by rw [HT.out, HK.out]; rfl, BWW.out _ HB4.out⟩
      go_wp2_with fail
      refine (within_any _ _ _ _).mono ?_
      rintro e W' ⟨rfl, rfl⟩
      rw [HU2.out]
      go_wp2_with fail
      go_ret
      exact ⟨by rw [HT.out, HK.out]; rfl, BWW.out _ HB4.out⟩
    by_cases hk3 : l.kind = 3
    · have b0 : (l.kind == 0) = false := by simp [hk0]
      have b2 : (l.kind == 2) = false := by simp [hk2]
      have b3 : (l.kind == 3) = true := by simp [hk3]
      have HK := Lib.hid (show kb = (fracB l.num l.den false && (volB l.prime && wthB l.brk 0 (l.prime - 1))) by rw [← HKB.out]; unfold kindB; rw [if_neg hk0, if_neg hk2, if_pos hk3])
      obtain ⟨u0, hu0⟩ : ∃ z, (fracB l.num l.den false) = z := ⟨_, rfl⟩
      obtain ⟨u1, hu1⟩ : ∃ z, (volB l.prime) = z := ⟨_, rfl⟩
      obtain ⟨u2, hu2⟩ : ∃ z, (wthB l.brk 0 (l.prime - 1)) = z := ⟨_, rfl⟩
      rw [hu0, hu1, hu2] at HK
      have HU0 := Lib.hid hu0
      have HU1 := Lib.hid hu1
      have HU2 := Lib.hid hu2
      clear hk0 hk2 hk3 hu0 hu1 hu2
      go_wp2_with fail
      refine (fraction_any _ _ _ _).mono ?_
      rintro e W' ⟨rfl, rfl⟩
      rw [HU0.out]
      cases u0
      · go_wp2_with fail
        go_ret
        exact ⟨by rw [HT.out, HK.out]; rfl, BWW.out _ HB4.out⟩
      go_wp2_with fail
      refine (volume_any _ _).mono ?_
      rintro e W' ⟨rfl, rfl⟩
      rw [HU1.out]
      cases u1
      · go_wp2_with fail
        go_ret
        exact ⟨by rw [HT.out, HK.out]; rfl, BWW.out _ HB4.out⟩
      have hvp := wthB_true (show wthB l.prime 0 maxVolI = true from HU1.out)
      unfold maxVolI at hvp
      have w1 : wrap64 (l.prime - 1) = l.prime - 1 := wrap64_id (by omega) (by omega)
      have w2 : IntKind.i64.wrap (l.prime - 1) = l.prime - 1 := wrapI_id (by omega) (by omega)
      clear hvp
      go_wp2_with fail
      refine (within_any _ _ _ _).mono ?_
      rintro e W' ⟨rfl, rfl⟩
      rw [HU2.out]
      go_wp2_with fail
      go_ret
      exact ⟨by rw [HT.out, HK.out]; rfl, BWW.out _ HB4.out⟩
    by_cases hk4 : l.kind = 4
    · have b0 : (l.kind == 0) = false := by simp [hk0]
      have b2 : (l.kind == 2) = false := by simp [hk2]
      have b3 : (l.kind == 3) = false := by simp [hk3]
      have b4 : (l.kind == 4) = true := by simp [hk4]
      have HK := Lib.hid (show kb = (fracB l.num l.den false && (fracB l.bnum l.bden true && (decide (0 ≤ l.to) && (match b.pl.l[l.to.toNat]? with | some q => decide (q.office = p.office) | none => false)))) by rw [← HKB.out]; unfold kindB; rw [if_neg hk0, if_neg hk2, if_neg hk3, if_pos hk4])
      obtain ⟨u0, hu0⟩ : ∃ z, (fracB l.num l.den false) = z := ⟨_, rfl⟩
      obtain ⟨u1, hu1⟩ : ∃ z, (fracB l.bnum l.bden true) = z := ⟨_, rfl⟩
      rw [hu0, hu1] at HK
      have HU0 := Lib.hid hu0
      have HU1 := Lib.hid hu1
      clear hk0 hk2 hk3 hk4 hu0 hu1
      go_wp2_with fail
      refine (fraction_any _ _ _ _).mono ?_
      rintro e W' ⟨rfl, rfl⟩
      rw [HU0.out]
      cases u0
      · go_wp2_with fail
        go_ret
        exact ⟨by rw [HT.out, HK.out]; rfl, BWW.out _ HB4.out⟩
      go_wp2_with fail
      refine (fraction_any _ _ _ _).mono ?_
      rintro e W' ⟨rfl, rfl⟩
      rw [HU1.out]
      cases u1
      · go_wp2_with fail
        go_ret
        exact ⟨by rw [HT.out, HK.out]; rfl, BWW.out _ HB4.out⟩
      by_cases ht : 0 ≤ l.to
      · have hd : decide (0 ≤ l.to) = true := decide_eq_true ht
        obtain ⟨t, htt⟩ : ∃ t : Nat, l.to = (t : Int) := ⟨l.to.toNat, by omega⟩
        have htn : t < b.pl.n := by
          have h4 := HV4.out
          unfold reachB at h4
          rw [if_neg (by omega), Bool.and_eq_true] at h4
          have := wthB_true h4.1
          rw [HMP.out.len] at this
          omega
        obtain ⟨qb, qo, q, hqa, hqb, hqx, _, hqc⟩ := HMP.out.at_ (k := t) htn
        obtain ⟨rfl, rfl⟩ : pb = qb ∧ po = qo := by
          have := HPA.out.symm.trans hqa
          simpa using this
        have cq := hqc W4 (HHW.out.trans ((BWW.out W4 HB4.out).mono hB)) 2 _ rfl
        obtain ⟨qo2, hqo2⟩ : ∃ z, q.office = z := ⟨_, rfl⟩
        rw [hqo2] at cq
        obtain ⟨u2, hu2⟩ : ∃ z, (qo2 == po2) = z := ⟨_, rfl⟩
        have HK2 := Lib.hid (show kb = u2 by
          rw [HK.out, hd, htt, Int.toNat_natCast, hqx]
          show decide (q.office = p.office) = u2
          rw [hqo2, HPO2.out, ← hu2]
          by_cases h : qo2 = po2 <;> simp [h])
        have ht0 : (0 : Int) ≤ (t : Int) := by omega
        have htn' : (t : Int) < (b.pl.n : Int) := by omega
        have htw : IntKind.i64.wrap (t : Int) = (t : Int) := wrapI_id (by omega) (by omega)
        have hd' : decide ((0 : Int) ≤ (t : Int)) = true := decide_eq_true (by omega)
        clear ht hqa hqx hqc hqo2 htn
        go_wp2_with fail
        go_ret
        exact ⟨by rw [HT.out, HK2.out]; rfl, BWW.out _ HB4.out⟩
      · have hd : decide (0 ≤ l.to) = false := decide_eq_false ht
        have HK2 := Lib.hid (show kb = false by rw [HK.out, hd]; rfl)
        clear ht
        go_wp2_with fail
        go_ret
        exact ⟨by rw [HT.out, HK2.out]; rfl, BWW.out _ HB4.out⟩
    have b0 : (l.kind == 0) = false := by simp [hk0]
    have b2 : (l.kind == 2) = false := by simp [hk2]
    have b3 : (l.kind == 3) = false := by simp [hk3]
    have b4 : (l.kind == 4) = false := by simp [hk4]
    have HK := Lib.hid (show kb = (fracB l.num l.den false && volB l.crest) by rw [← HKB.out]; unfold kindB; rw [if_neg hk0, if_neg hk2, if_neg hk3, if_neg hk4])
    obtain ⟨u0, hu0⟩ : ∃ z, (fracB l.num l.den false) = z := ⟨_, rfl⟩
    obtain ⟨u1, hu1⟩ : ∃ z, (volB l.crest) = z := ⟨_, rfl⟩
    rw [hu0, hu1] at HK
    have HU0 := Lib.hid hu0
    have HU1 := Lib.hid hu1
    clear hk0 hk2 hk3 hk4 hu0 hu1
    go_wp2_with fail
    refine (fraction_any _ _ _ _).mono ?_
    rintro e W' ⟨rfl, rfl⟩
    rw [HU0.out]
    cases u0
    · go_wp2_with fail
      go_ret
      exact ⟨by rw [HT.out, HK.out]; rfl, BWW.out _ HB4.out⟩
    go_wp2_with fail
    refine (volume_any _ _).mono ?_
    rintro e W' ⟨rfl, rfl⟩
    rw [HU1.out]
    go_wp2_with fail
    go_ret
    exact ⟨by rw [HT.out, HK.out]; rfl, BWW.out _ HB4.out⟩
  · go_wp2_with fail
    go_ret
    exact ⟨by rw [HT.out]; rfl, BWW.out _ HBR.out⟩

end Go.Proofs.Ytmkbojhnbkdalaa
