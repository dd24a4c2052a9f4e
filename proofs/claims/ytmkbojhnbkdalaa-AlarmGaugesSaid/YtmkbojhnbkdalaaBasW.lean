/- The walk of basin.Right. -/
import Derived.Test.YtmkbojhnbkdalaaBasQ
import Derived.Test.YtmkbojhnbkdalaaBasR
import Derived.Test.YtmkbojhnbkdalaaBasS
import Derived.Test.YtmkbojhnbkdalaaBasT
import Derived.Test.YtmkbojhnbkdalaaBasV
set_option linter.unusedSimpArgs false
set_option linter.unusedVariables false
namespace Go.Proofs.Ytmkbojhnbkdalaa
open Go.RowKit

theorem sizesB_true {b : Bas} (h : sizesB b = true) : (1 ≤ b.ow.n ∧ b.ow.n ≤ 16) ∧ (0 ≤ b.cells ∧ b.cells ≤ 64) ∧ (1 ≤ b.pl.n ∧ b.pl.n ≤ 64) ∧ b.lk.n ≤ 96 ∧ b.tw.n ≤ 40 ∧ b.gg.n ≤ 128 ∧ b.rd.n ≤ 128 ∧ b.sh.n ≤ 40 := by
  unfold sizesB at h
  simp only [Bool.and_eq_true, decide_eq_true_eq] at h
  obtain ⟨h0, h1, h2, h3, h4, h5, h6, h7, _⟩ := h
  have a0 := wthB_true h0
  have a1 := wthB_true h1
  have a2 := wthB_true h2
  omega
theorem placeB_start {b : Bas} {i : Nat} {p : Plc} (h : placeB b i p = true) : p.st.n = b.ow.n := by
  unfold placeB at h
  simp only [Bool.and_eq_true, decide_eq_true_eq] at h
  exact h.2.2.2.2.2.2.1
theorem reachB_to {l : List Plc} {n : Nat} (hl : l.length = n) {o t : Int} (h : reachB l o t = true) : t = -1 ∨ (0 ≤ t ∧ t < (n : Int)) := by
  unfold reachB at h
  split at h
  · exact .inl (by assumption)
  · rw [Bool.and_eq_true] at h
    have := wthB_true h.1
    right
    omega
theorem linkB_range {b : Bas} (hl : b.pl.l.length = b.pl.n) {l : Lnk} (h : linkB b l = true) : 0 ≤ l.frm ∧ l.frm < (b.pl.n : Int) ∧ (l.to = -1 ∨ (0 ≤ l.to ∧ l.to < (b.pl.n : Int))) := by
  have h0 : wthB l.frm 0 ((b.pl.n : Int) - 1) = true := by
    cases hc : wthB l.frm 0 ((b.pl.n : Int) - 1) with
    | true => rfl
    | false => rw [linkB_no hc] at h; cases h
  have hw := wthB_true h0
  obtain ⟨p, hp⟩ : ∃ p, b.pl.l[l.frm.toNat]? = some p := ⟨_, List.getElem?_eq_getElem (by omega)⟩
  rw [linkB_at hp] at h
  simp only [Bool.and_eq_true] at h
  have := reachB_to hl h.2.2.2.2.1
  omega
theorem any_all {α : Type} {l : List α} {f : α → Bool} (h : (l.any fun x => !f x) = false) : ∀ x ∈ l, f x = true := by
  intro x hx
  cases hc : f x with
  | true => rfl
  | false =>
    have : (l.any fun x => !f x) = true := List.any_eq_true.2 ⟨x, hx, by rw [hc]; rfl⟩
    rw [h] at this
    cases this
theorem placesB_drop {b : Bas} {l : List Plc} {k : Nat} {p : Plc} {t s u : Int} (h : l[k]? = some p) (hs : (if fitsB p.st.l.sum then p.st.l.sum else 0) = s) (hu : satI (t + s) = u) : placesB b (l.drop k) k t = (placeB b k p && (fitsB p.st.l.sum && (decide (u ≤ maxVolI) && placesB b (l.drop (k + 1)) (k + 1) u))) := by
  have hl := (List.getElem?_eq_some_iff.1 h).1
  rw [List.drop_eq_getElem_cons hl, (List.getElem?_eq_some_iff.1 h).2]
  subst hu
  subst hs
  rfl

set_option maxRecDepth 100000 in
set_option maxHeartbeats 1000000 in
theorem linkBad_any (b : Bas) (l : Lnk) (bb : Nat) (W w0 : World) (B : Nat) (hM : MBas w0 B b) (hML : MLnk w0 B l) (hw : Below B w0 W) (hB : B ≤ W.heap.size) (hn : b.pl.n ≤ 64) (hlt : bb < W.heap.size) (hc : ∀ j, W.cell? ⟨bb, j, none⟩ = (#[.string b.nm, .slice b.ow.a b.ow.n b.ow.c, .int .i64 b.cells, .slice b.pl.a b.pl.n b.pl.c, .slice b.lk.a b.lk.n b.lk.c, .slice b.tw.a b.tw.n b.tw.c, .slice b.gg.a b.gg.n b.gg.c, .slice b.rd.a b.rd.n b.rd.c, .slice b.sh.a b.sh.n b.sh.c, .slice b.room.a b.room.n b.room.c, .int .i64 b.err] : Array Value)[j]?) :
    Calls Try.prog 20 #[.agg #[.string l.nm, .int .i64 l.kind, .int .i64 l.frm, .int .i64 l.to, .slice l.rate.a l.rate.n l.rate.c, .slice l.band.lo.a l.band.lo.n l.band.lo.c, .slice l.band.hi.a l.band.hi.n l.band.hi.c, .int .i64 l.pos, .int .i64 l.speed, .int .i64 l.leak, .int .i64 l.crest, .int .i64 l.num, .int .i64 l.den, .int .i64 l.prime, .int .i64 l.brk, .int .i64 l.bnum, .int .i64 l.bden, .int .i64 l.delay], .pointer (some ⟨bb, 0, none⟩)] W fun e w' => e = .returned (.bool (!linkB b l)) ∧ Below W.heap.size W w' := by
  obtain ⟨W1, hW1⟩ : ∃ z, z = W.alloc (.cells #[.string l.nm, .int .i64 l.kind, .int .i64 l.frm, .int .i64 l.to, .slice l.rate.a l.rate.n l.rate.c, .slice l.band.lo.a l.band.lo.n l.band.lo.c, .slice l.band.hi.a l.band.hi.n l.band.hi.c, .int .i64 l.pos, .int .i64 l.speed, .int .i64 l.leak, .int .i64 l.crest, .int .i64 l.num, .int .i64 l.den, .int .i64 l.prime, .int .i64 l.brk, .int .i64 l.bnum, .int .i64 l.bden, .int .i64 l.delay] 79) := ⟨_, rfl⟩
  have hbl : Below W.heap.size W W1 := by rw [hW1]; exact (Below.refl _ _).alloc (Nat.le_refl _) _
  have kl : Bk W1 W.heap.size 79 #[.string l.nm, .int .i64 l.kind, .int .i64 l.frm, .int .i64 l.to, .slice l.rate.a l.rate.n l.rate.c, .slice l.band.lo.a l.band.lo.n l.band.lo.c, .slice l.band.hi.a l.band.hi.n l.band.hi.c, .int .i64 l.pos, .int .i64 l.speed, .int .i64 l.leak, .int .i64 l.crest, .int .i64 l.num, .int .i64 l.den, .int .i64 l.prime, .int .i64 l.brk, .int .i64 l.bnum, .int .i64 l.bden, .int .i64 l.delay] := by rw [hW1]; exact Bk.new W _ _
  have cb := fun j => (hbl.cell (p := ⟨bb, j, none⟩) hlt).trans (hc j)
  have CL := Lib.hid (link_any b l W1 w0 B hM hML (hw.trans (hbl.mono hB)) (Nat.le_trans hB hbl.size) hn)
  have HBL := Lib.hid hbl
  have HKL := Lib.hid kl
  have HW1 := Lib.hid hW1
  obtain ⟨v, hv⟩ : ∃ z, linkB b l = z := ⟨_, rfl⟩
  rw [hv] at CL ⊢
  clear hv hW1 hbl kl hc hM hML hw
  go_enter Try.func20, Try.ntmps20
  go_upto_region 1 with fail
  rw [← HW1.out]
  go_wp2_with (refine wpList_load_row rfl 79 _ rfl W.heap.size rfl 79 #[.string l.nm, .int .i64 l.kind, .int .i64 l.frm, .int .i64 l.to, .slice l.rate.a l.rate.n l.rate.c, .slice l.band.lo.a l.band.lo.n l.band.lo.c, .slice l.band.hi.a l.band.hi.n l.band.hi.c, .int .i64 l.pos, .int .i64 l.speed, .int .i64 l.leak, .int .i64 l.crest, .int .i64 l.num, .int .i64 l.den, .int .i64 l.prime, .int .i64 l.brk, .int .i64 l.bnum, .int .i64 l.bden, .int .i64 l.delay] (0, 0) _ HKL.out Try.underlying79 rfl (by kernel_rfl) ?_)
  refine CL.out.mono ?_
  rintro e W2 ⟨rfl, hb2⟩
  have HB2 := Lib.hid (HBL.out.trans (hb2.mono HBL.out.size))
  clear hb2
  go_wp2_with fail
  go_ret
  exact ⟨rfl, HB2.out⟩

set_option maxRecDepth 100000 in
set_option maxHeartbeats 8000000 in
theorem right_any (b : Bas) (w w0 : World) (B : Nat) (hM : MBas w0 B b) (hO : OkBas b) (hw : Below B w0 w) (hB : B ≤ w.heap.size) :
    Calls Try.prog 6 #[.agg #[.string b.nm, .slice b.ow.a b.ow.n b.ow.c, .int .i64 b.cells, .slice b.pl.a b.pl.n b.pl.c, .slice b.lk.a b.lk.n b.lk.c, .slice b.tw.a b.tw.n b.tw.c, .slice b.gg.a b.gg.n b.gg.c, .slice b.rd.a b.rd.n b.rd.c, .slice b.sh.a b.sh.n b.sh.c, .slice b.room.a b.room.n b.room.c, .int .i64 b.err]] w fun e w' => e = .returned (.bool (rightB b)) ∧ Below w.heap.size w w' := by
  have HM := Lib.hid hM
  have HO := Lib.hid hO
  have HHW := Lib.hid hw
  have hn64 := two_byte hM.2.1.le
  have hr64 := two_byte hM.2.2.2.2.2.2.2.le
  obtain ⟨PA, hPA⟩ : ∃ z, b.pl.a = z := ⟨_, rfl⟩
  have HPA := Lib.hid hPA
  obtain ⟨W1, hW1⟩ : ∃ z, z = w.alloc (.cells #[.string b.nm, .slice b.ow.a b.ow.n b.ow.c, .int .i64 b.cells, .slice PA b.pl.n b.pl.c, .slice b.lk.a b.lk.n b.lk.c, .slice b.tw.a b.tw.n b.tw.c, .slice b.gg.a b.gg.n b.gg.c, .slice b.rd.a b.rd.n b.rd.c, .slice b.sh.a b.sh.n b.sh.c, .slice b.room.a b.room.n b.room.c, .int .i64 b.err] 31) := ⟨_, rfl⟩
  have hz1 : W1.heap.size = w.heap.size + 1 := by rw [hW1]; simp
  have k1 : Bk W1 w.heap.size 31 #[.string b.nm, .slice b.ow.a b.ow.n b.ow.c, .int .i64 b.cells, .slice PA b.pl.n b.pl.c, .slice b.lk.a b.lk.n b.lk.c, .slice b.tw.a b.tw.n b.tw.c, .slice b.gg.a b.gg.n b.gg.c, .slice b.rd.a b.rd.n b.rd.c, .slice b.sh.a b.sh.n b.sh.c, .slice b.room.a b.room.n b.room.c, .int .i64 b.err] := by rw [hW1]; exact Bk.new w _ _
  have hb1 : Below w.heap.size w W1 := by rw [hW1]; exact (Below.refl _ _).alloc (Nat.le_refl _) _
  have FC := Lib.hid (show ∀ W, Below (w.heap.size + 1) W1 W → (∀ j, W.cell? ⟨w.heap.size, j, none⟩ = (#[.string b.nm, .slice b.ow.a b.ow.n b.ow.c, .int .i64 b.cells, .slice PA b.pl.n b.pl.c, .slice b.lk.a b.lk.n b.lk.c, .slice b.tw.a b.tw.n b.tw.c, .slice b.gg.a b.gg.n b.gg.c, .slice b.rd.a b.rd.n b.rd.c, .slice b.sh.a b.sh.n b.sh.c, .slice b.room.a b.room.n b.room.c, .int .i64 b.err] : Array Value)[j]?) from fun W hW => (k1.below hW (by omega)).cell)
  have BWW := Lib.hid (show ∀ W, Below (w.heap.size + 1) W1 W → Below w.heap.size w W from fun W hW => hb1.trans (hW.mono (by omega)))
  have BUP := Lib.hid (show ∀ W W', Below (w.heap.size + 1) W1 W → Below W.heap.size W W' → Below (w.heap.size + 1) W1 W' from fun W W' hW hW' => hW.trans (hW'.mono (by have := hW.size; omega)))
  have B0 := Lib.hid (show ∀ W, Below (w.heap.size + 1) W1 W → Below B w0 W ∧ B ≤ W.heap.size from fun W hW => ⟨hw.trans ((BWW.out W hW).mono hB), Nat.le_trans hB (BWW.out W hW).size⟩)
  have HB1 := Lib.hid (Below.refl (w.heap.size + 1) W1)
  have HLT := Lib.hid (show ∀ W, Below (w.heap.size + 1) W1 W → w.heap.size < W.heap.size from fun W hW => by have := hW.size; omega)
  have HW1 := Lib.hid hW1
  have HZ1 := Lib.hid hz1
  have HT := Lib.hid (show rightB b = (sizesB b && (decide (b.room.n = 3) && (!(b.room.l.any fun n => !volB n) && (wthB b.err 0 1099511627776 && (placesB b b.pl.l 0 0 && (!(b.lk.l.any fun l => !linkB b l) && (!((slopesL b).any fun s => decide (unityI < s)) && peopleB b))))))) from rfl)
  obtain ⟨v0, hv0⟩ : ∃ z, sizesB b = z := ⟨_, rfl⟩
  obtain ⟨v1, hv1⟩ : ∃ z, decide (b.room.n = 3) = z := ⟨_, rfl⟩
  obtain ⟨v2, hv2⟩ : ∃ z, (b.room.l.any fun n => !volB n) = z := ⟨_, rfl⟩
  obtain ⟨v3, hv3⟩ : ∃ z, wthB b.err 0 1099511627776 = z := ⟨_, rfl⟩
  obtain ⟨v4, hv4⟩ : ∃ z, placesB b b.pl.l 0 0 = z := ⟨_, rfl⟩
  obtain ⟨v5, hv5⟩ : ∃ z, (b.lk.l.any fun l => !linkB b l) = z := ⟨_, rfl⟩
  obtain ⟨v6, hv6⟩ : ∃ z, ((slopesL b).any fun s => decide (unityI < s)) = z := ⟨_, rfl⟩
  obtain ⟨v7, hv7⟩ : ∃ z, peopleB b = z := ⟨_, rfl⟩
  rw [hv0, hv1, hv2, hv3, hv4, hv5, hv6, hv7] at HT
  have HV0 := Lib.hid hv0
  have HV3 := Lib.hid hv3
  have HV4 := Lib.hid hv4
  have HV5 := Lib.hid hv5
  have HV6 := Lib.hid hv6
  have HV7 := Lib.hid hv7
  have g1 : ((b.room.n : Int) != 3) = !v1 := by
    rw [← hv1]
    by_cases h : b.room.n = 3
    · simp [h]
    · have h2 : ¬ ((b.room.n : Int) = 3) := by omega
      simp [h, h2]
  have CS := Lib.hid (fun W (hW : Below (w.heap.size + 1) W1 W) => sizes_any b W w0 B HM.out HO.out (B0.out W hW).1 (B0.out W hW).2)
  have CRM := Lib.hid (fun W (hW : Below (w.heap.size + 1) W1 W) => containsFunc_int b.room (fun n => !volB n) 13 #[] W w0 B HM.out.2.2.2.2.2.2.2 (B0.out W hW).1 (B0.out W hW).2 (enters_of Try.func13 (by kernel_rfl) rfl) (fun W' x _ _ _ => roomBad_any x W'))
  rw [hv0, hPA] at CS
  rw [hv2] at CRM
  rw [hPA]
  have c1 := FC.out W1 HB1.out
  clear hM hO hw hPA hW1 hz1 k1 hb1 hv0 hv1 hv2 hv3 hv4 hv5 hv6 hv7
  go_enter Try.func6, Try.ntmps6
  go_upto_region 1 with fail
  rw [← HW1.out]
  go_wp2_with fail
  refine (CS.out W1 HB1.out).mono ?_
  rintro e W2 ⟨rfl, hb2⟩
  have HB2 := Lib.hid (BUP.out _ _ HB1.out hb2)
  clear hb2 c1
  have c1 := FC.out W2 HB2.out
  cases v0
  · go_wp2_with fail
    go_ret
    exact ⟨by rw [HT.out]; rfl, BWW.out _ HB2.out⟩
  have HSZ := Lib.hid (sizesB_true HV0.out)
  cases v1
  · go_wp2_with fail
    go_ret
    exact ⟨by rw [HT.out]; rfl, BWW.out _ HB2.out⟩
  go_wp2_with fail
  refine (CRM.out W2 HB2.out).mono ?_
  rintro e W3 ⟨rfl, hb3⟩
  have HB3 := Lib.hid (BUP.out _ _ HB2.out hb3)
  clear hb3 c1
  have c1 := FC.out W3 HB3.out
  cases hv : v2
  case true =>
    subst hv
    go_wp2_with fail
    go_ret
    exact ⟨by rw [HT.out]; rfl, BWW.out _ HB3.out⟩
  subst hv
  go_wp2_with fail
  refine (within_any _ _ _ _).mono ?_
  rintro e W' ⟨rfl, rfl⟩
  rw [HV3.out]
  cases v3
  · go_wp2_with fail
    go_ret
    exact ⟨by rw [HT.out]; rfl, BWW.out _ HB3.out⟩
  go_wp2_with fail
  go_loopw [3, 31] (fun t ix wr => ∃ (k : Nat) (T : Int), k ≤ b.pl.n ∧ t = .int .i64 T ∧ ix = .int .i64 (k : Int) ∧ Hid (-9223372036854775808 ≤ T ∧ T ≤ 9223372036854775807) ∧ Hid (placesB b (b.pl.l.drop k) k T = v4) ∧ Below (w.heap.size + 1) W1 wr) (fun _ ix _ => b.pl.n - (intOf ix).toNat)
  case atStart => exact ⟨0, 0, by omega, rfl, rfl, Lib.hid (by omega), Lib.hid (by rw [List.drop_zero]; exact HV4.out), HB3.out⟩
  case round =>
    clear c1
    obtain ⟨k, T, hk, rfl, rfl, HTB, HPL, hbr⟩ := hrel
    have HB := Lib.hid hbr
    have hsz := hbr.size
    clear hbr
    by_cases hlt : k < b.pl.n
    · have hk0 : (0 : Int) ≤ (k : Int) := by omega
      have hki : (k : Int) < (b.pl.n : Int) := by omega
      obtain ⟨pb, po, p, hpa, hpb, hx, hmp, hc⟩ := HM.out.2.1.at_ (k := k) hlt
      obtain rfl : PA = some ⟨pb, po, none⟩ := HPA.out.symm.trans hpa
      have HC := Lib.hid (show ∀ (j : Nat) (v : Value), #[.string p.nm, .int .i64 p.kind, .int .i64 p.office, .int .i64 p.cap, .slice p.lv.a p.lv.n p.lv.c, .slice p.st.a p.st.n p.st.c, .int .i64 p.num, .int .i64 p.den, .int .i64 p.down, .int .i64 p.delay, .int .i64 p.floor, .slice p.rn.a p.rn.n p.rn.c].toList[j]? = some v → wr.cell? ((⟨pb, po + k * 12, none⟩ : Addr).add j) = some v from fun j v hv => by
        rw [Go.WideShapes.add_plain]
        exact hc wr (B0.out wr HB.out).1 j v hv)
      have HX := Lib.hid hx
      have HMP := Lib.hid hmp
      have HI := Lib.hid (show ∀ y ∈ p.st.l, I64 y from (HO.out.2.2.2.1 p (List.mem_iff_getElem?.2 ⟨k, hx⟩)).2.2.2.2.2.1)
      clear hpa hx hmp hc
      go_wp2_with (first | refine wpList_load_cells rfl 70 _ rfl ⟨pb, po + k * 12, none⟩ rfl #[.string p.nm, .int .i64 p.kind, .int .i64 p.office, .int .i64 p.cap, .slice p.lv.a p.lv.n p.lv.c, .slice p.st.a p.st.n p.st.c, .int .i64 p.num, .int .i64 p.den, .int .i64 p.down, .int .i64 p.delay, .int .i64 p.floor, .slice p.rn.a p.rn.n p.rn.c] HC.out _ Try.underlying70 rfl (by kernel_rfl) ?_ | refine wpList_store_rowC rfl 70 _ _ rfl wr.heap.size rfl #[.string p.nm, .int .i64 p.kind, .int .i64 p.office, .int .i64 p.cap, .slice p.lv.a p.lv.n p.lv.c, .slice p.st.a p.st.n p.st.c, .int .i64 p.num, .int .i64 p.den, .int .i64 p.down, .int .i64 p.delay, .int .i64 p.floor, .slice p.rn.a p.rn.n p.rn.c] rfl 70 _ (Bk.new wr _ _) (by kernel_rfl) (by kernel_rfl) (by kernel_rfl) ?_)
      intro W4 HK4 HG4
      have HB4 := Lib.hid (show Below (w.heap.size + 1) W1 W4 from (HB.out.alloc (by have := HZ1.out; omega) _).grown HG4.out (by simp; have := HZ1.out; omega) (fun j hj => by injection hj with hj; have := HZ1.out; omega))
      obtain ⟨h, hh⟩ : ∃ z, wr.heap.size = z := ⟨_, rfl⟩
      rw [hh] at HK4 ⊢
      have HKP := Lib.hid (show ∀ W, Below W4.heap.size W4 W → ∀ j, W.cell? ⟨h, j, none⟩ = (#[.string p.nm, .int .i64 p.kind, .int .i64 p.office, .int .i64 p.cap, .slice p.lv.a p.lv.n p.lv.c, .slice p.st.a p.st.n p.st.c, .int .i64 p.num, .int .i64 p.den, .int .i64 p.down, .int .i64 p.delay, .int .i64 p.floor, .slice p.rn.a p.rn.n p.rn.c] : Array Value)[j]? from fun W hW => (HK4.out.below hW HK4.out.lt).cell)
      have CPL := Lib.hid (place_any b k p W4 w0 B HM.out (B0.out _ HB4.out).1 (B0.out _ HB4.out).2 HX.out HSZ.out.2.1)
      obtain ⟨u0, hu0⟩ : ∃ z, placeB b k p = z := ⟨_, rfl⟩
      obtain ⟨s, hs⟩ : ∃ z, (if fitsB p.st.l.sum then p.st.l.sum else 0) = z := ⟨_, rfl⟩
      obtain ⟨f, hf⟩ : ∃ z, fitsB p.st.l.sum = z := ⟨_, rfl⟩
      obtain ⟨U, hU⟩ : ∃ z, satI (T + s) = z := ⟨_, rfl⟩
      have hdr := placesB_drop (b := b) (t := T) HX.out hs hU
      rw [hu0, hf] at hdr
      rw [HPA.out, hu0] at CPL
      have HDR := Lib.hid (HPL.out.symm.trans hdr)
      have HU0 := Lib.hid hu0
      have HUB := Lib.hid (show -9223372036854775808 ≤ U ∧ U ≤ 9223372036854775807 from hU ▸ satI_bd _)
      have HSB := Lib.hid (show -9223372036854775808 ≤ s ∧ s ≤ 9223372036854775807 by
        rw [← hs]
        split
        · rename_i hfit
          unfold fitsB at hfit
          simp only [Bool.and_eq_true, decide_eq_true_eq] at hfit
          exact hfit
        · omega)
      have CAD := Lib.hid (fun W => addE_any T s W HTB.out HSB.out)
      rw [hU] at CAD
      have CSM := Lib.hid (fun W (hW : Below (w.heap.size + 1) W1 W) (hle : p.st.n ≤ 100000) => sum_any p.st W w0 B HMP.out.2.1 (B0.out W hW).1 (B0.out W hW).2 hle HI.out)
      rw [hs, hf] at CSM
      have c1 := FC.out W4 HB4.out
      clear HK4 HG4 hh HC hu0 hs hf hU hdr
      go_wp2_with fail
      refine CPL.out.mono ?_
      rintro e W5 ⟨rfl, hb5⟩
      have HB5 := Lib.hid (BUP.out _ _ HB4.out hb5)
      have c5 := HKP.out W5 hb5
      clear hb5 c1
      cases u0
      · go_wp2_with fail
        go_ret
        exact ⟨by rw [HT.out, HDR.out]; rfl, BWW.out _ HB5.out⟩
      have hle : p.st.n ≤ 100000 := by have h1 := placeB_start HU0.out; have h2 := HSZ.out.1.2; omega
      have CSM2 := Lib.hid (CSM.out W5 HB5.out hle)
      clear hle
      go_wp2_with fail
      refine CSM2.out.mono ?_
      rintro e W6 ⟨rfl, hb6⟩
      have HB6 := Lib.hid (BUP.out _ _ HB5.out hb6)
      clear hb6 c5
      go_wp2_with fail
      refine (CAD.out W6).mono ?_
      rintro e W' ⟨rfl, rfl⟩
      cases f
      · go_wp2_with fail
        go_ret
        exact ⟨by rw [HT.out, HDR.out]; rfl, BWW.out _ HB6.out⟩
      obtain ⟨m, hm⟩ : ∃ z, decide (U ≤ maxVolI) = z := ⟨_, rfl⟩
      have hgt : decide ((1125899906842624 : Int) < U) = !m := by
        rw [← hm]
        unfold maxVolI
        by_cases hq : U ≤ 1125899906842624
        · simp [hq]
        · simp [hq]
          omega
      rw [hm] at HDR
      cases m
      · clear hm
        go_wp2_with fail
        go_ret
        exact ⟨by rw [HT.out, HDR.out]; rfl, BWW.out _ HB6.out⟩
      clear hm
      go_wp2_with fail
      go_roundw
      case rel => exact ⟨k + 1, U, by omega, rfl, by go_num, HUB.out, HDR.out.symm, HB6.out⟩
      case measure => simp [intOf]; omega
    · obtain rfl : k = b.pl.n := by omega
      have HV4T := Lib.hid (show v4 = true by
        rw [← HPL.out, List.drop_of_length_le (by rw [HM.out.2.1.len]; exact Nat.le_refl _)]
        rfl)
      obtain rfl : v4 = true := HV4T.out
      have c1 := FC.out wr HB.out
      have CLK := Lib.hid (containsFunc_Lnk b.lk (fun l => !linkB b l) 20 #[.pointer (some ⟨w.heap.size, 0, none⟩)] wr w0 B HM.out.2.2.1 (B0.out wr HB.out).1 (B0.out wr HB.out).2 (enters_of Try.func20 (by kernel_rfl) rfl)
        (fun W' x _ hmx hb' => linkBad_any b x w.heap.size W' w0 B HM.out hmx (B0.out _ (BUP.out _ _ HB.out hb')).1 (B0.out _ (BUP.out _ _ HB.out hb')).2 HSZ.out.2.2.1.2 (HLT.out _ (BUP.out _ _ HB.out hb')) (by rw [HPA.out]; exact FC.out _ (BUP.out _ _ HB.out hb'))))
      rw [HV5.out] at CLK
      clear HTB HPL hk hsz hlt
      go_wp2_with fail
      refine CLK.out.mono ?_
      rintro e W7 ⟨rfl, hb7⟩
      have HB7 := Lib.hid (BUP.out _ _ HB.out hb7)
      clear hb7 c1
      have c1 := FC.out W7 HB7.out
      cases hv : v5
      case true =>
        subst hv
        go_wp2_with fail
        go_ret
        exact ⟨by rw [HT.out]; rfl, BWW.out _ HB7.out⟩
      subst hv
      have CSL := Lib.hid (slopes_any b W7 w0 B HM.out (B0.out _ HB7.out).1 (B0.out _ HB7.out).2 HSZ.out.2.2.1.2 HSZ.out.2.2.2.1 (fun x hx => linkB_range HM.out.2.1.len (any_all HV5.out x hx)))
      rw [HPA.out] at CSL
      go_wp2_with fail
      refine CSL.out.mono ?_
      rintro e W8 ⟨sl, rfl, hsl, hsm, hb8⟩
      have HB8 := Lib.hid (BUP.out _ _ HB7.out hb8)
      have CST := Lib.hid (containsFunc_int sl (fun s => decide (unityI < s)) 23 #[] W8 W8 W8.heap.size hsm (Below.refl _ _) (Nat.le_refl _) (enters_of Try.func23 (by kernel_rfl) rfl) (fun W' x _ _ _ => steepBad_any x W'))
      rw [hsl, HV6.out] at CST
      clear hsl hsm hb8 c1
      have c1 := FC.out W8 HB8.out
      go_wp2_with fail
      refine CST.out.mono ?_
      rintro e W9 ⟨rfl, hb9⟩
      have HB9 := Lib.hid (BUP.out _ _ HB8.out hb9)
      clear hb9 c1
      have c1 := FC.out W9 HB9.out
      cases hv : v6
      case true =>
        subst hv
        go_wp2_with fail
        go_ret
        exact ⟨by rw [HT.out]; rfl, BWW.out _ HB9.out⟩
      subst hv
      have CPE := Lib.hid (people_any b W9 w0 B HM.out (B0.out _ HB9.out).1 (B0.out _ HB9.out).2 ⟨HSZ.out.2.2.1.2, HSZ.out.2.2.2.1, HSZ.out.2.2.2.2.1, HSZ.out.2.2.2.2.2.2.2, HSZ.out.2.1.1, HSZ.out.2.1.2⟩)
      rw [HPA.out, HV7.out] at CPE
      go_wp2_with fail
      refine CPE.out.mono ?_
      rintro e W10 ⟨rfl, hb10⟩
      have HB10 := Lib.hid (BUP.out _ _ HB9.out hb10)
      clear hb10 c1
      go_wp2_with fail
      go_ret
      exact ⟨by rw [HT.out]; rfl, BWW.out _ HB10.out⟩

end Go.Proofs.Ytmkbojhnbkdalaa
