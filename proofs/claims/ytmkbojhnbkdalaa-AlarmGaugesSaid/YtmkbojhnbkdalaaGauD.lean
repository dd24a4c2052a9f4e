/- The walk of alarm.Quorum. -/
import Derived.Test.YtmkbojhnbkdalaaGauC
import Derived.Test.YtmkbojhnbkdalaaMapK
set_option linter.unusedSimpArgs false
set_option linter.unusedVariables false
namespace Go.Proofs.Ytmkbojhnbkdalaa
open Go.RowKit

def relB (b : Bas) (tp : Int) (r : Rdg) : Bool := decide (0 ≤ r.gauge) && (match b.gg.l[r.gauge.toNat]? with
  | some g => (g.kind == 0) && (g.target == tp)
  | none => false)
def hitB (b : Bas) (t : Twn) (r : Rdg) : Bool := relB b t.place r && ((volF b r).2 && decide (t.watch < (volF b r).1.lo))
def qStep (b : Bas) (t : Twn) (ks : List Int) (r : Rdg) : List Int := if hitB b t r then addK ks r.gauge else ks
def qKeys (b : Bas) (t : Twn) (l : List Rdg) : List Int := l.foldl (qStep b t) []
def quorumB (b : Bas) (t : Twn) (l : List Rdg) : Bool := decide (0 < t.quorum) && decide (t.quorum ≤ ((qKeys b t l).length : Int))
theorem qKeys_succ {b : Bas} {t : Twn} {l : List Rdg} {k : Nat} {r : Rdg} (h : l[k]? = some r) : qKeys b t (l.take (k + 1)) = qStep b t (qKeys b t (l.take k)) r := by
  unfold qKeys
  have hl := (List.getElem?_eq_some_iff.1 h).1
  rw [List.take_succ_eq_append_getElem hl, (List.getElem?_eq_some_iff.1 h).2, List.foldl_append]
  rfl

set_option maxRecDepth 100000 in
set_option maxHeartbeats 4000000 in
theorem quorum_any (b : Bas) (τ : Nat) (t : Twn) (s : SlR Rdg) (w w0 : World) (B : Nat) (ws : World) (Bs : Nat) (hM : MBas w0 B b) (hw : Below B w0 w) (hB : B ≤ w.heap.size) (ht : b.tw.l[τ]? = some t)
    (hS : SlR.Mem (Rw cRdg MRdg) 4 ws Bs s) (hws : Below Bs ws w) (hBs : Bs ≤ w.heap.size) (hOk : ∀ r ∈ s.l, OkRdg r) :
    Calls Try.prog 7 #[.agg #[.string b.nm, .slice b.ow.a b.ow.n b.ow.c, .int .i64 b.cells, .slice b.pl.a b.pl.n b.pl.c, .slice b.lk.a b.lk.n b.lk.c, .slice b.tw.a b.tw.n b.tw.c, .slice b.gg.a b.gg.n b.gg.c, .slice b.rd.a b.rd.n b.rd.c, .slice b.sh.a b.sh.n b.sh.c, .slice b.room.a b.room.n b.room.c, .int .i64 b.err], .int .i64 (τ : Int), .slice s.a s.n s.c] w fun e w' => e = .returned (.bool (quorumB b t s.l)) ∧ Below w.heap.size w w' := by
  have hmm := @run_makeMap Try.prog
  have HM := Lib.hid hM
  have HHW := Lib.hid hw
  have HS := Lib.hid hS
  have HWS := Lib.hid hws
  have HOK := Lib.hid hOk
  have htn := two_byte hM.2.2.2.1.le
  have hgn := two_byte hM.2.2.2.2.1.le
  have hsn := two_byte hS.le
  have hg0 : (0 : Int) ≤ (b.gg.n : Int) := by omega
  have hτ : τ < b.tw.n := by have := (List.getElem?_eq_some_iff.1 ht).1; rw [hM.2.2.2.1.len] at this; exact this
  obtain ⟨tb, tof, t', hta, htb, htx, _, htc⟩ := hM.2.2.2.1.at_ (k := τ) hτ
  obtain rfl : t = t' := by rw [htx] at ht; injection ht with ht; exact ht.symm
  have f0 := htc w hw 0 _ rfl
  have f1 := htc w hw 1 _ rfl
  have f2 := htc w hw 2 _ rfl
  have f3 := htc w hw 3 _ rfl
  have f4 := htc w hw 4 _ rfl
  have f5 := htc w hw 5 _ rfl
  have f6 := htc w hw 6 _ rfl
  simp only [Nat.add_zero] at f0
  obtain ⟨TA, hTA⟩ : ∃ z, b.tw.a = z := ⟨_, rfl⟩
  obtain ⟨GA, hGA⟩ : ∃ z, b.gg.a = z := ⟨_, rfl⟩
  obtain ⟨A, hA⟩ : ∃ z, s.a = z := ⟨_, rfl⟩
  obtain ⟨n, hn'⟩ : ∃ z, s.n = z := ⟨_, rfl⟩
  have HVOL := Lib.hid (fun (r : Rdg) (hr : OkRdg r) W (hW : Below w.heap.size w W) => volume28_any b r W w0 B hM hr (hw.trans (hW.mono hB)) (Nat.le_trans hB hW.size))
  rw [hTA] at hta
  subst hta
  rw [hTA, hGA] at HVOL
  rw [hTA, hGA, hA, hn']
  rw [hn'] at hsn
  have HGA := Lib.hid hGA
  have HA := Lib.hid hA
  have HN := Lib.hid hn'
  obtain ⟨W1, hW1⟩ : ∃ z, z = w.alloc (.cells #[.string b.nm, .slice b.ow.a b.ow.n b.ow.c, .int .i64 b.cells, .slice b.pl.a b.pl.n b.pl.c, .slice b.lk.a b.lk.n b.lk.c, .slice (some ⟨tb, tof, none⟩) b.tw.n b.tw.c, .slice GA b.gg.n b.gg.c, .slice b.rd.a b.rd.n b.rd.c, .slice b.sh.a b.sh.n b.sh.c, .slice b.room.a b.room.n b.room.c, .int .i64 b.err] 31) := ⟨_, rfl⟩
  have hz1 : W1.heap.size = w.heap.size + 1 := by rw [hW1]; simp
  have hb1 : Below w.heap.size w W1 := by rw [hW1]; exact (Below.refl _ _).alloc (Nat.le_refl _) _
  have k1 : Bk W1 w.heap.size 31 #[.string b.nm, .slice b.ow.a b.ow.n b.ow.c, .int .i64 b.cells, .slice b.pl.a b.pl.n b.pl.c, .slice b.lk.a b.lk.n b.lk.c, .slice (some ⟨tb, tof, none⟩) b.tw.n b.tw.c, .slice GA b.gg.n b.gg.c, .slice b.rd.a b.rd.n b.rd.c, .slice b.sh.a b.sh.n b.sh.c, .slice b.room.a b.room.n b.room.c, .int .i64 b.err] := by rw [hW1]; exact Bk.new w _ _
  have q0 := (hb1.cell (p := ⟨tb, tof + τ * 7, none⟩) (by show tb < _; omega)).trans f0
  have q1 := (hb1.cell (p := ⟨tb, tof + τ * 7 + 1, none⟩) (by show tb < _; omega)).trans f1
  have q2 := (hb1.cell (p := ⟨tb, tof + τ * 7 + 2, none⟩) (by show tb < _; omega)).trans f2
  have q3 := (hb1.cell (p := ⟨tb, tof + τ * 7 + 3, none⟩) (by show tb < _; omega)).trans f3
  have q4 := (hb1.cell (p := ⟨tb, tof + τ * 7 + 4, none⟩) (by show tb < _; omega)).trans f4
  have q5 := (hb1.cell (p := ⟨tb, tof + τ * 7 + 5, none⟩) (by show tb < _; omega)).trans f5
  have q6 := (hb1.cell (p := ⟨tb, tof + τ * 7 + 6, none⟩) (by show tb < _; omega)).trans f6
  obtain ⟨W2, hW2⟩ : ∃ z, z = W1.alloc (.cells #[.string t.nm, .int .i64 t.place, .int .i64 t.flood, .int .i64 t.lead, .int .i64 t.people, .int .i64 t.watch, .int .i64 t.quorum] 41) := ⟨_, rfl⟩
  have hz2 : W2.heap.size = w.heap.size + 2 := by rw [hW2]; simp [hz1]
  have hb2 : Below w.heap.size w W2 := by rw [hW2]; exact hb1.alloc (by omega) _
  have k2 : Bk W2 w.heap.size 31 #[.string b.nm, .slice b.ow.a b.ow.n b.ow.c, .int .i64 b.cells, .slice b.pl.a b.pl.n b.pl.c, .slice b.lk.a b.lk.n b.lk.c, .slice (some ⟨tb, tof, none⟩) b.tw.n b.tw.c, .slice GA b.gg.n b.gg.c, .slice b.rd.a b.rd.n b.rd.c, .slice b.sh.a b.sh.n b.sh.c, .slice b.room.a b.room.n b.room.c, .int .i64 b.err] := by rw [hW2]; exact k1.alloc _
  have kt : Bk W2 (w.heap.size + 1) 41 #[.string t.nm, .int .i64 t.place, .int .i64 t.flood, .int .i64 t.lead, .int .i64 t.people, .int .i64 t.watch, .int .i64 t.quorum] := by rw [hW2, ← hz1]; exact Bk.new W1 _ _
  obtain ⟨W3, hW3⟩ : ∃ z, z = W2.alloc (.map #[] 0) := ⟨_, rfl⟩
  have hb3 : Below w.heap.size w W3 := by rw [hW3]; exact hb2.alloc (by omega) _
  obtain ⟨g, hg⟩ : ∃ z, w.heap.size + 2 = z := ⟨_, rfl⟩
  have km : MpK W3 g [] := by rw [hW3, ← hg, ← hz2]; exact MpK.new W2
  have FC := Lib.hid (show ∀ W, Below g W3 W → (∀ j, W.cell? ⟨w.heap.size, j, none⟩ = (#[.string b.nm, .slice b.ow.a b.ow.n b.ow.c, .int .i64 b.cells, .slice b.pl.a b.pl.n b.pl.c, .slice b.lk.a b.lk.n b.lk.c, .slice (some ⟨tb, tof, none⟩) b.tw.n b.tw.c, .slice GA b.gg.n b.gg.c, .slice b.rd.a b.rd.n b.rd.c, .slice b.sh.a b.sh.n b.sh.c, .slice b.room.a b.room.n b.room.c, .int .i64 b.err] : Array Value)[j]?) ∧ (∀ j, W.cell? ⟨w.heap.size + 1, j, none⟩ = (#[.string t.nm, .int .i64 t.place, .int .i64 t.flood, .int .i64 t.lead, .int .i64 t.people, .int .i64 t.watch, .int .i64 t.quorum] : Array Value)[j]?) from fun W hW => ⟨((by rw [hW3]; exact k2.alloc _ : Bk W3 w.heap.size 31 #[.string b.nm, .slice b.ow.a b.ow.n b.ow.c, .int .i64 b.cells, .slice b.pl.a b.pl.n b.pl.c, .slice b.lk.a b.lk.n b.lk.c, .slice (some ⟨tb, tof, none⟩) b.tw.n b.tw.c, .slice GA b.gg.n b.gg.c, .slice b.rd.a b.rd.n b.rd.c, .slice b.sh.a b.sh.n b.sh.c, .slice b.room.a b.room.n b.room.c, .int .i64 b.err]).below hW (by omega)).cell, ((by rw [hW3]; exact kt.alloc _ : Bk W3 (w.heap.size + 1) 41 #[.string t.nm, .int .i64 t.place, .int .i64 t.flood, .int .i64 t.lead, .int .i64 t.people, .int .i64 t.watch, .int .i64 t.quorum]).below hW (by omega)).cell⟩)
  have BWW := Lib.hid (show ∀ W, Below g W3 W → Below w.heap.size w W from fun W hW => hb3.trans (hW.mono (by omega)))
  have HKM := Lib.hid km
  have HW1 := Lib.hid hW1
  have HW2 := Lib.hid hW2
  have HW3 := Lib.hid hW3
  have HGZ := Lib.hid (show W2.heap.size = g ∧ w.heap.size < g by omega)
  have c1 := k1.cell
  have hd1 : decide ((τ : Int) < 0) = false := decide_eq_false (by omega)
  have hd2 : decide ((b.tw.n : Int) ≤ (τ : Int)) = false := decide_eq_false (by omega)
  have hd3 : decide (b.tw.n ≤ τ) = false := decide_eq_false (by omega)
  have hτ0 : (0 : Int) ≤ (τ : Int) := by omega
  have hτn : (τ : Int) < (b.tw.n : Int) := by omega
  have hτw : IntKind.i64.wrap (τ : Int) = (τ : Int) := wrapI_id (by omega) (by omega)
  have hzz : W1.heap.size = w.heap.size + 1 := hz1
  have hzz2 : W2.heap.size = g := HGZ.out.1
  clear hM hw ht hS hws hOk hτ htx htc f0 f1 f2 f3 f4 f5 f6 hTA hGA hA hn' hz1 hb1 k1 hz2 hb2 k2 kt hb3 km hW1 hW2 hW3 hg
  go_enter Try.func7, Try.ntmps7
  go_upto_region 1 with fail
  rw [← HW1.out]
  go_upto_region 4 with fail
  rw [← HW2.out]
  try rw [hzz]
  clear hzz q0 q1 q2 q3 q4 q5 q6 c1
  go_upto_region 5 with fail
  rw [← HW3.out]
  try rw [hzz2]
  clear hzz2 hmm
  go_wp2_with fail
  go_loopw [30] (fun i wr => ∃ k : Nat, k ≤ n ∧ i = .int .i64 (k : Int) ∧ Hid (MpK wr g (qKeys b t (s.l.take k))) ∧ Below g W3 wr ∧ g < wr.heap.size) (fun i _ => n - (intOf i).toNat)
  case atStart => exact ⟨0, by omega, rfl, Lib.hid HKM.out, Below.refl _ _, HKM.out.lt⟩
  case round =>
    obtain ⟨k, hk, rfl, HMK, hbr, hgs⟩ := hrel
    have HB := Lib.hid hbr
    clear hbr
    by_cases hlt : k < n
    · have hk0 : (0 : Int) ≤ (k : Int) := by omega
      have hki : (k : Int) < (n : Int) := by omega
      obtain ⟨rb, ro, r, hra, hrb, hx, _, hc⟩ := HS.out.at_ (k := k) (by rw [HN.out]; exact hlt)
      obtain rfl : A = some ⟨rb, ro, none⟩ := HA.out.symm.trans hra
      have hbw := HWS.out.trans ((BWW.out _ HB.out).mono hBs)
      have e0 := hc _ hbw 0 _ rfl
      have e1 := hc _ hbw 1 _ rfl
      have e2 := hc _ hbw 2 _ rfl
      have e3 := hc _ hbw 3 _ rfl
      simp only [Nat.add_zero] at e0
      have HX := Lib.hid hx
      have HR := Lib.hid (HOK.out r (List.mem_iff_getElem?.2 ⟨k, hx⟩))
      obtain ⟨W4, hW4⟩ : ∃ z, z = wr.alloc (.cells #[.int .i64 r.gauge, .int .i64 r.hour, .int .i64 r.value.lo, .int .i64 r.value.hi] 36) := ⟨_, rfl⟩
      have hb4 : Below g W3 W4 := by rw [hW4]; exact HB.out.alloc (by omega) _
      obtain ⟨h, hh⟩ : ∃ z, wr.heap.size = z := ⟨_, rfl⟩
      have kr : Bk W4 h 36 #[.int .i64 r.gauge, .int .i64 r.hour, .int .i64 r.value.lo, .int .i64 r.value.hi] := by rw [hW4, ← hh]; exact Bk.new wr _ _
      have HMK4 := Lib.hid (show MpK W4 g (qKeys b t (s.l.take k)) by rw [hW4]; exact HMK.out.below ((Below.refl wr.heap.size wr).alloc (Nat.le_refl _) _) hgs)
      have hz4 : W4.heap.size = h + 1 := by rw [hW4, ← hh]; simp
      have c4 := kr.cell
      obtain ⟨d1, d2⟩ := FC.out W4 hb4
      have HKR := Lib.hid kr
      have HB4 := Lib.hid hb4
      have HW4 := Lib.hid hW4
      have HZ4 := Lib.hid (show g < W4.heap.size ∧ h < W4.heap.size ∧ g < h + 1 by omega)
      have HST := Lib.hid (qKeys_succ (b := b) (t := t) hx)
      have hzz := hh
      clear hra hx hc hbw hW4 hb4 kr hz4 hh
      go_upto_region 8 with fail
      rw [← HW4.out]
      try rw [hzz]
      clear e0 e1 e2 e3 hzz
      by_cases hn0 : r.gauge < 0
      · have HHIT := Lib.hid (show hitB b t r = false by unfold hitB relB; rw [decide_eq_false (show ¬ (0 ≤ r.gauge) by omega)]; rfl)
        have a1 : decide (r.gauge < 0) = true := decide_eq_true hn0
        clear hn0
        go_wp2_with fail
        refine wp_region_M [0, 1, 2, 3, 4, 5, 6, 7, 8, 9, 10, 11, 12, 13, 14, 15, 16, 17, 18, 19, 20, 21, 22, 23, 24, 25, 26, 27, 28, 29, 30, 31, 32] [] (fun W => W = W4.drew) (by kernel_rfl) (by kernel_rfl) rfl ?_
        iterate 4 (refine M_pure (by rfl) (by rfl) ?_; apply Exists.intro; apply And.intro; (case left => (intro w hSw; (try dsimp only at hSw); go_simp; try with_reducible rfl)); (try simp only [Act.put, List.setIfInBounds_toArray, List.set_cons_zero, List.set_cons_succ]))
        iterate 6 (refine M_off (by rfl) (by rfl) ?_; (try simp only [Act.put, List.setIfInBounds_toArray, List.set_cons_zero, List.set_cons_succ]))
        iterate 2 (refine M_pure (by rfl) (by rfl) ?_; apply Exists.intro; apply And.intro; (case left => (intro w hSw; (try dsimp only at hSw); go_simp; try with_reducible rfl)); (try simp only [Act.put, List.setIfInBounds_toArray, List.set_cons_zero, List.set_cons_succ]))
        iterate 8 (refine M_off (by rfl) (by rfl) ?_; (try simp only [Act.put, List.setIfInBounds_toArray, List.set_cons_zero, List.set_cons_succ]))
        iterate 2 (refine M_pure (by rfl) (by rfl) ?_; apply Exists.intro; apply And.intro; (case left => (intro w hSw; (try dsimp only at hSw); go_simp; try with_reducible rfl)); (try simp only [Act.put, List.setIfInBounds_toArray, List.set_cons_zero, List.set_cons_succ]))
        iterate 10 (refine M_off (by rfl) (by rfl) ?_; (try simp only [Act.put, List.setIfInBounds_toArray, List.set_cons_zero, List.set_cons_succ]))
        iterate 1 (refine M_pure (by rfl) (by rfl) ?_; apply Exists.intro; apply And.intro; (case left => (intro w hSw; (try dsimp only at hSw); go_simp; try with_reducible rfl)); (try simp only [Act.put, List.setIfInBounds_toArray, List.set_cons_zero, List.set_cons_succ]))
        refine M_nil ?_
        try dsimp only
        go_wp2_with fail
        go_roundw
        case rel => exact ⟨k + 1, by omega, by go_num, Lib.hid (by rw [HST.out]; unfold qStep; rw [HHIT.out]; exact HMK4.out), HB4.out.drew, HZ4.out.1⟩
        case measure => simp [intOf]; omega
      have a1 : decide (r.gauge < 0) = false := decide_eq_false hn0
      by_cases hn1 : (b.gg.n : Int) ≤ r.gauge
      · have HHIT := Lib.hid (show hitB b t r = false by
          unfold hitB relB
          rw [List.getElem?_eq_none (by rw [HM.out.2.2.2.2.1.len]; omega)]
          simp)
        have a2 : decide ((b.gg.n : Int) ≤ r.gauge) = true := decide_eq_true hn1
        clear hn0 hn1
        go_wp2_with fail
        refine wp_region_M [0, 1, 2, 3, 4, 5, 6, 7, 8, 9, 10, 11, 12, 13, 14, 15, 16, 17, 18, 19, 20, 21, 22, 23, 24, 25, 26, 27, 28, 29, 30, 31, 32] [] (fun W => W = W4.drew) (by kernel_rfl) (by kernel_rfl) rfl ?_
        iterate 12 (refine M_pure (by rfl) (by rfl) ?_; apply Exists.intro; apply And.intro; (case left => (intro w hSw; (try dsimp only at hSw); go_simp; try with_reducible rfl)); (try simp only [Act.put, List.setIfInBounds_toArray, List.set_cons_zero, List.set_cons_succ]))
        iterate 8 (refine M_off (by rfl) (by rfl) ?_; (try simp only [Act.put, List.setIfInBounds_toArray, List.set_cons_zero, List.set_cons_succ]))
        iterate 2 (refine M_pure (by rfl) (by rfl) ?_; apply Exists.intro; apply And.intro; (case left => (intro w hSw; (try dsimp only at hSw); go_simp; try with_reducible rfl)); (try simp only [Act.put, List.setIfInBounds_toArray, List.set_cons_zero, List.set_cons_succ]))
        iterate 10 (refine M_off (by rfl) (by rfl) ?_; (try simp only [Act.put, List.setIfInBounds_toArray, List.set_cons_zero, List.set_cons_succ]))
        iterate 1 (refine M_pure (by rfl) (by rfl) ?_; apply Exists.intro; apply And.intro; (case left => (intro w hSw; (try dsimp only at hSw); go_simp; try with_reducible rfl)); (try simp only [Act.put, List.setIfInBounds_toArray, List.set_cons_zero, List.set_cons_succ]))
        refine M_nil ?_
        try dsimp only
        go_wp2_with fail
        go_roundw
        case rel => exact ⟨k + 1, by omega, by go_num, Lib.hid (by rw [HST.out]; unfold qStep; rw [HHIT.out]; exact HMK4.out), HB4.out.drew, HZ4.out.1⟩
        case measure => simp [intOf]; omega
      have a2 : decide ((b.gg.n : Int) ≤ r.gauge) = false := decide_eq_false hn1
      obtain ⟨q, hq⟩ : ∃ q : Nat, r.gauge = (q : Int) := ⟨r.gauge.toNat, by omega⟩
      have hqn : q < b.gg.n := by omega
      obtain ⟨pb, po, gg, hpa, hpb, hgx, _, hgc⟩ := HM.out.2.2.2.2.1.at_ (k := q) hqn
      obtain rfl : GA = some ⟨pb, po, none⟩ := HGA.out.symm.trans hpa
      have hbg := HHW.out.trans ((BWW.out _ HB4.out).mono hB)
      have g1 := hgc _ hbg 1 _ rfl
      have g2 := hgc _ hbg 2 _ rfl
      obtain ⟨u1, hu1⟩ : ∃ z, (gg.kind == 0) = z := ⟨_, rfl⟩
      obtain ⟨u2, hu2⟩ : ∃ z, (gg.target == t.place) = z := ⟨_, rfl⟩
      have n1 : (gg.kind != 0) = !u1 := by simp [bne, hu1]
      have n2 : (gg.target != t.place) = !u2 := by simp [bne, hu2]
      have HHI := Lib.hid (show hitB b t r = ((u1 && u2) && ((volF b r).2 && decide (t.watch < (volF b r).1.lo))) by
        unfold hitB relB
        rw [decide_eq_true (show 0 ≤ r.gauge by omega), hq, Int.toNat_natCast, hgx]
        simp only [Bool.true_and]
        rw [hu1, hu2])
      have hq0 : (0 : Int) ≤ (q : Int) := by omega
      have hqi : (q : Int) < (b.gg.n : Int) := by omega
      have hqw : IntKind.i64.wrap (q : Int) = (q : Int) := wrapI_id (by omega) (by omega)
      have b1 : decide ((q : Int) < 0) = false := decide_eq_false (by omega)
      have b2 : decide ((b.gg.n : Int) ≤ (q : Int)) = false := decide_eq_false (by omega)
      have b3 : decide (b.gg.n ≤ q) = false := decide_eq_false (by omega)
      clear hpa hgx hgc hbg hu1 hu2 hn0 hn1 hqn
      cases u1
      · have HHIT := Lib.hid (show hitB b t r = false by rw [HHI.out]; rfl)
        go_wp2_with fail
        refine wp_region_M [0, 1, 2, 3, 4, 5, 6, 7, 8, 9, 10, 11, 12, 13, 14, 15, 16, 17, 18, 19, 20, 21, 22, 23, 24, 25, 26, 27, 28, 29, 30, 31, 32] [] (fun W => W = W4.drew) (by kernel_rfl) (by kernel_rfl) rfl ?_
        iterate 22 (refine M_pure (by rfl) (by rfl) ?_; apply Exists.intro; apply And.intro; (case left => (intro w hSw; (try dsimp only at hSw); go_simp; try with_reducible rfl)); (try simp only [Act.put, List.setIfInBounds_toArray, List.set_cons_zero, List.set_cons_succ]))
        iterate 10 (refine M_off (by rfl) (by rfl) ?_; (try simp only [Act.put, List.setIfInBounds_toArray, List.set_cons_zero, List.set_cons_succ]))
        iterate 1 (refine M_pure (by rfl) (by rfl) ?_; apply Exists.intro; apply And.intro; (case left => (intro w hSw; (try dsimp only at hSw); go_simp; try with_reducible rfl)); (try simp only [Act.put, List.setIfInBounds_toArray, List.set_cons_zero, List.set_cons_succ]))
        refine M_nil ?_
        try dsimp only
        go_wp2_with fail
        go_roundw
        case rel => exact ⟨k + 1, by omega, by go_num, Lib.hid (by rw [HST.out]; unfold qStep; rw [HHIT.out]; exact HMK4.out), HB4.out.drew, HZ4.out.1⟩
        case measure => simp [intOf]; omega
      cases u2
      · have HHIT := Lib.hid (show hitB b t r = false by rw [HHI.out]; rfl)
        go_wp2_with fail
        refine wp_region_M [0, 1, 2, 3, 4, 5, 6, 7, 8, 9, 10, 11, 12, 13, 14, 15, 16, 17, 18, 19, 20, 21, 22, 23, 24, 25, 26, 27, 28, 29, 30, 31, 32] [] (fun W => W = W4.drew) (by kernel_rfl) (by kernel_rfl) rfl ?_
        iterate 33 (refine M_pure (by rfl) (by rfl) ?_; apply Exists.intro; apply And.intro; (case left => (intro w hSw; (try dsimp only at hSw); go_simp; try with_reducible rfl)); (try simp only [Act.put, List.setIfInBounds_toArray, List.set_cons_zero, List.set_cons_succ]))
        refine M_nil ?_
        try dsimp only
        go_wp2_with fail
        go_roundw
        case rel => exact ⟨k + 1, by omega, by go_num, Lib.hid (by rw [HST.out]; unfold qStep; rw [HHIT.out]; exact HMK4.out), HB4.out.drew, HZ4.out.1⟩
        case measure => simp [intOf]; omega
      have CV := Lib.hid (HVOL.out r HR.out W4.drew (BWW.out _ HB4.out).drew)
      obtain ⟨sp, hsp⟩ : ∃ z, (volF b r).1 = z := ⟨_, rfl⟩
      obtain ⟨vb, hvb⟩ : ∃ z, (volF b r).2 = z := ⟨_, rfl⟩
      rw [hsp, hvb] at CV HHI
      clear hsp hvb
      rw [hq] at CV
      go_wp2_with fail
      refine wp_region_M [0, 1, 2, 3, 4, 5, 6, 7, 8, 9, 10, 11, 12, 13, 14, 15, 16, 17, 18, 19, 20, 21, 22, 23, 24, 25, 26, 27, 28, 29, 30, 31, 32] [] (fun W => W = W4.drew) (by kernel_rfl) (by kernel_rfl) rfl ?_
      iterate 33 (refine M_pure (by rfl) (by rfl) ?_; apply Exists.intro; apply And.intro; (case left => (intro w hSw; (try dsimp only at hSw); go_simp; try with_reducible rfl)); (try simp only [Act.put, List.setIfInBounds_toArray, List.set_cons_zero, List.set_cons_succ]))
      refine M_nil ?_
      try dsimp only
      go_wp2_with fail
      refine CV.out.mono ?_
      rintro e W5 ⟨rfl, hb5⟩
      have hb5' : Below W4.heap.size W4 W5 := (Below.refl W4.heap.size W4).drew.trans hb5
      have HB5 := Lib.hid (show Below g W3 W5 from HB4.out.trans (hb5'.mono (Nat.le_of_lt HZ4.out.1)))
      obtain ⟨W6, hW6⟩ : ∃ z, z = W5.alloc (.cells #[.int .i64 sp.lo, .int .i64 sp.hi] 34) := ⟨_, rfl⟩
      have hb6 : Below W5.heap.size W5 W6 := by rw [hW6]; exact (Below.refl _ _).alloc (Nat.le_refl _) _
      have hsz5 := hb5'.size
      have hz := HZ4.out
      have HB6 := Lib.hid (show Below g W3 W6 from HB5.out.trans (hb6.mono (by omega)))
      have HMK6 := Lib.hid (show MpK W6 g (qKeys b t (s.l.take k)) from (HMK4.out.below hb5' hz.1).below hb6 (by omega))
      have ks : Bk W6 W5.heap.size 34 #[.int .i64 sp.lo, .int .i64 sp.hi] := by rw [hW6]; exact Bk.new W5 _ _
      have c6 := ((HKR.out.below hb5' hz.2.1).below hb6 (by omega)).cell
      have cs6 := ks.cell
      clear d1 d2 c4
      obtain ⟨d1, d2⟩ := FC.out W6 HB6.out
      obtain ⟨h5, hh5⟩ : ∃ z, W5.heap.size = z := ⟨_, rfl⟩
      have HW6 := Lib.hid hW6
      rw [hh5] at cs6
      have HGS := Lib.hid (show g < W6.heap.size by have := hb6.size; omega)
      clear hb5 hb5' hb6 hW6 ks hsz5 hz g1 g2
      go_upto_region 10 with fail
      rw [← HW6.out]
      try rw [hh5]
      clear hh5
      cases vb
      · have HHIT := Lib.hid (show hitB b t r = false by rw [HHI.out]; rfl)
        go_wp2_with fail
        go_roundw
        case rel =>
          exact ⟨k + 1, by omega, by go_num, Lib.hid (by rw [HST.out]; unfold qStep; rw [HHIT.out]; exact HMK6.out), HB6.out, HGS.out⟩
        case measure => simp [intOf]; omega
      obtain ⟨z, hz⟩ : ∃ z, decide (t.watch < sp.lo) = z := ⟨_, rfl⟩
      rw [hz] at HHI
      cases z
      · have HHIT := Lib.hid (show hitB b t r = false by rw [HHI.out]; rfl)
        go_wp2_with fail
        go_roundw
        case rel =>
          exact ⟨k + 1, by omega, by go_num, Lib.hid (by rw [HST.out]; unfold qStep; rw [HHIT.out]; exact HMK6.out), HB6.out, HGS.out⟩
        case measure => simp [intOf]; omega
      have HHIT := Lib.hid (show hitB b t r = true by rw [HHI.out]; rfl)
      obtain ⟨w2, hup, hput⟩ := HMK6.out.run_update (P := Try.prog) (t := 83) Try.underlying83 Try.underlying3 (q : Int) (.bool true)
      have HPUT := Lib.hid hput
      have HQ := Lib.hid hq
      clear hput
      go_wp2_with fail
      go_roundw
      case rel =>
        have hb7 : Below g W3 w2 := ⟨HPUT.out.os.trans HB6.out.os, HPUT.out.tape.trans HB6.out.tape, HPUT.out.output.trans HB6.out.output, Nat.le_trans HB6.out.size (Nat.le_of_eq HPUT.out.size.symm), fun j hj => (HPUT.out.block j (by omega)).trans (HB6.out.block j hj)⟩
        exact ⟨k + 1, by omega, by go_num, Lib.hid (by rw [HST.out]; unfold qStep; rw [HHIT.out, HQ.out]; exact HPUT.out.map), hb7, by rw [HPUT.out.size]; exact HGS.out⟩
      case measure => simp [intOf]; omega
    · obtain rfl : k = n := by omega
      have HMK2 := Lib.hid (show MpK wr g (qKeys b t s.l) by
        have := HMK.out
        rw [List.take_of_length_le (by rw [HS.out.len, HN.out]; exact Nat.le_refl _)] at this
        exact this)
      have hlen := HMK2.out.run_len (P := Try.prog) (t := 83) Try.underlying83 3
      obtain ⟨d1, d2⟩ := FC.out wr HB.out
      obtain ⟨m, hm⟩ : ∃ z, (qKeys b t s.l).length = z := ⟨_, rfl⟩
      rw [hm] at hlen
      have HQ := Lib.hid (show quorumB b t s.l = (decide (0 < t.quorum) && decide (t.quorum ≤ (m : Int))) by unfold quorumB; rw [hm])
      clear hm hlt hk
      cases hq : decide (0 < t.quorum)
      · rw [hq] at HQ
        go_wp2_with fail
        go_ret
        exact ⟨by rw [HQ.out]; rfl, BWW.out _ HB.out⟩
      · rw [hq] at HQ
        go_wp2_with fail
        go_ret
        exact ⟨by rw [HQ.out]; first | rfl | simp, BWW.out _ HB.out⟩

end Go.Proofs.Ytmkbojhnbkdalaa
