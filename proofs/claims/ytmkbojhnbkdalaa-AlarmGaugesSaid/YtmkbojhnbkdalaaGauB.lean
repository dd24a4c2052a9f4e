/- The walks of span.Right, span.Meet and fuse.gauge. -/
import Derived.Test.YtmkbojhnbkdalaaApiG
import Derived.Test.YtmkbojhnbkdalaaGauA
import Derived.Test.YtmkbojhnbkdalaaRegionM
import Derived.Test.YtmkbojhnbkdalaaBasP
set_option linter.unusedSimpArgs false
set_option linter.unusedVariables false
namespace Go.Proofs.Ytmkbojhnbkdalaa
open Go.RowKit

set_option maxRecDepth 100000 in
theorem spanRight_any (s : Spn) (w : World) : Calls Try.prog 9 #[.agg #[.int .i64 s.lo, .int .i64 s.hi]] w fun e w' => e = .returned (.bool (decide (s.lo ≤ s.hi))) ∧ Below w.heap.size w w' := by
  go_enter Try.func9, Try.ntmps9
  go_wp2
  go_ret
  exact ⟨by first | rfl | simp, (Below.refl _ _).alloc (Nat.le_refl _) _⟩

def meetF (a b : Spn) : Spn × Bool := if max a.lo b.lo ≤ min a.hi b.hi then (⟨max a.lo b.lo, min a.hi b.hi⟩, true) else (⟨0, 0⟩, false)
set_option maxRecDepth 100000 in
set_option maxHeartbeats 1000000 in
theorem meet_any (a b : Spn) (w : World) : Calls Try.prog 27 #[.agg #[.int .i64 a.lo, .int .i64 a.hi], .agg #[.int .i64 b.lo, .int .i64 b.hi]] w fun e w' => e = .returned (.tuple #[.agg #[.int .i64 (meetF a b).1.lo, .int .i64 (meetF a b).1.hi], .bool (meetF a b).2]) ∧ Below w.heap.size w w' := by
  obtain ⟨m1, hm1⟩ : ∃ z, max a.lo b.lo = z := ⟨_, rfl⟩
  obtain ⟨m2, hm2⟩ : ∃ z, min a.hi b.hi = z := ⟨_, rfl⟩
  have HF := Lib.hid (show meetF a b = if m1 ≤ m2 then (⟨m1, m2⟩, true) else (⟨0, 0⟩, false) by unfold meetF; rw [hm1, hm2])
  obtain ⟨W1, hW1⟩ : ∃ z, z = ((w.alloc (.cells #[.int .i64 a.lo, .int .i64 a.hi] 34)).alloc (.cells #[.int .i64 b.lo, .int .i64 b.hi] 34)).alloc (.cells #[.int .i64 0, .int .i64 0] 34) := ⟨_, rfl⟩
  have hz1 : W1.heap.size = w.heap.size + 3 := by rw [hW1]; simp
  have ka : Bk W1 w.heap.size 34 #[.int .i64 a.lo, .int .i64 a.hi] := by rw [hW1]; exact ((Bk.new w _ _).alloc _).alloc _
  have kb : Bk W1 (w.heap.size + 1) 34 #[.int .i64 b.lo, .int .i64 b.hi] := by rw [hW1]; exact (Bk.newAt _ (by simp) _ _).alloc _
  have kz : Bk W1 (w.heap.size + 2) 34 #[.int .i64 0, .int .i64 0] := by rw [hW1]; exact Bk.newAt _ (by simp) _ _
  have hb1 : Below w.heap.size w W1 := by rw [hW1]; exact (((Below.refl _ _).alloc (Nat.le_refl _) _).alloc (by simp) _).alloc (by simp; omega) _
  obtain ⟨W2, hW2⟩ : ∃ z, z = W1.alloc (.cells #[.int .i64 m1, .int .i64 m2] 34) := ⟨_, rfl⟩
  have hb12 : Below W1.heap.size W1 W2 := by rw [hW2]; exact (Below.refl _ _).alloc (Nat.le_refl _) _
  have ks : Bk W2 (w.heap.size + 3) 34 #[.int .i64 m1, .int .i64 m2] := by rw [hW2, ← hz1]; exact Bk.new W1 _ _
  have hz2 : W2.heap.size = w.heap.size + 4 := by rw [hW2]; simp [hz1]
  have CR := Lib.hid (spanRight_any ⟨m1, m2⟩ W2)
  have ca := ka.cell
  have cb := kb.cell
  have HKZ := Lib.hid (kz.below hb12 (by omega))
  have HKS := Lib.hid ks
  have HB2 := Lib.hid (hb1.trans (hb12.mono (by omega)))
  have HW1 := Lib.hid hW1
  have HW2 := Lib.hid hW2
  have HZ2 := Lib.hid hz2
  have cs := ks.cell
  have hzz : W1.heap.size = w.heap.size + 3 := hz1
  clear ka kb kz hb1 hb12 ks hW1 hW2 hz1 hz2
  go_enter Try.func27, Try.ntmps27
  go_upto_region 1 with fail
  rw [← HW1.out]
  go_upto_region 2 with fail
  rw [← HW2.out]
  try rw [hzz]
  clear hzz ca cb
  go_wp2_with fail
  refine CR.out.mono ?_
  rintro e W3 ⟨rfl, hb3⟩
  have HB3 := Lib.hid (HB2.out.trans (hb3.mono (by have := HZ2.out; omega)))
  have kz3 := HKZ.out.below hb3 (by have := HZ2.out; omega)
  have cs3 := (HKS.out.below hb3 (by have := HZ2.out; omega)).cell
  have cz3 := kz3.cell
  have fz3 := kz3.frozen
  have HK3 := Lib.hid kz3
  clear hb3 kz3 cs
  by_cases hle : m1 ≤ m2
  · have HF2 := Lib.hid (show meetF a b = (⟨m1, m2⟩, true) by rw [HF.out, if_pos hle])
    have hd : decide (m1 ≤ m2) = true := decide_eq_true hle
    have ck : ∀ j, ((W3.setCell ⟨w.heap.size + 2, 0, none⟩ (.int .i64 m1)).setCell ⟨w.heap.size + 2, 1, none⟩ (.int .i64 m2)).cell? ⟨w.heap.size + 2, j, none⟩ = (#[.int .i64 m1, .int .i64 m2] : Array Value)[j]? := ((HK3.out.set_ 0 _).set_ 1 _).cell
    clear hle hm1 hm2
    go_wp2_with fail
    refine bodyPost_ret (v := .tuple #[.agg #[.int .i64 m1, .int .i64 m2], .bool true]) ?_ rfl ⟨by rw [HF2.out], ?_⟩
    · simp [results, Try.results27, go_sem, *]
    · exact (HB3.out.setCell (p := ⟨w.heap.size + 2, 0, none⟩) (by simp) _).setCell (p := ⟨w.heap.size + 2, 1, none⟩) (by simp) _
  · have HF2 := Lib.hid (show meetF a b = (⟨0, 0⟩, false) by rw [HF.out, if_neg hle])
    have hd : decide (m1 ≤ m2) = false := decide_eq_false hle
    have ck : ∀ j, ((W3.setCell ⟨w.heap.size + 2, 0, none⟩ (.int .i64 0)).setCell ⟨w.heap.size + 2, 1, none⟩ (.int .i64 0)).cell? ⟨w.heap.size + 2, j, none⟩ = (#[.int .i64 0, .int .i64 0] : Array Value)[j]? := ((HK3.out.set_ 0 _).set_ 1 _).cell
    clear hle hm1 hm2
    go_wp2_with fail
    refine bodyPost_ret (v := .tuple #[.agg #[.int .i64 0, .int .i64 0], .bool false]) ?_ rfl ⟨by rw [HF2.out], ?_⟩
    · simp [results, Try.results27, go_sem, *]
    · exact (HB3.out.setCell (p := ⟨w.heap.size + 2, 0, none⟩) (by simp) _).setCell (p := ⟨w.heap.size + 2, 1, none⟩) (by simp) _

def gau0 : Gau := ⟨⟨#[]⟩, 0, 0, 0, 0⟩
def gaugeF (b : Bas) (r : Rdg) : Gau × Bool := if 0 ≤ r.gauge then (match b.gg.l[r.gauge.toNat]? with
  | some g => (g, decide (g.kind = 0) && (decide (0 ≤ g.target) && decide (g.target < (b.pl.n : Int))))
  | none => (gau0, false)) else (gau0, false)
def gauV (g : Gau) : Value := .agg #[.string g.nm, .int .i64 g.kind, .int .i64 g.target, .int .i64 g.err, .int .i64 g.drift]

set_option maxRecDepth 100000 in
set_option maxHeartbeats 2000000 in
theorem gauge_any (b : Bas) (r : Rdg) (w w0 : World) (B : Nat) (hM : SlR.Mem (Rw cGau MGau) 5 w0 B b.gg) (hw : Below B w0 w) (hB : B ≤ w.heap.size) :
    Calls Try.prog 25 #[.agg #[.string b.nm, .slice b.ow.a b.ow.n b.ow.c, .int .i64 b.cells, .slice b.pl.a b.pl.n b.pl.c, .slice b.lk.a b.lk.n b.lk.c, .slice b.tw.a b.tw.n b.tw.c, .slice b.gg.a b.gg.n b.gg.c, .slice b.rd.a b.rd.n b.rd.c, .slice b.sh.a b.sh.n b.sh.c, .slice b.room.a b.room.n b.room.c, .int .i64 b.err], .agg #[.int .i64 r.gauge, .int .i64 r.hour, .int .i64 r.value.lo, .int .i64 r.value.hi], .int .i64 0, .int .i64 (b.pl.n : Int)] w fun e w' => e = .returned (.tuple #[gauV (gaugeF b r).1, .bool (gaugeF b r).2]) ∧ Below w.heap.size w w' := by
  have HM := Lib.hid hM
  have HHW := Lib.hid hw
  have hgn := two_byte hM.le
  have hg0 : (0 : Int) ≤ (b.gg.n : Int) := by omega
  obtain ⟨GA, hGA⟩ : ∃ z, b.gg.a = z := ⟨_, rfl⟩
  rw [hGA]
  have HGA := Lib.hid hGA
  obtain ⟨W1, hW1⟩ : ∃ z, z = ((w.alloc (.cells #[.string b.nm, .slice b.ow.a b.ow.n b.ow.c, .int .i64 b.cells, .slice b.pl.a b.pl.n b.pl.c, .slice b.lk.a b.lk.n b.lk.c, .slice b.tw.a b.tw.n b.tw.c, .slice GA b.gg.n b.gg.c, .slice b.rd.a b.rd.n b.rd.c, .slice b.sh.a b.sh.n b.sh.c, .slice b.room.a b.room.n b.room.c, .int .i64 b.err] 31)).alloc (.cells #[.int .i64 r.gauge, .int .i64 r.hour, .int .i64 r.value.lo, .int .i64 r.value.hi] 36)).alloc (.cells #[.string ⟨#[]⟩, .int .i64 0, .int .i64 0, .int .i64 0, .int .i64 0] 44) := ⟨_, rfl⟩
  have hz1 : W1.heap.size = w.heap.size + 3 := by rw [hW1]; simp
  have ka : Bk W1 w.heap.size 31 #[.string b.nm, .slice b.ow.a b.ow.n b.ow.c, .int .i64 b.cells, .slice b.pl.a b.pl.n b.pl.c, .slice b.lk.a b.lk.n b.lk.c, .slice b.tw.a b.tw.n b.tw.c, .slice GA b.gg.n b.gg.c, .slice b.rd.a b.rd.n b.rd.c, .slice b.sh.a b.sh.n b.sh.c, .slice b.room.a b.room.n b.room.c, .int .i64 b.err] := by rw [hW1]; exact ((Bk.new w _ _).alloc _).alloc _
  have kb : Bk W1 (w.heap.size + 1) 36 #[.int .i64 r.gauge, .int .i64 r.hour, .int .i64 r.value.lo, .int .i64 r.value.hi] := by rw [hW1]; exact (Bk.newAt _ (by simp) _ _).alloc _
  have kz : Bk W1 (w.heap.size + 2) 44 #[.string ⟨#[]⟩, .int .i64 0, .int .i64 0, .int .i64 0, .int .i64 0] := by rw [hW1]; exact Bk.newAt _ (by simp) _ _
  have hb1 : Below w.heap.size w W1 := by rw [hW1]; exact (((Below.refl _ _).alloc (Nat.le_refl _) _).alloc (by simp) _).alloc (by simp; omega) _
  have ca := ka.cell
  have cb := kb.cell
  have cz := kz.cell
  have fz := kz.frozen
  have HKZ := Lib.hid kz
  have HB1 := Lib.hid hb1
  have HW1 := Lib.hid hW1
  have HZ1 := Lib.hid hz1
  clear hM hw hGA ka kb kz hb1 hW1 hz1
  by_cases hin : 0 ≤ r.gauge ∧ r.gauge < (b.gg.n : Int)
  case neg =>
    have HF := Lib.hid (show gaugeF b r = (gau0, false) by
      unfold gaugeF
      split
      · rename_i h0
        rw [List.getElem?_eq_none (by rw [HM.out.len]; omega)]
      · rfl)
    have hd1 : decide (r.gauge < 0) = true ∨ (decide (r.gauge < 0) = false ∧ decide ((b.gg.n : Int) ≤ r.gauge) = true) := by
      by_cases h : r.gauge < 0
      · exact .inl (decide_eq_true h)
      · exact .inr ⟨decide_eq_false h, decide_eq_true (by omega)⟩
    have ck : ∀ j, (((((W1.setCell ⟨w.heap.size + 2, 0, none⟩ (.string ⟨#[]⟩)).setCell ⟨w.heap.size + 2, 1, none⟩ (.int .i64 0)).setCell ⟨w.heap.size + 2, 2, none⟩ (.int .i64 0)).setCell ⟨w.heap.size + 2, 3, none⟩ (.int .i64 0)).setCell ⟨w.heap.size + 2, 4, none⟩ (.int .i64 0)).cell? ⟨w.heap.size + 2, j, none⟩ = (#[.string ⟨#[]⟩, .int .i64 0, .int .i64 0, .int .i64 0, .int .i64 0] : Array Value)[j]? := (((((HKZ.out.set_ 0 _).set_ 1 _).set_ 2 _).set_ 3 _).set_ 4 _).cell
    clear hin
    go_enter Try.func25, Try.ntmps25
    go_upto_region 1 with fail
    rw [← HW1.out]
    rcases hd1 with hd1 | ⟨hd1, hd2⟩
    all_goals
      go_wp2_with fail
      refine bodyPost_ret (v := .tuple #[.agg #[.string ⟨#[]⟩, .int .i64 0, .int .i64 0, .int .i64 0, .int .i64 0], .bool false]) ?_ rfl ⟨by rw [HF.out]; rfl, ?_⟩
      · simp [results, Try.results25, go_sem, *]
      · exact ((((HB1.out.setCell (p := ⟨w.heap.size + 2, 0, none⟩) (by simp) _).setCell (p := ⟨w.heap.size + 2, 1, none⟩) (by simp) _).setCell (p := ⟨w.heap.size + 2, 2, none⟩) (by simp) _).setCell (p := ⟨w.heap.size + 2, 3, none⟩) (by simp) _).setCell (p := ⟨w.heap.size + 2, 4, none⟩) (by simp) _
  obtain ⟨k, hk⟩ : ∃ k : Nat, r.gauge = (k : Int) := ⟨r.gauge.toNat, by omega⟩
  have hkn : k < b.gg.n := by omega
  rw [hk] at HW1 cb ⊢
  obtain ⟨pb, po, g, hpa, hpb, hx, _, hc⟩ := HM.out.at_ (k := k) hkn
  obtain rfl : GA = some ⟨pb, po, none⟩ := HGA.out.symm.trans hpa
  have hbw := HHW.out.trans (HB1.out.mono hB)
  have e0 := hc _ hbw 0 _ rfl
  have e1 := hc _ hbw 1 _ rfl
  have e2 := hc _ hbw 2 _ rfl
  have e3 := hc _ hbw 3 _ rfl
  have e4 := hc _ hbw 4 _ rfl
  simp only [Nat.add_zero] at e0
  have hd1 : decide ((k : Int) < 0) = false := decide_eq_false (by omega)
  have hd2 : decide ((b.gg.n : Int) ≤ (k : Int)) = false := decide_eq_false (by omega)
  have hk0 : (0 : Int) ≤ (k : Int) := by omega
  have hki : (k : Int) < (b.gg.n : Int) := by omega
  have hkw : IntKind.i64.wrap (k : Int) = (k : Int) := wrapI_id (by omega) (by omega)
  obtain ⟨c1, hc1⟩ : ∃ z, (g.kind == 0) = z := ⟨_, rfl⟩
  obtain ⟨c2, hc2⟩ : ∃ z, decide (0 ≤ g.target) = z := ⟨_, rfl⟩
  obtain ⟨c3, hc3⟩ : ∃ z, decide (g.target < (b.pl.n : Int)) = z := ⟨_, rfl⟩
  have HF := Lib.hid (show gaugeF b r = (g, c1 && (c2 && c3)) by
    unfold gaugeF
    rw [if_pos hin.1, hk, Int.toNat_natCast, hx]
    simp only []
    rw [hc2, hc3, show decide (g.kind = 0) = (g.kind == 0) from rfl, hc1])
  obtain ⟨W2, hW2⟩ : ∃ z, z = W1.alloc (.cells #[.string g.nm, .int .i64 g.kind, .int .i64 g.target, .int .i64 g.err, .int .i64 g.drift] 44) := ⟨_, rfl⟩
  have hz2 : W2.heap.size = w.heap.size + 4 := by rw [hW2]; simp [HZ1.out]
  have kg : Bk W2 (w.heap.size + 3) 44 #[.string g.nm, .int .i64 g.kind, .int .i64 g.target, .int .i64 g.err, .int .i64 g.drift] := by rw [hW2, ← HZ1.out]; exact Bk.new W1 _ _
  have kz2 : Bk W2 (w.heap.size + 2) 44 #[.string ⟨#[]⟩, .int .i64 0, .int .i64 0, .int .i64 0, .int .i64 0] := by rw [hW2]; exact HKZ.out.alloc _
  have hb2 : Below w.heap.size w W2 := by rw [hW2]; exact HB1.out.alloc (by have := HZ1.out; omega) _
  have HKG := Lib.hid kg
  have cg2 := kg.cell
  have cz2 := kz2.cell
  have fz2 := kz2.frozen
  have HW2 := Lib.hid hW2
  have HB2 := Lib.hid hb2
  have hzz := HZ1.out
  obtain ⟨W5, hW5⟩ : ∃ z, z = ((((W2.drew.setCell ⟨w.heap.size + 2, 0, none⟩ (.string g.nm)).setCell ⟨w.heap.size + 2, 1, none⟩ (.int .i64 g.kind)).setCell ⟨w.heap.size + 2, 2, none⟩ (.int .i64 g.target)).setCell ⟨w.heap.size + 2, 3, none⟩ (.int .i64 g.err)).setCell ⟨w.heap.size + 2, 4, none⟩ (.int .i64 g.drift) := ⟨_, rfl⟩
  have HKG5 := Lib.hid (show ∀ j, W5.cell? ⟨w.heap.size + 3, j, none⟩ = (#[.string g.nm, .int .i64 g.kind, .int .i64 g.target, .int .i64 g.err, .int .i64 g.drift] : Array Value)[j]? by rw [hW5]; exact (((((kg.drew.far (p := ⟨w.heap.size + 2, 0, none⟩) (by simp) _).far (p := ⟨w.heap.size + 2, 1, none⟩) (by simp) _).far (p := ⟨w.heap.size + 2, 2, none⟩) (by simp) _).far (p := ⟨w.heap.size + 2, 3, none⟩) (by simp) _).far (p := ⟨w.heap.size + 2, 4, none⟩) (by simp) _).cell)
  have HKZ5 := Lib.hid (show ∀ j, W5.cell? ⟨w.heap.size + 2, j, none⟩ = (#[.string g.nm, .int .i64 g.kind, .int .i64 g.target, .int .i64 g.err, .int .i64 g.drift] : Array Value)[j]? by rw [hW5]; exact (((((kz2.drew.set_ 0 _).set_ 1 _).set_ 2 _).set_ 3 _).set_ 4 _).cell)
  have HB5 := Lib.hid (show Below w.heap.size w W5 by rw [hW5]; exact ((((HB2.out.drew.setCell (p := ⟨w.heap.size + 2, 0, none⟩) (by simp) _).setCell (p := ⟨w.heap.size + 2, 1, none⟩) (by simp) _).setCell (p := ⟨w.heap.size + 2, 2, none⟩) (by simp) _).setCell (p := ⟨w.heap.size + 2, 3, none⟩) (by simp) _).setCell (p := ⟨w.heap.size + 2, 4, none⟩) (by simp) _)
  have HW5 := Lib.hid hW5
  clear hin hpa hx hc hbw kg kz2 hb2 hW2 hz2 hW5 hkn
  go_enter Try.func25, Try.ntmps25
  go_upto_region 1 with fail
  rw [← HW1.out]
  go_upto_region 4 with fail
  rw [← HW2.out]
  try rw [hzz]
  clear hzz cz fz ca cb e0 e1 e2 e3 e4
  cases c1
  · go_wp2_with fail
    refine wp_region_M [0, 1, 2, 3, 4, 5, 6, 7, 8, 9, 10, 11, 12, 13, 14, 15, 16, 17] [16] (fun W => ∀ j, W.cell? ⟨w.heap.size + 3, j, none⟩ = (#[.string g.nm, .int .i64 g.kind, .int .i64 g.target, .int .i64 g.err, .int .i64 g.drift] : Array Value)[j]?) (by kernel_rfl) (by kernel_rfl) (fun j => HKG.out.drew.cell j) ?_
    iterate 6 (refine M_pure (by rfl) (by rfl) ?_; apply Exists.intro; apply And.intro; (case left => (intro w hSw; (try dsimp only at hSw); go_simp; try with_reducible rfl)); (try simp only [Act.put, List.setIfInBounds_toArray, List.set_cons_zero, List.set_cons_succ]))
    iterate 3 (refine M_off (by rfl) (by rfl) ?_; (try simp only [Act.put, List.setIfInBounds_toArray, List.set_cons_zero, List.set_cons_succ]))
    iterate 2 (refine M_pure (by rfl) (by rfl) ?_; apply Exists.intro; apply And.intro; (case left => (intro w hSw; (try dsimp only at hSw); go_simp; try with_reducible rfl)); (try simp only [Act.put, List.setIfInBounds_toArray, List.set_cons_zero, List.set_cons_succ]))
    iterate 4 (refine M_off (by rfl) (by rfl) ?_; (try simp only [Act.put, List.setIfInBounds_toArray, List.set_cons_zero, List.set_cons_succ]))
    iterate 1 (refine M_pure (by rfl) (by rfl) ?_; apply Exists.intro; apply And.intro; (case left => (intro w hSw; (try dsimp only at hSw); go_simp; try with_reducible rfl)); (try simp only [Act.put, List.setIfInBounds_toArray, List.set_cons_zero, List.set_cons_succ]))
    refine M_store (by rfl) (by rfl) ?_
    refine ⟨((((W2.drew.setCell ⟨w.heap.size + 2, 0, none⟩ (.string g.nm)).setCell ⟨w.heap.size + 2, 1, none⟩ (.int .i64 g.kind)).setCell ⟨w.heap.size + 2, 2, none⟩ (.int .i64 g.target)).setCell ⟨w.heap.size + 2, 3, none⟩ (.int .i64 g.err)).setCell ⟨w.heap.size + 2, 4, none⟩ (.int .i64 g.drift), (by go_simp; try with_reducible rfl), (by rw [← HW5.out]; exact HKG5.out), ?_⟩
    rw [← HW5.out]
    (try simp only [Act.put, List.setIfInBounds_toArray, List.set_cons_zero, List.set_cons_succ])
    iterate 1 (refine M_pure (by rfl) (by rfl) ?_; apply Exists.intro; apply And.intro; (case left => (intro w hSw; (try dsimp only at hSw); go_simp; try with_reducible rfl)); (try simp only [Act.put, List.setIfInBounds_toArray, List.set_cons_zero, List.set_cons_succ]))
    refine M_nil ?_
    try dsimp only
    have ck := HKZ5.out
    go_wp2_with fail
    refine bodyPost_ret (v := .tuple #[gauV g, .bool false]) ?_ rfl ⟨by rw [HF.out]; rfl, HB5.out⟩
    simp [results, Try.results25, go_sem, *, gauV]
  cases c2
  · go_wp2_with fail
    refine wp_region_M [0, 1, 2, 3, 4, 5, 6, 7, 8, 9, 10, 11, 12, 13, 14, 15, 16, 17] [16] (fun W => ∀ j, W.cell? ⟨w.heap.size + 3, j, none⟩ = (#[.string g.nm, .int .i64 g.kind, .int .i64 g.target, .int .i64 g.err, .int .i64 g.drift] : Array Value)[j]?) (by kernel_rfl) (by kernel_rfl) (fun j => HKG.out.drew.cell j) ?_
    iterate 11 (refine M_pure (by rfl) (by rfl) ?_; apply Exists.intro; apply And.intro; (case left => (intro w hSw; (try dsimp only at hSw); go_simp; try with_reducible rfl)); (try simp only [Act.put, List.setIfInBounds_toArray, List.set_cons_zero, List.set_cons_succ]))
    iterate 4 (refine M_off (by rfl) (by rfl) ?_; (try simp only [Act.put, List.setIfInBounds_toArray, List.set_cons_zero, List.set_cons_succ]))
    iterate 1 (refine M_pure (by rfl) (by rfl) ?_; apply Exists.intro; apply And.intro; (case left => (intro w hSw; (try dsimp only at hSw); go_simp; try with_reducible rfl)); (try simp only [Act.put, List.setIfInBounds_toArray, List.set_cons_zero, List.set_cons_succ]))
    refine M_store (by rfl) (by rfl) ?_
    refine ⟨((((W2.drew.setCell ⟨w.heap.size + 2, 0, none⟩ (.string g.nm)).setCell ⟨w.heap.size + 2, 1, none⟩ (.int .i64 g.kind)).setCell ⟨w.heap.size + 2, 2, none⟩ (.int .i64 g.target)).setCell ⟨w.heap.size + 2, 3, none⟩ (.int .i64 g.err)).setCell ⟨w.heap.size + 2, 4, none⟩ (.int .i64 g.drift), (by go_simp; try with_reducible rfl), (by rw [← HW5.out]; exact HKG5.out), ?_⟩
    rw [← HW5.out]
    (try simp only [Act.put, List.setIfInBounds_toArray, List.set_cons_zero, List.set_cons_succ])
    iterate 1 (refine M_pure (by rfl) (by rfl) ?_; apply Exists.intro; apply And.intro; (case left => (intro w hSw; (try dsimp only at hSw); go_simp; try with_reducible rfl)); (try simp only [Act.put, List.setIfInBounds_toArray, List.set_cons_zero, List.set_cons_succ]))
    refine M_nil ?_
    try dsimp only
    have ck := HKZ5.out
    go_wp2_with fail
    refine bodyPost_ret (v := .tuple #[gauV g, .bool false]) ?_ rfl ⟨by rw [HF.out]; rfl, HB5.out⟩
    simp [results, Try.results25, go_sem, *, gauV]
  go_wp2_with fail
  refine wp_region_M [0, 1, 2, 3, 4, 5, 6, 7, 8, 9, 10, 11, 12, 13, 14, 15, 16, 17] [16] (fun W => ∀ j, W.cell? ⟨w.heap.size + 3, j, none⟩ = (#[.string g.nm, .int .i64 g.kind, .int .i64 g.target, .int .i64 g.err, .int .i64 g.drift] : Array Value)[j]?) (by kernel_rfl) (by kernel_rfl) (fun j => HKG.out.drew.cell j) ?_
  iterate 16 (refine M_pure (by rfl) (by rfl) ?_; apply Exists.intro; apply And.intro; (case left => (intro w hSw; (try dsimp only at hSw); go_simp; try with_reducible rfl)); (try simp only [Act.put, List.setIfInBounds_toArray, List.set_cons_zero, List.set_cons_succ]))
  refine M_store (by rfl) (by rfl) ?_
  refine ⟨((((W2.drew.setCell ⟨w.heap.size + 2, 0, none⟩ (.string g.nm)).setCell ⟨w.heap.size + 2, 1, none⟩ (.int .i64 g.kind)).setCell ⟨w.heap.size + 2, 2, none⟩ (.int .i64 g.target)).setCell ⟨w.heap.size + 2, 3, none⟩ (.int .i64 g.err)).setCell ⟨w.heap.size + 2, 4, none⟩ (.int .i64 g.drift), (by go_simp; try with_reducible rfl), (by rw [← HW5.out]; exact HKG5.out), ?_⟩
  rw [← HW5.out]
  (try simp only [Act.put, List.setIfInBounds_toArray, List.set_cons_zero, List.set_cons_succ])
  iterate 1 (refine M_pure (by rfl) (by rfl) ?_; apply Exists.intro; apply And.intro; (case left => (intro w hSw; (try dsimp only at hSw); go_simp; try with_reducible rfl)); (try simp only [Act.put, List.setIfInBounds_toArray, List.set_cons_zero, List.set_cons_succ]))
  refine M_nil ?_
  try dsimp only
  have ck := HKZ5.out
  go_wp2_with fail
  refine bodyPost_ret (v := .tuple #[gauV g, .bool c3]) ?_ rfl ⟨by rw [HF.out]; rfl, HB5.out⟩
  simp [results, Try.results25, go_sem, *, gauV]

end Go.Proofs.Ytmkbojhnbkdalaa
