/- The walk of rightSizes. -/
import Derived.Test.YtmkbojhnbkdalaaRightB
import Derived.Test.YtmkbojhnbkdalaaBasI
import Derived.Test.YtmkbojhnbkdalaaBasJ
import Derived.Test.YtmkbojhnbkdalaaRegionL
import Derived.Laws.AppendOwnNone
set_option linter.unusedSimpArgs false
set_option linter.unusedVariables false
namespace Go.Proofs.Ytmkbojhnbkdalaa
open Go.RowKit

theorem run_append_names {w : World} {base b2 : Nat} {v v2 : Value} {n m : Nat} {l1 l2 : List ByteArray} (h1 : w.ownsRow base 9 1 v n (nmV l1)) (h2 : w.ownsRow b2 9 1 v2 m (nmV l2)) (hn : n ≤ 100000) (hm : m ≤ 100000) (hbase : base ≤ w.heap.size) :
    ∃ v' w', (Builtin.append_ #[22, 22] 22 #[v, v2]).run Try.prog w = .ok v' w' ∧ w'.ownsRow base 9 1 v' (n + m) (nmV (l1 ++ l2)) ∧ w.grownBy w' v.ownBlock := by
  obtain ⟨i0, ti0, ti1, ti2, ti3⟩ := info_parts info_str
  have hl2 : (nmV l2).length = m := by have := h2.1; omega
  rcases h2.2 with ⟨rfl, rfl⟩ | ⟨g, cap, cur, rfl, hg1, hg2, hg3, hg4, hg5, hg6⟩
  · have hrun := run_append_owned_none (P := Try.prog) (w := w) base 22 22 9 i0 1 Try.underlying22 ti0 v n (nmV l1) h1
    have hnil : l2 = [] := by
      unfold nmV at hl2
      rw [List.length_map] at hl2
      exact List.length_eq_zero_iff.1 hl2
    refine ⟨v, w, hrun, ?_, ⟨rfl, rfl, rfl, Nat.le_refl _, fun _ _ _ => rfl⟩⟩
    rw [hnil, List.append_nil]
    exact h1
  · have hc := h2.cells (g := g) rfl
    obtain ⟨v', w', hr, ho, hg, _⟩ := run_append_own (P := Try.prog) w base 22 22 9 i0 (.string ⟨#[]⟩) 1 16 Try.underlying22 ti0 ti1 ti2 ti3 rfl (by decide) v n (nmV l1) h1 ⟨g, 0, none⟩ m cap (nmV l2) (by omega) hc
      (by intro u hu; unfold nmV at hu; obtain ⟨s, _, rfl⟩ := List.mem_map.1 hu; rfl) (by unfold maxLen; omega) (by omega) hbase
    refine ⟨v', w', hr, ?_, hg⟩
    have : nmV (l1 ++ l2) = nmV l1 ++ nmV l2 := by unfold nmV; rw [List.map_append]
    rw [this]
    exact ho

theorem gt_le (n k : Nat) : decide ((k : Int) < (n : Int)) = !decide (n ≤ k) := by
  by_cases h : n ≤ k
  · simp [h]
  · simp [h]
    omega
theorem ok_map {α : Type} {Ok : α → Prop} {l : List α} {f : α → ByteArray} (h : ∀ x ∈ l, Ok x) (hf : ∀ x, Ok x → (f x).size ≤ maxLen) : ∀ x ∈ l.map f, x.size ≤ maxLen := by
  intro x hx
  obtain ⟨y, hy, rfl⟩ := List.mem_map.1 hx
  exact hf y (h y hy)

set_option maxRecDepth 100000 in
set_option maxHeartbeats 8000000 in
theorem sizes_any (b : Bas) (w w0 : World) (B : Nat) (hM : MBas w0 B b) (hO : OkBas b) (hw : Below B w0 w) (hB : B ≤ w.heap.size) :
    Calls Try.prog 11 #[.agg #[.string b.nm, .slice b.ow.a b.ow.n b.ow.c, .int .i64 b.cells, .slice b.pl.a b.pl.n b.pl.c, .slice b.lk.a b.lk.n b.lk.c, .slice b.tw.a b.tw.n b.tw.c, .slice b.gg.a b.gg.n b.gg.c, .slice b.rd.a b.rd.n b.rd.c, .slice b.sh.a b.sh.n b.sh.c, .slice b.room.a b.room.n b.room.c, .int .i64 b.err]] w fun e w' => e = .returned (.bool (sizesB b)) ∧ Below w.heap.size w w' := by
  obtain ⟨mo, mp, ml, mt, mg, mr, ms, mm⟩ := hM
  obtain ⟨onm, oow, _, opl, olk, otw, ogg, ord, osh, _, _⟩ := hO
  have HMO := Lib.hid mo
  have HMP := Lib.hid mp
  have HML := Lib.hid ml
  have HMT := Lib.hid mt
  have HMG := Lib.hid mg
  have HMR := Lib.hid mr
  have HMS := Lib.hid ms
  have HHW := Lib.hid hw
  have HOW := Lib.hid oow
  have HOT := Lib.hid (show ∀ x ∈ b.tw.l.map (·.nm) ++ b.sh.l.map (·.nm), x.size ≤ maxLen from fun x hx => (List.mem_append.1 hx).elim (ok_map (f := fun t : Twn => t.nm) otw (fun _ h => h.1) x) (ok_map (f := fun t : She => t.nm) osh (fun _ h => h.1) x))
  have HOP := Lib.hid (ok_map (f := fun t : Plc => t.nm) opl (fun _ h => h.1))
  have HOL := Lib.hid (ok_map (f := fun t : Lnk => t.nm) olk (fun _ h => h.1))
  have HOG := Lib.hid (ok_map (f := fun t : Gau => t.nm) ogg (fun _ h => h.1))
  have HOR := Lib.hid (ok_map (f := fun t : Rod => t.nm) ord (fun _ h => h.1))
  have t1 := two_byte mo.le
  have t2 := two_byte mp.le
  have t3 := two_byte ml.le
  have t4 := two_byte mt.le
  have t5 := two_byte mg.le
  have t6 := two_byte mr.le
  have t7 := two_byte ms.le
  have t8 := two_byte onm
  obtain ⟨W1, hW1⟩ : ∃ z, z = w.alloc (.cells #[.string b.nm, .slice b.ow.a b.ow.n b.ow.c, .int .i64 b.cells, .slice b.pl.a b.pl.n b.pl.c, .slice b.lk.a b.lk.n b.lk.c, .slice b.tw.a b.tw.n b.tw.c, .slice b.gg.a b.gg.n b.gg.c, .slice b.rd.a b.rd.n b.rd.c, .slice b.sh.a b.sh.n b.sh.c, .slice b.room.a b.room.n b.room.c, .int .i64 b.err] 31) := ⟨_, rfl⟩
  have hz1 : W1.heap.size = w.heap.size + 1 := by rw [hW1]; simp
  have k1 : Bk W1 w.heap.size 31 #[.string b.nm, .slice b.ow.a b.ow.n b.ow.c, .int .i64 b.cells, .slice b.pl.a b.pl.n b.pl.c, .slice b.lk.a b.lk.n b.lk.c, .slice b.tw.a b.tw.n b.tw.c, .slice b.gg.a b.gg.n b.gg.c, .slice b.rd.a b.rd.n b.rd.c, .slice b.sh.a b.sh.n b.sh.c, .slice b.room.a b.room.n b.room.c, .int .i64 b.err] := by rw [hW1]; exact Bk.new w _ _
  have hb1 : Below w.heap.size w W1 := by rw [hW1]; exact (Below.refl _ _).alloc (Nat.le_refl _) _
  have FC := Lib.hid (show ∀ W, Below (w.heap.size + 1) W1 W → (∀ j, W.cell? ⟨w.heap.size, j, none⟩ = (#[.string b.nm, .slice b.ow.a b.ow.n b.ow.c, .int .i64 b.cells, .slice b.pl.a b.pl.n b.pl.c, .slice b.lk.a b.lk.n b.lk.c, .slice b.tw.a b.tw.n b.tw.c, .slice b.gg.a b.gg.n b.gg.c, .slice b.rd.a b.rd.n b.rd.c, .slice b.sh.a b.sh.n b.sh.c, .slice b.room.a b.room.n b.room.c, .int .i64 b.err] : Array Value)[j]?) from fun W hW => (k1.below hW (by omega)).cell)
  have BWW := Lib.hid (show ∀ W, Below (w.heap.size + 1) W1 W → Below w.heap.size w W from fun W hW => hb1.trans (hW.mono (by omega)))
  have BUP := Lib.hid (show ∀ W W', Below (w.heap.size + 1) W1 W → Below W.heap.size W W' → Below (w.heap.size + 1) W1 W' from fun W W' hW hW' => hW.trans (hW'.mono (by have := hW.size; omega)))
  have B0 := Lib.hid (show ∀ W, Below (w.heap.size + 1) W1 W → Below B w0 W ∧ B ≤ W.heap.size from fun W hW => ⟨hw.trans ((BWW.out W hW).mono hB), Nat.le_trans hB (BWW.out W hW).size⟩)
  have HBR := Lib.hid (Below.refl (w.heap.size + 1) W1)
  have HW1 := Lib.hid hW1
  have HZ1 := Lib.hid hz1
  have HT := Lib.hid (show sizesB b = ((wthB (b.ow.n : Int) 1 16) && ((wthB b.cells 0 64) && ((wthB (b.pl.n : Int) 1 64) && ((decide (b.lk.n ≤ 96)) && ((decide (b.tw.n ≤ 40)) && ((decide (b.gg.n ≤ 128)) && ((decide (b.rd.n ≤ 128)) && ((decide (b.sh.n ≤ 40)) && ((decide (b.nm.size ≤ 500)) && (!(decide (0 ≤ Lib.idxFunc badText true b.nm)) && ((distinctB [] b.ow.l) && ((distinctB [] (b.tw.l.map (·.nm) ++ b.sh.l.map (·.nm))) && ((distinctB [] (b.pl.l.map (·.nm))) && ((distinctB [] (b.lk.l.map (·.nm))) && ((distinctB [] (b.gg.l.map (·.nm))) && ((distinctB [] (b.rd.l.map (·.nm))))))))))))))))))) from rfl)
  obtain ⟨v0, hv0⟩ : ∃ z, (wthB (b.ow.n : Int) 1 16) = z := ⟨_, rfl⟩
  obtain ⟨v1, hv1⟩ : ∃ z, (wthB b.cells 0 64) = z := ⟨_, rfl⟩
  obtain ⟨v2, hv2⟩ : ∃ z, (wthB (b.pl.n : Int) 1 64) = z := ⟨_, rfl⟩
  obtain ⟨v3, hv3⟩ : ∃ z, (decide (b.lk.n ≤ 96)) = z := ⟨_, rfl⟩
  obtain ⟨v4, hv4⟩ : ∃ z, (decide (b.tw.n ≤ 40)) = z := ⟨_, rfl⟩
  obtain ⟨v5, hv5⟩ : ∃ z, (decide (b.gg.n ≤ 128)) = z := ⟨_, rfl⟩
  obtain ⟨v6, hv6⟩ : ∃ z, (decide (b.rd.n ≤ 128)) = z := ⟨_, rfl⟩
  obtain ⟨v7, hv7⟩ : ∃ z, (decide (b.sh.n ≤ 40)) = z := ⟨_, rfl⟩
  obtain ⟨v8, hv8⟩ : ∃ z, (decide (b.nm.size ≤ 500)) = z := ⟨_, rfl⟩
  obtain ⟨v9, hv9⟩ : ∃ z, decide (0 ≤ Lib.idxFunc badText true b.nm) = z := ⟨_, rfl⟩
  obtain ⟨d0, hd0⟩ : ∃ z, (distinctB [] b.ow.l) = z := ⟨_, rfl⟩
  obtain ⟨d1, hd1⟩ : ∃ z, (distinctB [] (b.tw.l.map (·.nm) ++ b.sh.l.map (·.nm))) = z := ⟨_, rfl⟩
  obtain ⟨d2, hd2⟩ : ∃ z, (distinctB [] (b.pl.l.map (·.nm))) = z := ⟨_, rfl⟩
  obtain ⟨d3, hd3⟩ : ∃ z, (distinctB [] (b.lk.l.map (·.nm))) = z := ⟨_, rfl⟩
  obtain ⟨d4, hd4⟩ : ∃ z, (distinctB [] (b.gg.l.map (·.nm))) = z := ⟨_, rfl⟩
  obtain ⟨d5, hd5⟩ : ∃ z, (distinctB [] (b.rd.l.map (·.nm))) = z := ⟨_, rfl⟩
  rw [hv0, hv1, hv2, hv3, hv4, hv5, hv6, hv7, hv8, hv9, hd0, hd1, hd2, hd3, hd4, hd5] at HT
  have HV0 := Lib.hid hv0
  have HV1 := Lib.hid hv1
  have HV2 := Lib.hid hv2
  have HV3 := Lib.hid hv3
  have HV4 := Lib.hid hv4
  have HV5 := Lib.hid hv5
  have HV6 := Lib.hid hv6
  have HV7 := Lib.hid hv7
  have HV8 := Lib.hid hv8
  have HV9 := Lib.hid hv9
  have HD0 := Lib.hid hd0
  have HD1 := Lib.hid hd1
  have HD2 := Lib.hid hd2
  have HD3 := Lib.hid hd3
  have HD4 := Lib.hid hd4
  have HD5 := Lib.hid hd5
  have g3 : decide ((96 : Int) < (b.lk.n : Int)) = !v3 := by rw [← hv3]; exact gt_le b.lk.n 96
  have g4 : decide ((40 : Int) < (b.tw.n : Int)) = !v4 := by rw [← hv4]; exact gt_le b.tw.n 40
  have g5 : decide ((128 : Int) < (b.gg.n : Int)) = !v5 := by rw [← hv5]; exact gt_le b.gg.n 128
  have g6 : decide ((128 : Int) < (b.rd.n : Int)) = !v6 := by rw [← hv6]; exact gt_le b.rd.n 128
  have g7 : decide ((40 : Int) < (b.sh.n : Int)) = !v7 := by rw [← hv7]; exact gt_le b.sh.n 40
  have g8 : decide ((500 : Int) < (b.nm.size : Int)) = !v8 := by rw [← hv8]; exact gt_le b.nm.size 500
  have CT := Lib.hid (fun W => Try.strings_ContainsFunc_runes 30 #[] (enters_of Try.func30 (by kernel_rfl) rfl) badText b.nm W (pred_badText W))
  rw [hv9] at CT
  have c1 := FC.out W1 HBR.out
  clear mo mp ml mt mg mr ms mm onm oow opl olk otw ogg ord osh hw hW1 hz1 k1 hb1 hv0 hv1 hv2 hv3 hv4 hv5 hv6 hv7 hv8 hv9 hd0 hd1 hd2 hd3 hd4 hd5
  go_enter Try.func11, Try.ntmps11
  go_upto_region 1 with fail
  rw [← HW1.out]
  have HB1 := Lib.hid HBR.out
  go_wp2_with fail
  refine (within_any _ _ _ _).mono ?_
  rintro e W' ⟨rfl, rfl⟩
  rw [HV0.out]
  cases v0
  · go_wp2_with fail
    go_ret
    exact ⟨by rw [HT.out]; rfl, BWW.out _ HB1.out⟩
  go_wp2_with fail
  refine (within_any _ _ _ _).mono ?_
  rintro e W' ⟨rfl, rfl⟩
  rw [HV1.out]
  cases v1
  · go_wp2_with fail
    go_ret
    exact ⟨by rw [HT.out]; rfl, BWW.out _ HB1.out⟩
  go_wp2_with fail
  refine (within_any _ _ _ _).mono ?_
  rintro e W' ⟨rfl, rfl⟩
  rw [HV2.out]
  cases v2
  · go_wp2_with fail
    go_ret
    exact ⟨by rw [HT.out]; rfl, BWW.out _ HB1.out⟩
  cases v3
  · go_wp2_with fail
    go_ret
    exact ⟨by rw [HT.out]; rfl, BWW.out _ HB1.out⟩
  cases v4
  · go_wp2_with fail
    go_ret
    exact ⟨by rw [HT.out]; rfl, BWW.out _ HB1.out⟩
  cases v5
  · go_wp2_with fail
    go_ret
    exact ⟨by rw [HT.out]; rfl, BWW.out _ HB1.out⟩
  cases v6
  · go_wp2_with fail
    go_ret
    exact ⟨by rw [HT.out]; rfl, BWW.out _ HB1.out⟩
  cases v7
  · go_wp2_with fail
    go_ret
    exact ⟨by rw [HT.out]; rfl, BWW.out _ HB1.out⟩
  cases v8
  · go_wp2_with fail
    go_ret
    exact ⟨by rw [HT.out]; rfl, BWW.out _ HB1.out⟩
  go_wp2_with fail
  refine (CT.out W1).mono ?_
  rintro e W2 ⟨rfl, hb2⟩
  have HB2 := Lib.hid (BUP.out _ _ HB1.out hb2)
  clear hb2 c1
  have c1 := FC.out W2 HB2.out
  cases hv : v9
  case true =>
    subst hv
    go_wp2_with fail
    go_ret
    exact ⟨by rw [HT.out]; rfl, BWW.out _ HB2.out⟩
  subst hv
  have n0 := wthB_true HV0.out
  have n2 := wthB_true HV2.out
  have n3 := of_decide_eq_true HV3.out
  have n4 := of_decide_eq_true HV4.out
  have n5 := of_decide_eq_true HV5.out
  have n6 := of_decide_eq_true HV6.out
  have n7 := of_decide_eq_true HV7.out
  have CTwn := Lib.hid (fun W (hW : Below (w.heap.size + 1) W1 W) => collect_Twn b.tw (fun x => x.nm) 32 #[] W w0 B HMT.out (B0.out W hW).1 (B0.out W hW).2 (by omega) (enters_of Try.func32 (by kernel_rfl) rfl) (fun W' x _ => name_Twn x W'))
  have CShe := Lib.hid (fun W (hW : Below (w.heap.size + 1) W1 W) => collect_She b.sh (fun x => x.nm) 34 #[] W w0 B HMS.out (B0.out W hW).1 (B0.out W hW).2 (by omega) (enters_of Try.func34 (by kernel_rfl) rfl) (fun W' x _ => name_She x W'))
  have CPlc := Lib.hid (fun W (hW : Below (w.heap.size + 1) W1 W) => collect_Plc b.pl (fun x => x.nm) 37 #[] W w0 B HMP.out (B0.out W hW).1 (B0.out W hW).2 (by omega) (enters_of Try.func37 (by kernel_rfl) rfl) (fun W' x _ => name_Plc x W'))
  have CLnk := Lib.hid (fun W (hW : Below (w.heap.size + 1) W1 W) => collect_Lnk b.lk (fun x => x.nm) 39 #[] W w0 B HML.out (B0.out W hW).1 (B0.out W hW).2 (by omega) (enters_of Try.func39 (by kernel_rfl) rfl) (fun W' x _ => name_Lnk x W'))
  have CGau := Lib.hid (fun W (hW : Below (w.heap.size + 1) W1 W) => collect_Gau b.gg (fun x => x.nm) 41 #[] W w0 B HMG.out (B0.out W hW).1 (B0.out W hW).2 (by omega) (enters_of Try.func41 (by kernel_rfl) rfl) (fun W' x _ => name_Gau x W'))
  have CRod := Lib.hid (fun W (hW : Below (w.heap.size + 1) W1 W) => collect_Rod b.rd (fun x => x.nm) 43 #[] W w0 B HMR.out (B0.out W hW).1 (B0.out W hW).2 (by omega) (enters_of Try.func43 (by kernel_rfl) rfl) (fun W' x _ => name_Rod x W'))
  have CD0 := Lib.hid (fun W (hW : Below (w.heap.size + 1) W1 W) => distinct_any b.ow W w0 B HMO.out (B0.out W hW).1 (B0.out W hW).2 (by omega) HOW.out)
  rw [HD0.out] at CD0
  have q3 := Lib.hid n3
  have q4 := Lib.hid n4
  have q5 := Lib.hid n5
  have q6 := Lib.hid n6
  have q7 := Lib.hid n7
  have q0 := Lib.hid n0
  have q2 := Lib.hid n2
  clear n0 n2 n3 n4 n5 n6 n7
  go_wp2_with fail
  refine (CTwn.out W2 HB2.out).mono ?_
  rintro e W3 ⟨vt, rfl, ho3, hb3⟩
  have HB3 := Lib.hid (BUP.out _ _ HB2.out hb3)
  have HO3 := Lib.hid ho3
  have HS3 := Lib.hid hb3.size
  clear hb3 ho3 c1
  have c1 := FC.out W3 HB3.out
  go_upto_region 6 with fail
  refine wp_region_L ?_
  iterate 3 (refine L_pure (by kernel_rfl) ?_; apply Exists.intro; apply And.intro; (case left => (go_simp; try with_reducible rfl)); (try simp only [Act.put, List.setIfInBounds_toArray, List.set_cons_zero, List.set_cons_succ]))
  (refine L_call (by kernel_rfl) ?_; apply Exists.intro; apply Exists.intro; apply And.intro; (case left => (go_simp; first | (refine ⟨?_, ?_⟩ <;> with_reducible rfl) | rfl)))
  refine (CShe.out W3 HB3.out).mono ?_
  rintro e W4 ⟨vsh, rfl, ho4, hb4⟩
  have HB4 := Lib.hid (BUP.out _ _ HB3.out hb4)
  obtain ⟨v5, W5, hr5, ho5, hg5⟩ := run_append_names (own_below HO3.out hb4) ho4 (by have := q4.out; omega) (by have := q7.out; omega) (Nat.le_trans HS3.out hb4.size)
  have HB5 := Lib.hid (show Below (w.heap.size + 1) W1 W5 from HB4.out.grown hg5 (by have := HB4.out.size; have := HZ1.out; omega) (fun j hj => by have := ((own_below HO3.out hb4).lt j hj).1; have := HB2.out.size; have := (BWW.out _ HBR.out).size; have hzz := HZ1.out; omega))
  have HO5 := Lib.hid ho5
  have HR5 := Lib.hid hr5
  clear hb4 ho4 ho5 hg5 hr5 c1
  refine ⟨_, rfl, ?_⟩
  (try simp only [Act.put, List.setIfInBounds_toArray, List.set_cons_zero, List.set_cons_succ])
  refine L_append2 (by kernel_rfl) _ _ 22 rfl _ _ v5 W5 rfl rfl HR5.out ?_
  (try simp only [Act.put, List.setIfInBounds_toArray, List.set_cons_zero, List.set_cons_succ])
  iterate 1 (refine L_pure (by kernel_rfl) ?_; apply Exists.intro; apply And.intro; (case left => (go_simp; try with_reducible rfl)); (try simp only [Act.put, List.setIfInBounds_toArray, List.set_cons_zero, List.set_cons_succ]))
  refine L_nil ?_
  try dsimp only
  have c1 := FC.out W5 HB5.out
  obtain ⟨sp, hv5, hsl, hsm⟩ := own_names HO5.out (by have := q4.out; have := q7.out; unfold maxLen; omega)
  subst hv5
  have HSL := Lib.hid hsl
  have HSM := Lib.hid hsm
  clear hsl hsm
  go_wp2_with fail
  refine (CD0.out W5 HB5.out).mono ?_
  rintro e W6 ⟨rfl, hb6⟩
  have HB6 := Lib.hid (BUP.out _ _ HB5.out hb6)
  have H56 := Lib.hid hb6
  clear hb6 c1
  have c1 := FC.out W6 HB6.out
  cases d0
  · go_wp2_with fail
    go_ret
    exact ⟨by rw [HT.out]; rfl, BWW.out _ HB6.out⟩
  have CD1 := Lib.hid (distinct_any sp W6 W5 W5.heap.size HSM.out H56.out H56.out.size (by rw [← HSM.out.len, HSL.out, List.length_append, List.length_map, List.length_map, HMT.out.len, HMS.out.len]; have := q4.out; have := q7.out; omega) (by rw [HSL.out]; exact HOT.out))
  rw [HSL.out, HD1.out] at CD1
  go_wp2_with fail
  refine CD1.out.mono ?_
  rintro e W7 ⟨rfl, hb7⟩
  have HB7 := Lib.hid (BUP.out _ _ HB6.out hb7)
  clear hb7 c1
  have c1 := FC.out W7 HB7.out
  cases d1
  · go_wp2_with fail
    go_ret
    exact ⟨by rw [HT.out]; rfl, BWW.out _ HB7.out⟩
  go_wp2_with fail
  refine (CPlc.out W7 HB7.out).mono ?_
  rintro e W8 ⟨vr0, rfl, ho, hb⟩
  have HB8 := Lib.hid (BUP.out _ _ HB7.out hb)
  obtain ⟨s0, hvr, hsl0, hsm0⟩ := own_names ho (by have := q2.out; unfold maxLen; omega)
  subst hvr
  have CE0 := Lib.hid (distinct_any s0 W8 W8 W8.heap.size hsm0 (Below.refl _ _) (Nat.le_refl _) (by rw [← hsm0.len, hsl0, List.length_map, HMP.out.len]; have := q2.out; omega) (by rw [hsl0]; exact HOP.out))
  rw [hsl0, HD2.out] at CE0
  clear ho hb hsl0 hsm0 c1
  have c1 := FC.out W8 HB8.out
  go_wp2_with fail
  refine CE0.out.mono ?_
  rintro e W9 ⟨rfl, hb⟩
  have HB9 := Lib.hid (BUP.out _ _ HB8.out hb)
  clear hb c1
  have c1 := FC.out W9 HB9.out
  cases d2
  · go_wp2_with fail
    go_ret
    exact ⟨by rw [HT.out]; rfl, BWW.out _ HB9.out⟩
  go_wp2_with fail
  refine (CLnk.out W9 HB9.out).mono ?_
  rintro e W10 ⟨vr1, rfl, ho, hb⟩
  have HB10 := Lib.hid (BUP.out _ _ HB9.out hb)
  obtain ⟨s1, hvr, hsl1, hsm1⟩ := own_names ho (by have := q3.out; unfold maxLen; omega)
  subst hvr
  have CE1 := Lib.hid (distinct_any s1 W10 W10 W10.heap.size hsm1 (Below.refl _ _) (Nat.le_refl _) (by rw [← hsm1.len, hsl1, List.length_map, HML.out.len]; have := q3.out; omega) (by rw [hsl1]; exact HOL.out))
  rw [hsl1, HD3.out] at CE1
  clear ho hb hsl1 hsm1 c1
  have c1 := FC.out W10 HB10.out
  go_wp2_with fail
  refine CE1.out.mono ?_
  rintro e W11 ⟨rfl, hb⟩
  have HB11 := Lib.hid (BUP.out _ _ HB10.out hb)
  clear hb c1
  have c1 := FC.out W11 HB11.out
  cases d3
  · go_wp2_with fail
    go_ret
    exact ⟨by rw [HT.out]; rfl, BWW.out _ HB11.out⟩
  go_wp2_with fail
  refine (CGau.out W11 HB11.out).mono ?_
  rintro e W12 ⟨vr2, rfl, ho, hb⟩
  have HB12 := Lib.hid (BUP.out _ _ HB11.out hb)
  obtain ⟨s2, hvr, hsl2, hsm2⟩ := own_names ho (by have := q5.out; unfold maxLen; omega)
  subst hvr
  have CE2 := Lib.hid (distinct_any s2 W12 W12 W12.heap.size hsm2 (Below.refl _ _) (Nat.le_refl _) (by rw [← hsm2.len, hsl2, List.length_map, HMG.out.len]; have := q5.out; omega) (by rw [hsl2]; exact HOG.out))
  rw [hsl2, HD4.out] at CE2
  clear ho hb hsl2 hsm2 c1
  have c1 := FC.out W12 HB12.out
  go_wp2_with fail
  refine CE2.out.mono ?_
  rintro e W13 ⟨rfl, hb⟩
  have HB13 := Lib.hid (BUP.out _ _ HB12.out hb)
  clear hb c1
  have c1 := FC.out W13 HB13.out
  cases d4
  · go_wp2_with fail
    go_ret
    exact ⟨by rw [HT.out]; rfl, BWW.out _ HB13.out⟩
  go_wp2_with fail
  refine (CRod.out W13 HB13.out).mono ?_
  rintro e W14 ⟨vr3, rfl, ho, hb⟩
  have HB14 := Lib.hid (BUP.out _ _ HB13.out hb)
  obtain ⟨s3, hvr, hsl3, hsm3⟩ := own_names ho (by have := q6.out; unfold maxLen; omega)
  subst hvr
  have CE3 := Lib.hid (distinct_any s3 W14 W14 W14.heap.size hsm3 (Below.refl _ _) (Nat.le_refl _) (by rw [← hsm3.len, hsl3, List.length_map, HMR.out.len]; have := q6.out; omega) (by rw [hsl3]; exact HOR.out))
  rw [hsl3, HD5.out] at CE3
  clear ho hb hsl3 hsm3 c1
  have c1 := FC.out W14 HB14.out
  go_wp2_with fail
  refine CE3.out.mono ?_
  rintro e W15 ⟨rfl, hb⟩
  have HB15 := Lib.hid (BUP.out _ _ HB14.out hb)
  clear hb c1
  have c1 := FC.out W15 HB15.out
  go_wp2_with fail
  go_ret
  exact ⟨by rw [HT.out]; rfl, BWW.out _ HB15.out⟩

end Go.Proofs.Ytmkbojhnbkdalaa
