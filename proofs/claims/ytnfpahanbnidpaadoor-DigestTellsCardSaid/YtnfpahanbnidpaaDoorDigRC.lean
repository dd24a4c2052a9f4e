/- The walks of the reference of layer 3: compress. -/
import Derived.Test.YtnfpahanbnidpaaDoorDigRB
import Derived.Outline
set_option linter.unusedSimpArgs false
set_option linter.unusedVariables false
namespace Go.Proofs.YtnfpahanbnidpaaDoor
open Go.RowKit

theorem info_u32 : (Tryd.prog.info? 44).map (fun i => (i.zero, i.size, i.bytes)) = some (some (.int .u32 0), 1, 4) := by kernel_rfl
def msN (l : List UInt8) (a k : Nat) : List Nat := (List.range k).map fun i => wordR l (a + 4 * i)
theorem msN_succ (l : List UInt8) (a k : Nat) : msN l a (k + 1) = msN l a k ++ [wordR l (a + 4 * k)] := by
  unfold msN
  rw [List.range_succ, List.map_append]
  rfl
theorem msN_len (l : List UInt8) (a k : Nat) : (msN l a k).length = k := by simp [msN]
theorem list16 {l : List Nat} (hl : l.length = 16) (f : Nat → Nat) (h : ∀ i, i < 16 → g32 l i = f i) : l = (List.range 16).map f := by
  apply List.ext_getElem
  · simp [hl]
  · intro i h1 h2
    have := h i (by omega)
    unfold g32 at this
    rw [List.getD_eq_getElem?_getD, List.getElem?_eq_getElem h1] at this
    simpa using this
theorem msN_words (l : List UInt8) (a : Nat) : msN l a 16 = wordsN ((l.drop a).take 64) := (list16 (wordsN_len _) _ fun i hi => wordR_block l a i hi).symm
theorem wordR_lt (l : List UInt8) (a : Nat) : wordR l a < 4294967296 := wacc_lt l a 4
theorem v32_append (a b : List Nat) : v32 (a ++ b) = v32 a ++ v32 b := by simp [v32]
theorem v32_src {w : World} {B g cap n : Nat} {l : List Nat} (h : w.ownsRow B 44 1 (.slice (some ⟨g, 0, none⟩) n cap) n (v32 l)) : ∀ j u, (v32 l)[j]? = some u → w.cell? ((⟨g, 0, none⟩ : Addr).add j) = some u := h.cells (g := g) rfl
theorem own_slice {w : World} {B n : Nat} {v : Value} {xs : List Value} (h : w.ownsRow B 44 1 v n xs) (hn : 0 < n) : ∃ g cap, v = .slice (some ⟨g, 0, none⟩) n cap ∧ B ≤ g ∧ g < w.heap.size := by
  rcases h.2 with ⟨_, h0⟩ | ⟨g, cap, cur, hv, hb, hg, _⟩
  · omega
  · refine ⟨g, cap, hv, hb, ?_⟩
    rcases Nat.lt_or_ge g w.heap.size with hlt | hge
    · exact hlt
    · rw [Array.getElem?_eq_none hge] at hg; cases hg

def outR (H R : List Nat) (k : Nat) : List Nat := (List.range k).map fun i => g32 H i ^^^ g32 R i ^^^ g32 R (i + 8)
theorem outR_succ (H R : List Nat) (k : Nat) : outR H R (k + 1) = outR H R k ++ [g32 H k ^^^ g32 R k ^^^ g32 R (k + 8)] := by
  unfold outR
  rw [List.range_succ, List.map_append]
  rfl
theorem fin8_range {H R : List Nat} (h : H.length = 8) : fin8 R 8 H = outR H R 8 := by
  match H, h with
  | [a0, a1, a2, a3, a4, a5, a6, a7], _ =>
    simp [fin8, g32, outR, List.range, List.range.loop, Nat.xor_assoc]
theorem own_mono {w : World} {B B' : Nat} {e : TypeId} {sz n : Nat} {v : Value} {xs : List Value} (h : w.ownsRow B e sz v n xs) (hB : B' ≤ B) : w.ownsRow B' e sz v n xs := by
  refine ⟨h.1, ?_⟩
  rcases h.2 with h0 | ⟨g, cap, cur, hv, hg, hr⟩
  · exact .inl h0
  · exact .inr ⟨g, cap, cur, hv, Nat.le_trans hB hg, hr⟩
theorem _root_.Go.World.grownBy.more {a b c : World} {row : Option Nat} (h : a.grownBy b row) (k : b.grownBy c row) : a.grownBy c row :=
  ⟨k.os.trans h.os, k.tape.trans h.tape, k.output.trans h.output, Nat.le_trans h.size k.size, fun i hi hne => (k.block i (Nat.lt_of_lt_of_le hi h.size) hne).trans (h.block i hi hne)⟩

set_option maxHeartbeats 8000000 in
set_option maxRecDepth 100000 in
theorem refcomp_any (Bh gh caph : Nat) (H : List Nat) (s : ByteArray) (a : Nat) (w : World) (hl : H.length = 8) (h32 : All32 H) (hs : s.size ≤ 500000) (ha : a ≤ s.size)
    (hH : w.ownsRow Bh 44 1 (.slice (some ⟨gh, 0, none⟩) 8 caph) 8 (v32 H)) :
    Calls Tryd.prog 27 #[.slice (some ⟨gh, 0, none⟩) 8 caph, .string s, .int .i64 (a : Int)] w fun e w' => ∃ g' cap', e = .returned (.slice (some ⟨g', 0, none⟩) 8 cap') ∧
      w'.ownsRow w.heap.size 44 1 (.slice (some ⟨g', 0, none⟩) 8 cap') 8 (v32 (compressN H ((s.data.toList.drop a).take 64) (min (a + 64) s.size) (decide (s.size ≤ a + 64)))) ∧ Below w.heap.size w w' := by
  obtain ⟨i0, ti0, ti1, ti2, ti3⟩ := info_parts info_u32
  have HHR := Lib.hid hH
  have HL := Lib.hid hl
  have H32 := Lib.hid h32
  have hgh : gh < w.heap.size := (own_slice hH (by decide)).elim fun g h => h.elim fun c h => by
    obtain ⟨h1, _, h3⟩ := h
    simp only [Value.slice.injEq, Option.some.injEq, Addr.mk.injEq] at h1
    rw [h1.1.1]
    exact h3
  clear hH hl h32
  go_enter Tryd.func27, Tryd.ntmps27
  go_wp2
  go_loopw [7, 8] (fun v i wr => ∃ k : Nat, k ≤ 16 ∧ i = .int .i64 (k : Int) ∧ wr.ownsRow w.heap.size 44 1 v k (v32 (msN s.data.toList a k)) ∧ Below w.heap.size w wr) (fun _ i _ => 16 - (intOf i).toNat)
  case atStart => exact ⟨0, by omega, rfl, World.ownsRow_nil _ _ _ _, Below.refl _ _⟩
  case round =>
    obtain ⟨k, hk, rfl, ho, hb⟩ := hrel
    have HO := Lib.hid ho
    have HB := Lib.hid hb
    have hsz := hb.size
    by_cases hlt : k < 16
    · have hk0 : (0 : Int) ≤ (k : Int) := by omega
      have hki : (k : Int) < 16 := by omega
      obtain ⟨p, hp⟩ : ∃ p : Nat, p = a + 4 * k := ⟨_, rfl⟩
      have e1 : (a : Int) + 4 * (k : Int) = (p : Int) := by omega
      have e2 : IntKind.i64.wrap (p : Int) = (p : Int) := by rw [IntKind.wrap_i64]; omega
      have hpl : p ≤ 1000000 := by omega
      obtain ⟨y, hy⟩ : ∃ y, y = wordR s.data.toList p := ⟨_, rfl⟩
      have HY := Lib.hid (show v32 (msN s.data.toList a (k + 1)) = v32 (msN s.data.toList a k) ++ [.int .u32 (y : Int)] by rw [msN_succ, v32_append, hy, hp]; rfl)
      have HYY := Lib.hid hy
      clear ho hb hp hy
      go_wp2_with fail
      refine (word_any s p wr (by omega) hpl).mono ?_
      rintro e w' ⟨rfl, rfl⟩
      rw [← HYY.out]
      go_wp2_with (at_builtin; go_must (refine wpList_append_own _ rfl (.tmp 19) (.tmp 26) 47 rfl w.heap.size 44 i0 (.int .u32 0) 1 4 Tryd.underlying47 ti0 ti1 ti2 ti3 rfl (by decide) u7 k (v32 (msN s.data.toList a k)) rfl (HO.out.alloc _) ⟨w'.heap.size, 0, none⟩ 1 1 [.int .u32 (y : Int)] rfl rfl (new_cells _ rfl _ _) (by intro u hu; simp at hu; subst hu; rfl) (by unfold maxLen; omega) (by omega) (by simp; omega) ?_))
      intro v' w1 hown' hgrow _
      have HOW := Lib.hid hown'
      have HBW := Lib.hid ((HB.out.alloc HB.out.size (.cells #[.int .u32 (y : Int)] 44)).grown hgrow (by simp; omega) (fun j hj => (HO.out.lt j hj).1))
      clear hown' hgrow
      go_wp2
      go_roundw
      case rel => exact ⟨k + 1, by omega, by go_num, by rw [HY.out]; exact HOW.out, HBW.out⟩
      case measure => simp [intOf]; omega
    · obtain rfl : k = 16 := by omega
      obtain ⟨wl, rfl⟩ : ∃ wl : World, wl = wr := ⟨_, rfl⟩
      obtain ⟨gm, capm, hv, hgm0, hgm1⟩ := own_slice HO.out (by decide)
      subst hv
      obtain ⟨M, hM⟩ : ∃ M, M = msN s.data.toList a 16 := ⟨_, rfl⟩
      have hM2 : M = wordsN ((s.data.toList.drop a).take 64) := by rw [hM]; exact msN_words _ _
      have HMO := Lib.hid (show wl.ownsRow w.heap.size 44 1 (.slice (some ⟨gm, 0, none⟩) 16 capm) 16 (v32 M) by rw [hM]; exact HO.out)
      have HM2 := Lib.hid hM2
      have hHw := HHR.out.kept (show w.grownBy wl none from ⟨hb.os, hb.tape, hb.output, hb.size, fun k hk _ => hb.block k hk⟩) (.inr (by simp [Value.ownBlock]))
      have HHW := Lib.hid hHw
      clear hlt hk ho hb hM hM2 HO hHw
      go_wp2_with (at_builtin; go_must (refine wpList_append_own _ rfl (.tmp 28) (.tmp 29) 47 rfl wl.heap.size 44 i0 (.int .u32 0) 1 4 Tryd.underlying47 ti0 ti1 ti2 ti3 rfl (by decide) _ 0 [] rfl (World.ownsRow_lit wl #[] 0 (Nat.le_refl _) (by decide) rfl) ⟨gh, 0, none⟩ 8 caph (v32 H) rfl ?ca ?cb (v32_one _) (by decide) (by decide) (by simp) ?_))
      case ca => (have := HL.out; simp [v32, this])
      case cb => exact v32_src (HHW.out.alloc _)
      intro v1 w1 hown1 hgrow1 _
      have H1 := Lib.hid hown1
      have HB1 := Lib.hid ((HB.out.alloc HB.out.size (.cells #[] 44)).grown hgrow1 (by simp; omega) (fun j hj => by simp [Value.ownBlock] at hj; omega))
      have hz1 := hgrow1.size
      have HM1 := Lib.hid ((HMO.out.alloc (.cells #[] 44)).kept hgrow1 (.inr (by simp [Value.ownBlock]; omega)))
      have HH1 := Lib.hid ((HHW.out.alloc (.cells #[] 44)).kept hgrow1 (.inr (by simp [Value.ownBlock]; omega)))
      obtain ⟨g1, cap1, hv1, hg10, hg11⟩ := own_slice hown1 (by decide)
      subst hv1
      clear hown1 hgrow1
      go_wp2_with fail
      refine (constants_any w1).mono ?_
      rintro e w' ⟨rfl, rfl⟩
      go_wp2_with (at_builtin; go_must (refine wpList_append_own _ rfl (.tmp 31) (.tmp 32) 47 rfl wl.heap.size 44 i0 (.int .u32 0) 1 4 Tryd.underlying47 ti0 ti1 ti2 ti3 rfl (by decide) _ 8 (v32 H) rfl (H1.out.alloc _) ⟨w1.heap.size, 0, none⟩ 8 8 (v32 firstN) rfl (by rfl) ?cb (v32_one _) (by decide) (by decide) ?cc ?_))
      case cb => exact v32_src (World.ownsRow_lit w1 (u32s firstN) 8 (Nat.le_refl _) (by decide) rfl)
      case cc => (simp at hz1 ⊢; omega)
      intro v2 w2 hown2 hgrow2 _
      have H2 := Lib.hid (show w2.ownsRow wl.heap.size 44 1 v2 16 (v32 (H ++ firstN)) by rw [v32_append]; exact hown2)
      have HB2 := Lib.hid ((HB1.out.alloc HB1.out.size (.cells (u32s firstN) 44)).grown hgrow2 (by have := HB1.out.size; simp; omega) (fun j hj => by simp [Value.ownBlock] at hj; omega))
      have hz2 := hgrow2.size
      have HM2' := Lib.hid ((HM1.out.alloc (.cells (u32s firstN) 44)).kept hgrow2 (.inr (by simp [Value.ownBlock]; omega)))
      have HH2 := Lib.hid ((HH1.out.alloc (.cells (u32s firstN) 44)).kept hgrow2 (.inr (by simp [Value.ownBlock]; omega)))
      obtain ⟨gv, capv, hv2, hgv0, hgv1⟩ := own_slice hown2 (by decide)
      subst hv2
      obtain ⟨V0, hV0⟩ : ∃ V, V = H ++ firstN := ⟨_, rfl⟩
      rw [← hV0] at H2
      have HV0l := Lib.hid (show V0.length = 16 by rw [hV0, List.length_append, HL.out]; rfl)
      have HV032 := Lib.hid (show All32 V0 by rw [hV0]; exact all32_append H32.out firstN_ok)
      have HV0 := Lib.hid hV0
      clear hown2 hgrow2 hV0 HH1 HM1 HB1 HHW HMO H1
      obtain ⟨e, he⟩ : ∃ e, e = min (a + 64) s.size := ⟨_, rfl⟩
      have hel : e ≤ 500000 := by omega
      have HE := Lib.hid he
      have hmin : min ((a : Int) + 64) (s.size : Int) = (e : Int) := by omega
      clear he
      have hc : ∀ j, j < 16 → w2.cell? ⟨gv, j, none⟩ = some (.int .u32 (g32 V0 j : Nat)) := fun j hj => by
        have h1 := H2.out
        rw [← HV0l.out] at h1 hj
        exact v32_cell h1 hj
      have hf := H2.out.frozenAt
      obtain ⟨y2, hy2⟩ : ∃ y, y = g32 V0 12 := ⟨_, rfl⟩
      obtain ⟨y3, hy3⟩ : ∃ y, y = g32 V0 13 := ⟨_, rfl⟩
      obtain ⟨y4, hy4⟩ : ∃ y, y = g32 V0 14 := ⟨_, rfl⟩
      have c12 := hc 12 (by decide)
      have c13 := hc 13 (by decide)
      have c14 := hc 14 (by decide)
      have f12 := hf 12
      have f13 := hf 13
      have f14 := hf 14
      rw [← hy2] at c12
      rw [← hy3] at c13
      rw [← hy4] at c14
      have hl2 : y2 < 4294967296 := by rw [hy2]; exact HV032.out 12
      have hl3 : y3 < 4294967296 := by rw [hy3]; exact HV032.out 13
      have hl4 : y4 < 4294967296 := by rw [hy4]; exact HV032.out 14
      obtain ⟨z2, hz2e⟩ : ∃ z, z = y2 ^^^ e := ⟨_, rfl⟩
      obtain ⟨z4, hz4⟩ : ∃ z, z = 4294967295 - y4 := ⟨_, rfl⟩
      have e1 : (e : Int) % 4294967296 = (e : Int) := by omega
      have e2 : IntKind.u32.wrap (e : Int) = (e : Int) := by rw [IntKind.wrap_u32]; omega
      have e3 : (e : Int) / 4294967296 = 0 := by omega
      have e4 : IntKind.u32.wrap 0 = 0 := by decide
      have e5 : bits .xor .u32 (y2 : Int) (e : Int) = (z2 : Int) := by rw [hz2e]; exact bxor32 _ _ hl2 (by omega)
      have e6 : bits .xor .u32 (y3 : Int) 0 = (y3 : Int) := by have := bxor32 y3 0 hl3 (by decide); rw [Nat.xor_zero] at this; exact this
      have e7 : IntKind.u32.wrap (4294967295 - (y4 : Int)) = (z4 : Int) := by rw [IntKind.wrap_u32]; omega
      have e8 : (4294967295 - (y4 : Int)) % 4294967296 = (z4 : Int) := by omega
      have e9 : 4294967295 - (y4 : Int) = (z4 : Int) := by omega
      have he0 : (0 : Int) ≤ (e : Int) := by omega
      have O1 := (H2.out.stored 12 (.int .u32 (z2 : Int))).1
      have O2 := (O1.stored 13 (.int .u32 (y3 : Int))).1
      have O3 := (O2.stored 14 (.int .u32 (z4 : Int))).1
      have hv13 : (V0.set 12 z2).set 13 (g32 (V0.set 12 z2) 13 ^^^ (e / 4294967296)) = (V0.set 12 z2).set 13 y3 := by
        rw [show g32 (V0.set 12 z2) 13 = y3 by rw [hy3]; unfold g32; rw [List.getD_eq_getElem?_getD, List.getD_eq_getElem?_getD, List.getElem?_set_ne (by decide)], show e / 4294967296 = 0 by omega, Nat.xor_zero]
      have hv14 : g32 ((V0.set 12 z2).set 13 y3) 14 = y4 := by
        rw [hy4]; unfold g32; rw [List.getD_eq_getElem?_getD, List.getD_eq_getElem?_getD, List.getElem?_set_ne (by decide), List.getElem?_set_ne (by decide)]
      have hst : start16 H e false = (V0.set 12 z2).set 13 y3 := by
        rw [← hv13, hz2e, hy2, HV0.out]
        unfold start16
        rw [Nat.mod_eq_of_lt (by omega : e < 4294967296)]
        rfl
      have hst' : start16 H e true = ((V0.set 12 z2).set 13 y3).set 14 z4 := by
        have : start16 H e true = (start16 H e false).set 14 (4294967295 - g32 (start16 H e false) 14) := rfl
        rw [this, hst, hv14, hz4]
      have e32 : ∀ (l : List Nat) (i n : Nat), v32 (l.set i n) = (v32 l).set i (.int .u32 (n : Int)) := fun l i n => by simp [v32, List.map_set]
      have S1 := Lib.hid (show ((w2.setCell ⟨gv, 12, none⟩ (.int .u32 (z2 : Int))).setCell ⟨gv, 13, none⟩ (.int .u32 (y3 : Int))).ownsRow wl.heap.size 44 1 (.slice (some ⟨gv, 0, none⟩) 16 capv) 16 (v32 (start16 H e false)) by rw [hst, e32, e32]; exact O2)
      have S2 := Lib.hid (show (((w2.setCell ⟨gv, 12, none⟩ (.int .u32 (z2 : Int))).setCell ⟨gv, 13, none⟩ (.int .u32 (y3 : Int))).setCell ⟨gv, 14, none⟩ (.int .u32 (z4 : Int))).ownsRow wl.heap.size 44 1 (.slice (some ⟨gv, 0, none⟩) 16 capv) 16 (v32 (start16 H e true)) by rw [hst', e32, e32, e32]; exact O3)
      have T1 := Lib.hid (show w2.grownBy ((w2.setCell ⟨gv, 12, none⟩ (.int .u32 (z2 : Int))).setCell ⟨gv, 13, none⟩ (.int .u32 (y3 : Int))) (some gv) from (H2.out.stored 12 (.int .u32 (z2 : Int))).2.more (O1.stored 13 (.int .u32 (y3 : Int))).2)
      have T2 := Lib.hid (show w2.grownBy (((w2.setCell ⟨gv, 12, none⟩ (.int .u32 (z2 : Int))).setCell ⟨gv, 13, none⟩ (.int .u32 (y3 : Int))).setCell ⟨gv, 14, none⟩ (.int .u32 (z4 : Int))) (some gv) from ((H2.out.stored 12 (.int .u32 (z2 : Int))).2.more (O1.stored 13 (.int .u32 (y3 : Int))).2).more (O2.stored 14 (.int .u32 (z4 : Int))).2)
      clear hc hf hy2 hy3 hy4 hl2 hl3 hl4 hz2e hz4 O1 O2 O3 hv13 hv14 hst hst' e32 H2
      by_cases hla : s.size ≤ a + 64
      · have hes : e = s.size := by have := HE.out; omega
        have b1 : ((e : Int) == (s.size : Int)) = true := by simp; omega
        have b2 : decide (e = s.size) = true := by simpa using hes
        have b3 : (e == s.size) = true := by simpa using hes
        have HES := Lib.hid (show decide (s.size ≤ a + 64) = true by simpa using hla)
        have HLA := Lib.hid hla
        clear hes hla
        go_wp2_with fail
        have hgen : ∃ w3, w3 = ((w2.setCell ⟨gv, 12, none⟩ (.int .u32 (z2 : Int))).setCell ⟨gv, 13, none⟩ (.int .u32 (y3 : Int))).setCell ⟨gv, 14, none⟩ (.int .u32 (z4 : Int)) := ⟨_, rfl⟩
        obtain ⟨w3, hw3⟩ := hgen
        rw [← hw3] at S2 T2 ⊢
        obtain ⟨V, hV⟩ : ∃ V, V = start16 H e true := ⟨_, rfl⟩
        rw [← hV] at S2
        have HVL := Lib.hid (show V.length = 16 by rw [hV]; exact start16_len HL.out e true)
        have HV32 := Lib.hid (show All32 V by rw [hV]; exact start16_ok H32.out e (by omega) true)
        have HVE := Lib.hid hV
        have HML := Lib.hid (show M.length = 16 by rw [HM2.out]; exact wordsN_len _)
        have HM32 := Lib.hid (show All32 M by rw [HM2.out]; exact wordsN_ok _)
        have HM3 := Lib.hid (HM2'.out.kept T2.out (.inr (by simp [Value.ownBlock]; omega)))
        have HH3 := Lib.hid (HH2.out.kept T2.out (.inr (by simp [Value.ownBlock]; omega)))
        have HB3 := Lib.hid (HB2.out.grown T2.out HB2.out.size (fun j hj => by simp at hj; omega))
        have hgv3 : gv < w3.heap.size := Nat.lt_of_lt_of_le hgv1 T2.out.size
        have hgh3 : gh < w3.heap.size := Nat.lt_of_lt_of_le hgh HB3.out.size
        have hgm3 : gm < w3.heap.size := by omega
        clear hw3 hV c12 c13 c14 f12 f13 f14 e1 e2 e3 e4 e5 e6 e7 e8 e9 HM2' HH2 HB2 b1 b2 b3
        go_loopw [11] (fun r wr => ∃ k : Nat, k ≤ 10 ∧ r = .int .i64 (k : Int) ∧ wr.ownsRow wl.heap.size 44 1 (.slice (some ⟨gv, 0, none⟩) 16 capv) 16 (v32 (rounds M k V)) ∧ w3.grownBy wr (some gv)) (fun r _ => 10 - (intOf r).toNat)
        case atStart => exact ⟨0, by omega, rfl, S2.out, World.grownBy.refl _ _⟩
        case round =>
          obtain ⟨k, hk, rfl, ho, hg⟩ := hrel
          by_cases hlt : k < 10
          · have hk0 : (0 : Int) ≤ (k : Int) := by omega
            have hki : (k : Int) < 10 := by omega
            have hsz := hg.size
            go_wp2_with fail
            refine (order_any k hlt wr).mono ?_
            rintro e' w' ⟨rfl, rfl⟩
            obtain ⟨W0, hW0⟩ : ∃ W, W = wr.alloc (.cells (i64s (zrow k)) 3) := ⟨_, rfl⟩
            obtain ⟨wz, hwz⟩ : ∃ z, z = wr.heap.size := ⟨_, rfl⟩
            rw [← hW0, ← hwz]
            have hwzl : wz < W0.heap.size := by rw [hW0, hwz]; simp
            have hmz := HM3.out.kept hg (.inr (by simp [Value.ownBlock]; omega))
            have HZC := Lib.hid (show ∀ W, W0.grownBy W (some gv) → ∀ j, j < 16 → W.cell? ⟨wz, j, none⟩ = some (.int .i64 (g32 (zrow k) j : Nat)) ∧ W.cell? ⟨gm, g32 (zrow k) j, none⟩ = some (.int .u32 (g32 M (g32 (zrow k) j) : Nat)) from by
              intro W hW j hj
              have h1 : (World.ownsRow W0 wz 3 1 (.slice (some ⟨wz, 0, none⟩) 16 16) 16 (i64s (zrow k)).toList) := by
                rw [hW0, hwz]
                exact World.ownsRow_lit wr _ 16 (Nat.le_refl _) (by decide) (by simp [i64s, zrow_len k hlt])
              have h2 := (h1.kept hW (.inr (by simp [Value.ownBlock]; omega))).cellAt j (by omega)
              have h3 : (i64s (zrow k)).toList[j]? = some (.int .i64 (g32 (zrow k) j : Nat)) := by
                unfold i64s g32
                have := zrow_len k hlt
                simp [List.getD_eq_getElem?_getD, List.getElem?_eq_getElem (show j < (zrow k).length by omega)]
              rw [h3] at h2
              have hm1 := hmz.alloc (.cells (i64s (zrow k)) 3)
              rw [← hW0] at hm1
              have hm2 := hm1.kept hW (.inr (by simp [Value.ownBlock]; omega))
              rw [← HML.out] at hm2
              exact ⟨h2, v32_cell hm2 (by rw [HML.out]; exact zrow_lt k hlt j hj)⟩)
            have HZL := Lib.hid (zrow_lt k hlt)
            obtain ⟨L0, hL0⟩ : ∃ L, L = rounds M k V := ⟨_, rfl⟩
            have hv0 := ho.alloc (.cells (i64s (zrow k)) 3)
            rw [← hW0, ← hL0] at hv0
            have HV0 := Lib.hid hv0
            have hr0 := rounds_ok (m := M) k V HV32.out
            rw [← hL0, HVL.out] at hr0
            have HK0 := Lib.hid hr0
            have HG0 := Lib.hid (World.grownBy.refl W0 (some gv))
            have HGW := Lib.hid (show w3.grownBy W0 (some gv) by rw [hW0]; exact hg.more (World.grownBy_alloc _ _ _))
            have HL0 := Lib.hid hL0
            clear ho hg hmz hv0 hr0 hL0 hW0 hwz
            obtain ⟨p0, hp0⟩ : ∃ p, p = g32 (zrow k) 0 := ⟨_, rfl⟩
            obtain ⟨q0, hq0⟩ : ∃ p, p = g32 (zrow k) 1 := ⟨_, rfl⟩
            obtain ⟨mp0, hmp0⟩ : ∃ p, p = g32 M p0 := ⟨_, rfl⟩
            obtain ⟨mq0, hmq0⟩ : ∃ p, p = g32 M q0 := ⟨_, rfl⟩
            have hp0l : (p0 : Int) < 16 := by have := HZL.out 0 (by decide); omega
            have hq0l : (q0 : Int) < 16 := by have := HZL.out 1 (by decide); omega
            have hp00 : (0 : Int) ≤ (p0 : Int) := by omega
            have hq00 : (0 : Int) ≤ (q0 : Int) := by omega
            have SS0 := Lib.hid (show ∀ W, W0.grownBy W (some gv) → (fun W => W.cell? ⟨wz, 0, none⟩ = some (.int .i64 (p0 : Int)) ∧ W.cell? ⟨wz, 1, none⟩ = some (.int .i64 (q0 : Int)) ∧ W.cell? ⟨gm, p0, none⟩ = some (.int .u32 (mp0 : Int)) ∧ W.cell? ⟨gm, q0, none⟩ = some (.int .u32 (mq0 : Int))) W from fun W hW => by
              have h1 := HZC.out W hW 0 (by decide)
              have h2 := HZC.out W hW 1 (by decide)
              rw [← hp0, ← hmp0] at h1
              rw [← hq0, ← hmq0] at h2
              exact ⟨h1.1, h2.1, h1.2, h2.2⟩)
            have HM0p := Lib.hid (show mp0 < 4294967296 by rw [hmp0]; exact HM32.out _)
            have HM0q := Lib.hid (show mq0 < 4294967296 by rw [hmq0]; exact HM32.out _)
            have HN0 := Lib.hid (show mixN L0 0 4 8 12 mp0 mq0 = mixN L0 0 4 8 12 (g32 M (g32 (zrow k) 0)) (g32 M (g32 (zrow k) 1)) by rw [hmp0, hmq0, hp0, hq0])
            clear hp0 hq0 hmp0 hmq0
            go_wp2_with fail
            refine wp_region_M [0, 1, 2, 3, 4, 5, 6, 7, 8, 9, 10, 11, 12, 13] [13] (fun W => W.cell? ⟨wz, 0, none⟩ = some (.int .i64 (p0 : Int)) ∧ W.cell? ⟨wz, 1, none⟩ = some (.int .i64 (q0 : Int)) ∧ W.cell? ⟨gm, p0, none⟩ = some (.int .u32 (mp0 : Int)) ∧ W.cell? ⟨gm, q0, none⟩ = some (.int .u32 (mq0 : Int))) (by kernel_rfl) (by kernel_rfl) (SS0.out _ ⟨HG0.out.os, HG0.out.tape, HG0.out.output, HG0.out.size, HG0.out.block⟩) ?_
            iterate 13 (refine M_pure (by rfl) (by rfl) ?_; apply Exists.intro; apply And.intro; (case left => (intro w hSw; (try dsimp only at hSw); go_simp; try with_reducible rfl)); (try simp only [Act.put, List.setIfInBounds_toArray, List.set_cons_zero, List.set_cons_succ]))
            (refine M_call (by rfl) (by rfl) ?_; apply Exists.intro; apply Exists.intro; apply And.intro; (case left => (go_simp; first | exact ⟨rfl, rfl⟩ | rfl)))
            refine (refg_any wl.heap.size gv capv L0 0 4 8 12 mp0 mq0 _ HK0.out.2 HK0.out.1 (by decide) (by decide) (by decide) (by decide) HM0p.out HM0q.out HV0.out.drew).mono ?_
            rintro e' W1 ⟨rfl, hG⟩
            have HG1 := Lib.hid (HG0.out.more ⟨hG.grown.os, hG.grown.tape, hG.grown.output, hG.grown.size, hG.grown.block⟩)
            have HV1' := Lib.hid hG.own
            refine ⟨_, rfl, SS0.out _ HG1.out, ?_⟩
            clear hG
            (try simp only [Act.put, List.setIfInBounds_toArray, List.set_cons_zero, List.set_cons_succ])
            refine M_nil ?_
            try dsimp only
            obtain ⟨L1, hL1⟩ : ∃ L, L = mixN L0 0 4 8 12 mp0 mq0 := ⟨_, rfl⟩
            rw [← hL1] at HV1' HN0
            have HV1 := HV1'
            have HK1 := Lib.hid (show All32 L1 ∧ L1.length = 16 by rw [hL1]; exact ⟨mixN_ok HK0.out.1 _ _ _ _ _ _, (mixN_len _ _ _ _ _ _ _).trans HK0.out.2⟩)
            clear hL1 hp0l hq0l hp00 hq00 HV1'
            obtain ⟨p1, hp1⟩ : ∃ p, p = g32 (zrow k) 2 := ⟨_, rfl⟩
            obtain ⟨q1, hq1⟩ : ∃ p, p = g32 (zrow k) 3 := ⟨_, rfl⟩
            obtain ⟨mp1, hmp1⟩ : ∃ p, p = g32 M p1 := ⟨_, rfl⟩
            obtain ⟨mq1, hmq1⟩ : ∃ p, p = g32 M q1 := ⟨_, rfl⟩
            have hp1l : (p1 : Int) < 16 := by have := HZL.out 2 (by decide); omega
            have hq1l : (q1 : Int) < 16 := by have := HZL.out 3 (by decide); omega
            have hp10 : (0 : Int) ≤ (p1 : Int) := by omega
            have hq10 : (0 : Int) ≤ (q1 : Int) := by omega
            have SS1 := Lib.hid (show ∀ W, W0.grownBy W (some gv) → (fun W => W.cell? ⟨wz, 2, none⟩ = some (.int .i64 (p1 : Int)) ∧ W.cell? ⟨wz, 3, none⟩ = some (.int .i64 (q1 : Int)) ∧ W.cell? ⟨gm, p1, none⟩ = some (.int .u32 (mp1 : Int)) ∧ W.cell? ⟨gm, q1, none⟩ = some (.int .u32 (mq1 : Int))) W from fun W hW => by
              have h1 := HZC.out W hW 2 (by decide)
              have h2 := HZC.out W hW 3 (by decide)
              rw [← hp1, ← hmp1] at h1
              rw [← hq1, ← hmq1] at h2
              exact ⟨h1.1, h2.1, h1.2, h2.2⟩)
            have HM1p := Lib.hid (show mp1 < 4294967296 by rw [hmp1]; exact HM32.out _)
            have HM1q := Lib.hid (show mq1 < 4294967296 by rw [hmq1]; exact HM32.out _)
            have HN1 := Lib.hid (show mixN L1 1 5 9 13 mp1 mq1 = mixN L1 1 5 9 13 (g32 M (g32 (zrow k) 2)) (g32 M (g32 (zrow k) 3)) by rw [hmp1, hmq1, hp1, hq1])
            clear hp1 hq1 hmp1 hmq1
            go_wp2_with fail
            refine wp_region_M [0, 1, 2, 3, 4, 5, 6, 7, 8, 9, 10, 11, 12, 13] [13] (fun W => W.cell? ⟨wz, 2, none⟩ = some (.int .i64 (p1 : Int)) ∧ W.cell? ⟨wz, 3, none⟩ = some (.int .i64 (q1 : Int)) ∧ W.cell? ⟨gm, p1, none⟩ = some (.int .u32 (mp1 : Int)) ∧ W.cell? ⟨gm, q1, none⟩ = some (.int .u32 (mq1 : Int))) (by kernel_rfl) (by kernel_rfl) (SS1.out _ ⟨HG1.out.os, HG1.out.tape, HG1.out.output, HG1.out.size, HG1.out.block⟩) ?_
            iterate 13 (refine M_pure (by rfl) (by rfl) ?_; apply Exists.intro; apply And.intro; (case left => (intro w hSw; (try dsimp only at hSw); go_simp; try with_reducible rfl)); (try simp only [Act.put, List.setIfInBounds_toArray, List.set_cons_zero, List.set_cons_succ]))
            (refine M_call (by rfl) (by rfl) ?_; apply Exists.intro; apply Exists.intro; apply And.intro; (case left => (go_simp; first | exact ⟨rfl, rfl⟩ | rfl)))
            refine (refg_any wl.heap.size gv capv L1 1 5 9 13 mp1 mq1 _ HK1.out.2 HK1.out.1 (by decide) (by decide) (by decide) (by decide) HM1p.out HM1q.out HV1.out.drew).mono ?_
            rintro e' W2 ⟨rfl, hG⟩
            have HG2 := Lib.hid (HG1.out.more ⟨hG.grown.os, hG.grown.tape, hG.grown.output, hG.grown.size, hG.grown.block⟩)
            have HV2' := Lib.hid hG.own
            refine ⟨_, rfl, SS1.out _ HG2.out, ?_⟩
            clear hG
            (try simp only [Act.put, List.setIfInBounds_toArray, List.set_cons_zero, List.set_cons_succ])
            refine M_nil ?_
            try dsimp only
            obtain ⟨L2, hL2⟩ : ∃ L, L = mixN L1 1 5 9 13 mp1 mq1 := ⟨_, rfl⟩
            rw [← hL2] at HV2' HN1
            have HV2 := HV2'
            have HK2 := Lib.hid (show All32 L2 ∧ L2.length = 16 by rw [hL2]; exact ⟨mixN_ok HK1.out.1 _ _ _ _ _ _, (mixN_len _ _ _ _ _ _ _).trans HK1.out.2⟩)
            clear hL2 hp1l hq1l hp10 hq10 HV2'
            obtain ⟨p2, hp2⟩ : ∃ p, p = g32 (zrow k) 4 := ⟨_, rfl⟩
            obtain ⟨q2, hq2⟩ : ∃ p, p = g32 (zrow k) 5 := ⟨_, rfl⟩
            obtain ⟨mp2, hmp2⟩ : ∃ p, p = g32 M p2 := ⟨_, rfl⟩
            obtain ⟨mq2, hmq2⟩ : ∃ p, p = g32 M q2 := ⟨_, rfl⟩
            have hp2l : (p2 : Int) < 16 := by have := HZL.out 4 (by decide); omega
            have hq2l : (q2 : Int) < 16 := by have := HZL.out 5 (by decide); omega
            have hp20 : (0 : Int) ≤ (p2 : Int) := by omega
            have hq20 : (0 : Int) ≤ (q2 : Int) := by omega
            have SS2 := Lib.hid (show ∀ W, W0.grownBy W (some gv) → (fun W => W.cell? ⟨wz, 4, none⟩ = some (.int .i64 (p2 : Int)) ∧ W.cell? ⟨wz, 5, none⟩ = some (.int .i64 (q2 : Int)) ∧ W.cell? ⟨gm, p2, none⟩ = some (.int .u32 (mp2 : Int)) ∧ W.cell? ⟨gm, q2, none⟩ = some (.int .u32 (mq2 : Int))) W from fun W hW => by
              have h1 := HZC.out W hW 4 (by decide)
              have h2 := HZC.out W hW 5 (by decide)
              rw [← hp2, ← hmp2] at h1
              rw [← hq2, ← hmq2] at h2
              exact ⟨h1.1, h2.1, h1.2, h2.2⟩)
            have HM2p := Lib.hid (show mp2 < 4294967296 by rw [hmp2]; exact HM32.out _)
            have HM2q := Lib.hid (show mq2 < 4294967296 by rw [hmq2]; exact HM32.out _)
            have HN2 := Lib.hid (show mixN L2 2 6 10 14 mp2 mq2 = mixN L2 2 6 10 14 (g32 M (g32 (zrow k) 4)) (g32 M (g32 (zrow k) 5)) by rw [hmp2, hmq2, hp2, hq2])
            clear hp2 hq2 hmp2 hmq2
            go_wp2_with fail
            refine wp_region_M [0, 1, 2, 3, 4, 5, 6, 7, 8, 9, 10, 11, 12, 13] [13] (fun W => W.cell? ⟨wz, 4, none⟩ = some (.int .i64 (p2 : Int)) ∧ W.cell? ⟨wz, 5, none⟩ = some (.int .i64 (q2 : Int)) ∧ W.cell? ⟨gm, p2, none⟩ = some (.int .u32 (mp2 : Int)) ∧ W.cell? ⟨gm, q2, none⟩ = some (.int .u32 (mq2 : Int))) (by kernel_rfl) (by kernel_rfl) (SS2.out _ ⟨HG2.out.os, HG2.out.tape, HG2.out.output, HG2.out.size, HG2.out.block⟩) ?_
            iterate 13 (refine M_pure (by rfl) (by rfl) ?_; apply Exists.intro; apply And.intro; (case left => (intro w hSw; (try dsimp only at hSw); go_simp; try with_reducible rfl)); (try simp only [Act.put, List.setIfInBounds_toArray, List.set_cons_zero, List.set_cons_succ]))
            (refine M_call (by rfl) (by rfl) ?_; apply Exists.intro; apply Exists.intro; apply And.intro; (case left => (go_simp; first | exact ⟨rfl, rfl⟩ | rfl)))
            refine (refg_any wl.heap.size gv capv L2 2 6 10 14 mp2 mq2 _ HK2.out.2 HK2.out.1 (by decide) (by decide) (by decide) (by decide) HM2p.out HM2q.out HV2.out.drew).mono ?_
            rintro e' W3 ⟨rfl, hG⟩
            have HG3 := Lib.hid (HG2.out.more ⟨hG.grown.os, hG.grown.tape, hG.grown.output, hG.grown.size, hG.grown.block⟩)
            have HV3' := Lib.hid hG.own
            refine ⟨_, rfl, SS2.out _ HG3.out, ?_⟩
            clear hG
            (try simp only [Act.put, List.setIfInBounds_toArray, List.set_cons_zero, List.set_cons_succ])
            refine M_nil ?_
            try dsimp only
            obtain ⟨L3, hL3⟩ : ∃ L, L = mixN L2 2 6 10 14 mp2 mq2 := ⟨_, rfl⟩
            rw [← hL3] at HV3' HN2
            have HV3 := HV3'
            have HK3 := Lib.hid (show All32 L3 ∧ L3.length = 16 by rw [hL3]; exact ⟨mixN_ok HK2.out.1 _ _ _ _ _ _, (mixN_len _ _ _ _ _ _ _).trans HK2.out.2⟩)
            clear hL3 hp2l hq2l hp20 hq20 HV3'
            obtain ⟨p3, hp3⟩ : ∃ p, p = g32 (zrow k) 6 := ⟨_, rfl⟩
            obtain ⟨q3, hq3⟩ : ∃ p, p = g32 (zrow k) 7 := ⟨_, rfl⟩
            obtain ⟨mp3, hmp3⟩ : ∃ p, p = g32 M p3 := ⟨_, rfl⟩
            obtain ⟨mq3, hmq3⟩ : ∃ p, p = g32 M q3 := ⟨_, rfl⟩
            have hp3l : (p3 : Int) < 16 := by have := HZL.out 6 (by decide); omega
            have hq3l : (q3 : Int) < 16 := by have := HZL.out 7 (by decide); omega
            have hp30 : (0 : Int) ≤ (p3 : Int) := by omega
            have hq30 : (0 : Int) ≤ (q3 : Int) := by omega
            have SS3 := Lib.hid (show ∀ W, W0.grownBy W (some gv) → (fun W => W.cell? ⟨wz, 6, none⟩ = some (.int .i64 (p3 : Int)) ∧ W.cell? ⟨wz, 7, none⟩ = some (.int .i64 (q3 : Int)) ∧ W.cell? ⟨gm, p3, none⟩ = some (.int .u32 (mp3 : Int)) ∧ W.cell? ⟨gm, q3, none⟩ = some (.int .u32 (mq3 : Int))) W from fun W hW => by
              have h1 := HZC.out W hW 6 (by decide)
              have h2 := HZC.out W hW 7 (by decide)
              rw [← hp3, ← hmp3] at h1
              rw [← hq3, ← hmq3] at h2
              exact ⟨h1.1, h2.1, h1.2, h2.2⟩)
            have HM3p := Lib.hid (show mp3 < 4294967296 by rw [hmp3]; exact HM32.out _)
            have HM3q := Lib.hid (show mq3 < 4294967296 by rw [hmq3]; exact HM32.out _)
            have HN3 := Lib.hid (show mixN L3 3 7 11 15 mp3 mq3 = mixN L3 3 7 11 15 (g32 M (g32 (zrow k) 6)) (g32 M (g32 (zrow k) 7)) by rw [hmp3, hmq3, hp3, hq3])
            clear hp3 hq3 hmp3 hmq3
            go_wp2_with fail
            refine wp_region_M [0, 1, 2, 3, 4, 5, 6, 7, 8, 9, 10, 11, 12, 13] [13] (fun W => W.cell? ⟨wz, 6, none⟩ = some (.int .i64 (p3 : Int)) ∧ W.cell? ⟨wz, 7, none⟩ = some (.int .i64 (q3 : Int)) ∧ W.cell? ⟨gm, p3, none⟩ = some (.int .u32 (mp3 : Int)) ∧ W.cell? ⟨gm, q3, none⟩ = some (.int .u32 (mq3 : Int))) (by kernel_rfl) (by kernel_rfl) (SS3.out _ ⟨HG3.out.os, HG3.out.tape, HG3.out.output, HG3.out.size, HG3.out.block⟩) ?_
            iterate 13 (refine M_pure (by rfl) (by rfl) ?_; apply Exists.intro; apply And.intro; (case left => (intro w hSw; (try dsimp only at hSw); go_simp; try with_reducible rfl)); (try simp only [Act.put, List.setIfInBounds_toArray, List.set_cons_zero, List.set_cons_succ]))
            (refine M_call (by rfl) (by rfl) ?_; apply Exists.intro; apply Exists.intro; apply And.intro; (case left => (go_simp; first | exact ⟨rfl, rfl⟩ | rfl)))
            refine (refg_any wl.heap.size gv capv L3 3 7 11 15 mp3 mq3 _ HK3.out.2 HK3.out.1 (by decide) (by decide) (by decide) (by decide) HM3p.out HM3q.out HV3.out.drew).mono ?_
            rintro e' W4 ⟨rfl, hG⟩
            have HG4 := Lib.hid (HG3.out.more ⟨hG.grown.os, hG.grown.tape, hG.grown.output, hG.grown.size, hG.grown.block⟩)
            have HV4' := Lib.hid hG.own
            refine ⟨_, rfl, SS3.out _ HG4.out, ?_⟩
            clear hG
            (try simp only [Act.put, List.setIfInBounds_toArray, List.set_cons_zero, List.set_cons_succ])
            refine M_nil ?_
            try dsimp only
            obtain ⟨L4, hL4⟩ : ∃ L, L = mixN L3 3 7 11 15 mp3 mq3 := ⟨_, rfl⟩
            rw [← hL4] at HV4' HN3
            have HV4 := HV4'
            have HK4 := Lib.hid (show All32 L4 ∧ L4.length = 16 by rw [hL4]; exact ⟨mixN_ok HK3.out.1 _ _ _ _ _ _, (mixN_len _ _ _ _ _ _ _).trans HK3.out.2⟩)
            clear hL4 hp3l hq3l hp30 hq30 HV4'
            obtain ⟨p4, hp4⟩ : ∃ p, p = g32 (zrow k) 8 := ⟨_, rfl⟩
            obtain ⟨q4, hq4⟩ : ∃ p, p = g32 (zrow k) 9 := ⟨_, rfl⟩
            obtain ⟨mp4, hmp4⟩ : ∃ p, p = g32 M p4 := ⟨_, rfl⟩
            obtain ⟨mq4, hmq4⟩ : ∃ p, p = g32 M q4 := ⟨_, rfl⟩
            have hp4l : (p4 : Int) < 16 := by have := HZL.out 8 (by decide); omega
            have hq4l : (q4 : Int) < 16 := by have := HZL.out 9 (by decide); omega
            have hp40 : (0 : Int) ≤ (p4 : Int) := by omega
            have hq40 : (0 : Int) ≤ (q4 : Int) := by omega
            have SS4 := Lib.hid (show ∀ W, W0.grownBy W (some gv) → (fun W => W.cell? ⟨wz, 8, none⟩ = some (.int .i64 (p4 : Int)) ∧ W.cell? ⟨wz, 9, none⟩ = some (.int .i64 (q4 : Int)) ∧ W.cell? ⟨gm, p4, none⟩ = some (.int .u32 (mp4 : Int)) ∧ W.cell? ⟨gm, q4, none⟩ = some (.int .u32 (mq4 : Int))) W from fun W hW => by
              have h1 := HZC.out W hW 8 (by decide)
              have h2 := HZC.out W hW 9 (by decide)
              rw [← hp4, ← hmp4] at h1
              rw [← hq4, ← hmq4] at h2
              exact ⟨h1.1, h2.1, h1.2, h2.2⟩)
            have HM4p := Lib.hid (show mp4 < 4294967296 by rw [hmp4]; exact HM32.out _)
            have HM4q := Lib.hid (show mq4 < 4294967296 by rw [hmq4]; exact HM32.out _)
            have HN4 := Lib.hid (show mixN L4 0 5 10 15 mp4 mq4 = mixN L4 0 5 10 15 (g32 M (g32 (zrow k) 8)) (g32 M (g32 (zrow k) 9)) by rw [hmp4, hmq4, hp4, hq4])
            clear hp4 hq4 hmp4 hmq4
            go_wp2_with fail
            refine wp_region_M [0, 1, 2, 3, 4, 5, 6, 7, 8, 9, 10, 11, 12, 13] [13] (fun W => W.cell? ⟨wz, 8, none⟩ = some (.int .i64 (p4 : Int)) ∧ W.cell? ⟨wz, 9, none⟩ = some (.int .i64 (q4 : Int)) ∧ W.cell? ⟨gm, p4, none⟩ = some (.int .u32 (mp4 : Int)) ∧ W.cell? ⟨gm, q4, none⟩ = some (.int .u32 (mq4 : Int))) (by kernel_rfl) (by kernel_rfl) (SS4.out _ ⟨HG4.out.os, HG4.out.tape, HG4.out.output, HG4.out.size, HG4.out.block⟩) ?_
            iterate 13 (refine M_pure (by rfl) (by rfl) ?_; apply Exists.intro; apply And.intro; (case left => (intro w hSw; (try dsimp only at hSw); go_simp; try with_reducible rfl)); (try simp only [Act.put, List.setIfInBounds_toArray, List.set_cons_zero, List.set_cons_succ]))
            (refine M_call (by rfl) (by rfl) ?_; apply Exists.intro; apply Exists.intro; apply And.intro; (case left => (go_simp; first | exact ⟨rfl, rfl⟩ | rfl)))
            refine (refg_any wl.heap.size gv capv L4 0 5 10 15 mp4 mq4 _ HK4.out.2 HK4.out.1 (by decide) (by decide) (by decide) (by decide) HM4p.out HM4q.out HV4.out.drew).mono ?_
            rintro e' W5 ⟨rfl, hG⟩
            have HG5 := Lib.hid (HG4.out.more ⟨hG.grown.os, hG.grown.tape, hG.grown.output, hG.grown.size, hG.grown.block⟩)
            have HV5' := Lib.hid hG.own
            refine ⟨_, rfl, SS4.out _ HG5.out, ?_⟩
            clear hG
            (try simp only [Act.put, List.setIfInBounds_toArray, List.set_cons_zero, List.set_cons_succ])
            refine M_nil ?_
            try dsimp only
            obtain ⟨L5, hL5⟩ : ∃ L, L = mixN L4 0 5 10 15 mp4 mq4 := ⟨_, rfl⟩
            rw [← hL5] at HV5' HN4
            have HV5 := HV5'
            have HK5 := Lib.hid (show All32 L5 ∧ L5.length = 16 by rw [hL5]; exact ⟨mixN_ok HK4.out.1 _ _ _ _ _ _, (mixN_len _ _ _ _ _ _ _).trans HK4.out.2⟩)
            clear hL5 hp4l hq4l hp40 hq40 HV5'
            obtain ⟨p5, hp5⟩ : ∃ p, p = g32 (zrow k) 10 := ⟨_, rfl⟩
            obtain ⟨q5, hq5⟩ : ∃ p, p = g32 (zrow k) 11 := ⟨_, rfl⟩
            obtain ⟨mp5, hmp5⟩ : ∃ p, p = g32 M p5 := ⟨_, rfl⟩
            obtain ⟨mq5, hmq5⟩ : ∃ p, p = g32 M q5 := ⟨_, rfl⟩
            have hp5l : (p5 : Int) < 16 := by have := HZL.out 10 (by decide); omega
            have hq5l : (q5 : Int) < 16 := by have := HZL.out 11 (by decide); omega
            have hp50 : (0 : Int) ≤ (p5 : Int) := by omega
            have hq50 : (0 : Int) ≤ (q5 : Int) := by omega
            have SS5 := Lib.hid (show ∀ W, W0.grownBy W (some gv) → (fun W => W.cell? ⟨wz, 10, none⟩ = some (.int .i64 (p5 : Int)) ∧ W.cell? ⟨wz, 11, none⟩ = some (.int .i64 (q5 : Int)) ∧ W.cell? ⟨gm, p5, none⟩ = some (.int .u32 (mp5 : Int)) ∧ W.cell? ⟨gm, q5, none⟩ = some (.int .u32 (mq5 : Int))) W from fun W hW => by
              have h1 := HZC.out W hW 10 (by decide)
              have h2 := HZC.out W hW 11 (by decide)
              rw [← hp5, ← hmp5] at h1
              rw [← hq5, ← hmq5] at h2
              exact ⟨h1.1, h2.1, h1.2, h2.2⟩)
            have HM5p := Lib.hid (show mp5 < 4294967296 by rw [hmp5]; exact HM32.out _)
            have HM5q := Lib.hid (show mq5 < 4294967296 by rw [hmq5]; exact HM32.out _)
            have HN5 := Lib.hid (show mixN L5 1 6 11 12 mp5 mq5 = mixN L5 1 6 11 12 (g32 M (g32 (zrow k) 10)) (g32 M (g32 (zrow k) 11)) by rw [hmp5, hmq5, hp5, hq5])
            clear hp5 hq5 hmp5 hmq5
            go_wp2_with fail
            refine wp_region_M [0, 1, 2, 3, 4, 5, 6, 7, 8, 9, 10, 11, 12, 13] [13] (fun W => W.cell? ⟨wz, 10, none⟩ = some (.int .i64 (p5 : Int)) ∧ W.cell? ⟨wz, 11, none⟩ = some (.int .i64 (q5 : Int)) ∧ W.cell? ⟨gm, p5, none⟩ = some (.int .u32 (mp5 : Int)) ∧ W.cell? ⟨gm, q5, none⟩ = some (.int .u32 (mq5 : Int))) (by kernel_rfl) (by kernel_rfl) (SS5.out _ ⟨HG5.out.os, HG5.out.tape, HG5.out.output, HG5.out.size, HG5.out.block⟩) ?_
            iterate 13 (refine M_pure (by rfl) (by rfl) ?_; apply Exists.intro; apply And.intro; (case left => (intro w hSw; (try dsimp only at hSw); go_simp; try with_reducible rfl)); (try simp only [Act.put, List.setIfInBounds_toArray, List.set_cons_zero, List.set_cons_succ]))
            (refine M_call (by rfl) (by rfl) ?_; apply Exists.intro; apply Exists.intro; apply And.intro; (case left => (go_simp; first | exact ⟨rfl, rfl⟩ | rfl)))
            refine (refg_any wl.heap.size gv capv L5 1 6 11 12 mp5 mq5 _ HK5.out.2 HK5.out.1 (by decide) (by decide) (by decide) (by decide) HM5p.out HM5q.out HV5.out.drew).mono ?_
            rintro e' W6 ⟨rfl, hG⟩
            have HG6 := Lib.hid (HG5.out.more ⟨hG.grown.os, hG.grown.tape, hG.grown.output, hG.grown.size, hG.grown.block⟩)
            have HV6' := Lib.hid hG.own
            refine ⟨_, rfl, SS5.out _ HG6.out, ?_⟩
            clear hG
            (try simp only [Act.put, List.setIfInBounds_toArray, List.set_cons_zero, List.set_cons_succ])
            refine M_nil ?_
            try dsimp only
            obtain ⟨L6, hL6⟩ : ∃ L, L = mixN L5 1 6 11 12 mp5 mq5 := ⟨_, rfl⟩
            rw [← hL6] at HV6' HN5
            have HV6 := HV6'
            have HK6 := Lib.hid (show All32 L6 ∧ L6.length = 16 by rw [hL6]; exact ⟨mixN_ok HK5.out.1 _ _ _ _ _ _, (mixN_len _ _ _ _ _ _ _).trans HK5.out.2⟩)
            clear hL6 hp5l hq5l hp50 hq50 HV6'
            obtain ⟨p6, hp6⟩ : ∃ p, p = g32 (zrow k) 12 := ⟨_, rfl⟩
            obtain ⟨q6, hq6⟩ : ∃ p, p = g32 (zrow k) 13 := ⟨_, rfl⟩
            obtain ⟨mp6, hmp6⟩ : ∃ p, p = g32 M p6 := ⟨_, rfl⟩
            obtain ⟨mq6, hmq6⟩ : ∃ p, p = g32 M q6 := ⟨_, rfl⟩
            have hp6l : (p6 : Int) < 16 := by have := HZL.out 12 (by decide); omega
            have hq6l : (q6 : Int) < 16 := by have := HZL.out 13 (by decide); omega
            have hp60 : (0 : Int) ≤ (p6 : Int) := by omega
            have hq60 : (0 : Int) ≤ (q6 : Int) := by omega
            have SS6 := Lib.hid (show ∀ W, W0.grownBy W (some gv) → (fun W => W.cell? ⟨wz, 12, none⟩ = some (.int .i64 (p6 : Int)) ∧ W.cell? ⟨wz, 13, none⟩ = some (.int .i64 (q6 : Int)) ∧ W.cell? ⟨gm, p6, none⟩ = some (.int .u32 (mp6 : Int)) ∧ W.cell? ⟨gm, q6, none⟩ = some (.int .u32 (mq6 : Int))) W from fun W hW => by
              have h1 := HZC.out W hW 12 (by decide)
              have h2 := HZC.out W hW 13 (by decide)
              rw [← hp6, ← hmp6] at h1
              rw [← hq6, ← hmq6] at h2
              exact ⟨h1.1, h2.1, h1.2, h2.2⟩)
            have HM6p := Lib.hid (show mp6 < 4294967296 by rw [hmp6]; exact HM32.out _)
            have HM6q := Lib.hid (show mq6 < 4294967296 by rw [hmq6]; exact HM32.out _)
            have HN6 := Lib.hid (show mixN L6 2 7 8 13 mp6 mq6 = mixN L6 2 7 8 13 (g32 M (g32 (zrow k) 12)) (g32 M (g32 (zrow k) 13)) by rw [hmp6, hmq6, hp6, hq6])
            clear hp6 hq6 hmp6 hmq6
            go_wp2_with fail
            refine wp_region_M [0, 1, 2, 3, 4, 5, 6, 7, 8, 9, 10, 11, 12, 13] [13] (fun W => W.cell? ⟨wz, 12, none⟩ = some (.int .i64 (p6 : Int)) ∧ W.cell? ⟨wz, 13, none⟩ = some (.int .i64 (q6 : Int)) ∧ W.cell? ⟨gm, p6, none⟩ = some (.int .u32 (mp6 : Int)) ∧ W.cell? ⟨gm, q6, none⟩ = some (.int .u32 (mq6 : Int))) (by kernel_rfl) (by kernel_rfl) (SS6.out _ ⟨HG6.out.os, HG6.out.tape, HG6.out.output, HG6.out.size, HG6.out.block⟩) ?_
            iterate 13 (refine M_pure (by rfl) (by rfl) ?_; apply Exists.intro; apply And.intro; (case left => (intro w hSw; (try dsimp only at hSw); go_simp; try with_reducible rfl)); (try simp only [Act.put, List.setIfInBounds_toArray, List.set_cons_zero, List.set_cons_succ]))
            (refine M_call (by rfl) (by rfl) ?_; apply Exists.intro; apply Exists.intro; apply And.intro; (case left => (go_simp; first | exact ⟨rfl, rfl⟩ | rfl)))
            refine (refg_any wl.heap.size gv capv L6 2 7 8 13 mp6 mq6 _ HK6.out.2 HK6.out.1 (by decide) (by decide) (by decide) (by decide) HM6p.out HM6q.out HV6.out.drew).mono ?_
            rintro e' W7 ⟨rfl, hG⟩
            have HG7 := Lib.hid (HG6.out.more ⟨hG.grown.os, hG.grown.tape, hG.grown.output, hG.grown.size, hG.grown.block⟩)
            have HV7' := Lib.hid hG.own
            refine ⟨_, rfl, SS6.out _ HG7.out, ?_⟩
            clear hG
            (try simp only [Act.put, List.setIfInBounds_toArray, List.set_cons_zero, List.set_cons_succ])
            refine M_nil ?_
            try dsimp only
            obtain ⟨L7, hL7⟩ : ∃ L, L = mixN L6 2 7 8 13 mp6 mq6 := ⟨_, rfl⟩
            rw [← hL7] at HV7' HN6
            have HV7 := HV7'
            have HK7 := Lib.hid (show All32 L7 ∧ L7.length = 16 by rw [hL7]; exact ⟨mixN_ok HK6.out.1 _ _ _ _ _ _, (mixN_len _ _ _ _ _ _ _).trans HK6.out.2⟩)
            clear hL7 hp6l hq6l hp60 hq60 HV7'
            obtain ⟨p7, hp7⟩ : ∃ p, p = g32 (zrow k) 14 := ⟨_, rfl⟩
            obtain ⟨q7, hq7⟩ : ∃ p, p = g32 (zrow k) 15 := ⟨_, rfl⟩
            obtain ⟨mp7, hmp7⟩ : ∃ p, p = g32 M p7 := ⟨_, rfl⟩
            obtain ⟨mq7, hmq7⟩ : ∃ p, p = g32 M q7 := ⟨_, rfl⟩
            have hp7l : (p7 : Int) < 16 := by have := HZL.out 14 (by decide); omega
            have hq7l : (q7 : Int) < 16 := by have := HZL.out 15 (by decide); omega
            have hp70 : (0 : Int) ≤ (p7 : Int) := by omega
            have hq70 : (0 : Int) ≤ (q7 : Int) := by omega
            have SS7 := Lib.hid (show ∀ W, W0.grownBy W (some gv) → (fun W => W.cell? ⟨wz, 14, none⟩ = some (.int .i64 (p7 : Int)) ∧ W.cell? ⟨wz, 15, none⟩ = some (.int .i64 (q7 : Int)) ∧ W.cell? ⟨gm, p7, none⟩ = some (.int .u32 (mp7 : Int)) ∧ W.cell? ⟨gm, q7, none⟩ = some (.int .u32 (mq7 : Int))) W from fun W hW => by
              have h1 := HZC.out W hW 14 (by decide)
              have h2 := HZC.out W hW 15 (by decide)
              rw [← hp7, ← hmp7] at h1
              rw [← hq7, ← hmq7] at h2
              exact ⟨h1.1, h2.1, h1.2, h2.2⟩)
            have HM7p := Lib.hid (show mp7 < 4294967296 by rw [hmp7]; exact HM32.out _)
            have HM7q := Lib.hid (show mq7 < 4294967296 by rw [hmq7]; exact HM32.out _)
            have HN7 := Lib.hid (show mixN L7 3 4 9 14 mp7 mq7 = mixN L7 3 4 9 14 (g32 M (g32 (zrow k) 14)) (g32 M (g32 (zrow k) 15)) by rw [hmp7, hmq7, hp7, hq7])
            clear hp7 hq7 hmp7 hmq7
            go_wp2_with fail
            refine wp_region_M [0, 1, 2, 3, 4, 5, 6, 7, 8, 9, 10, 11, 12, 13] [13] (fun W => W.cell? ⟨wz, 14, none⟩ = some (.int .i64 (p7 : Int)) ∧ W.cell? ⟨wz, 15, none⟩ = some (.int .i64 (q7 : Int)) ∧ W.cell? ⟨gm, p7, none⟩ = some (.int .u32 (mp7 : Int)) ∧ W.cell? ⟨gm, q7, none⟩ = some (.int .u32 (mq7 : Int))) (by kernel_rfl) (by kernel_rfl) (SS7.out _ ⟨HG7.out.os, HG7.out.tape, HG7.out.output, HG7.out.size, HG7.out.block⟩) ?_
            iterate 13 (refine M_pure (by rfl) (by rfl) ?_; apply Exists.intro; apply And.intro; (case left => (intro w hSw; (try dsimp only at hSw); go_simp; try with_reducible rfl)); (try simp only [Act.put, List.setIfInBounds_toArray, List.set_cons_zero, List.set_cons_succ]))
            (refine M_call (by rfl) (by rfl) ?_; apply Exists.intro; apply Exists.intro; apply And.intro; (case left => (go_simp; first | exact ⟨rfl, rfl⟩ | rfl)))
            refine (refg_any wl.heap.size gv capv L7 3 4 9 14 mp7 mq7 _ HK7.out.2 HK7.out.1 (by decide) (by decide) (by decide) (by decide) HM7p.out HM7q.out HV7.out.drew).mono ?_
            rintro e' W8 ⟨rfl, hG⟩
            have HG8 := Lib.hid (HG7.out.more ⟨hG.grown.os, hG.grown.tape, hG.grown.output, hG.grown.size, hG.grown.block⟩)
            have HV8' := Lib.hid hG.own
            refine ⟨_, rfl, SS7.out _ HG8.out, ?_⟩
            clear hG
            (try simp only [Act.put, List.setIfInBounds_toArray, List.set_cons_zero, List.set_cons_succ])
            refine M_nil ?_
            try dsimp only
            obtain ⟨L8, hL8⟩ : ∃ L, L = mixN L7 3 4 9 14 mp7 mq7 := ⟨_, rfl⟩
            rw [← hL8] at HV8' HN7
            have HV8 := HV8'
            have HK8 := Lib.hid (show All32 L8 ∧ L8.length = 16 by rw [hL8]; exact ⟨mixN_ok HK7.out.1 _ _ _ _ _ _, (mixN_len _ _ _ _ _ _ _).trans HK7.out.2⟩)
            clear hL8 hp7l hq7l hp70 hq70 HV8'
            have HRN := Lib.hid (show rounds M (k + 1) V = L8 by rw [HN7.out, HN6.out, HN5.out, HN4.out, HN3.out, HN2.out, HN1.out, HN0.out, HL0.out]; rfl)
            go_wp2_with fail
            go_roundw
            case rel => exact ⟨k + 1, by omega, by go_num, by rw [HRN.out]; exact HV8.out, HGW.out.more HG8.out⟩
            case measure => simp [intOf]; omega
          · obtain rfl : k = 10 := by omega
            obtain ⟨wq, rfl⟩ : ∃ wq : World, wq = wr := ⟨_, rfl⟩
            obtain ⟨R, hR⟩ : ∃ R, R = rounds M 10 V := ⟨_, rfl⟩
            rw [← hR] at ho
            have hr0 := rounds_ok (m := M) 10 V HV32.out
            rw [← hR, HVL.out] at hr0
            have HR := Lib.hid hR
            have HR0 := Lib.hid hr0
            have hgv : gv < wq.heap.size := Nat.lt_of_lt_of_le hgv3 hg.size
            have hgq : gh < wq.heap.size := Nat.lt_of_lt_of_le hgh3 hg.size
            have hHq := HH3.out.kept hg (.inr (by simp [Value.ownBlock]; omega))
            have HBQ := Lib.hid (HB3.out.grown hg HB3.out.size (fun j hj => by simp at hj; omega))
            have HCF := Lib.hid (show ∀ W, Below wq.heap.size wq W → ∀ j, j < 8 → W.cell? ⟨gh, j, none⟩ = some (.int .u32 (g32 H j : Nat)) ∧ W.cell? ⟨gv, j, none⟩ = some (.int .u32 (g32 R j : Nat)) ∧ W.cell? ⟨gv, j + 8, none⟩ = some (.int .u32 (g32 R (j + 8) : Nat)) from by
              intro W hW j hj
              have h1 := own_below hHq hW
              have h2 := own_below ho hW
              rw [← HL.out] at h1
              rw [← hr0.2] at h2
              exact ⟨v32_cell h1 (by rw [HL.out]; exact hj), v32_cell h2 (by rw [hr0.2]; omega), v32_cell h2 (by rw [hr0.2]; omega)⟩)
            clear hR hr0 ho hg hHq hk hlt
            go_wp2_with fail
            go_loopw [13, 14] (fun v i wr => ∃ k : Nat, k ≤ 8 ∧ i = .int .i64 (k : Int) ∧ wr.ownsRow wq.heap.size 44 1 v k (v32 (outR H R k)) ∧ Below wq.heap.size wq wr) (fun _ i _ => 8 - (intOf i).toNat)
            case atStart => exact ⟨0, by omega, rfl, World.ownsRow_nil _ _ _ _, Below.refl _ _⟩
            case round =>
              obtain ⟨k, hk, rfl, ho, hb⟩ := hrel
              have HO := Lib.hid ho
              have HB := Lib.hid hb
              have hsz := hb.size
              clear ho hb
              by_cases hlt : k < 8
              · have hk0 : (0 : Int) ≤ (k : Int) := by omega
                have hki : (k : Int) < 8 := by omega
                obtain ⟨p, hp⟩ : ∃ p : Nat, p = k + 8 := ⟨_, rfl⟩
                have e1 : (k : Int) + 8 = (p : Int) := by omega
                have e2 : IntKind.i64.wrap (p : Int) = (p : Int) := by rw [IntKind.wrap_i64]; omega
                have hp0 : (0 : Int) ≤ (p : Int) := by omega
                have hpi : (p : Int) < 16 := by omega
                have hki2 : (k : Int) < 16 := by omega
                obtain ⟨x1, hx1⟩ : ∃ x, x = g32 H k := ⟨_, rfl⟩
                obtain ⟨x2, hx2⟩ : ∃ x, x = g32 R k := ⟨_, rfl⟩
                obtain ⟨x3, hx3⟩ : ∃ x, x = g32 R p := ⟨_, rfl⟩
                obtain ⟨y1, hy1⟩ : ∃ y, y = x1 ^^^ x2 := ⟨_, rfl⟩
                obtain ⟨y2, hy2⟩ : ∃ y, y = x1 ^^^ x2 ^^^ x3 := ⟨_, rfl⟩
                have hl1 : x1 < 4294967296 := by rw [hx1]; exact H32.out _
                have hl2 : x2 < 4294967296 := by rw [hx2]; exact HR0.out.1 _
                have hl3 : x3 < 4294967296 := by rw [hx3]; exact HR0.out.1 _
                have e3 : bits .xor .u32 (x1 : Int) (x2 : Int) = (y1 : Int) := by rw [hy1]; exact bxor32 _ _ hl1 hl2
                have e4 : bits .xor .u32 (y1 : Int) (x3 : Int) = (y2 : Int) := by rw [hy2, ← hy1]; exact bxor32 _ _ (by rw [hy1]; exact Nat.xor_lt_two_pow (n := 32) hl1 hl2) hl3
                have HOR := Lib.hid (show v32 (outR H R (k + 1)) = v32 (outR H R k) ++ [.int .u32 (y2 : Int)] by rw [outR_succ, v32_append, hy2, hx1, hx2, hx3, hp]; rfl)
                have HS := Lib.hid (show ∀ W, Below wq.heap.size wq W → (fun W => W.cell? ⟨gh, k, none⟩ = some (.int .u32 (x1 : Int)) ∧ W.cell? ⟨gv, k, none⟩ = some (.int .u32 (x2 : Int)) ∧ W.cell? ⟨gv, p, none⟩ = some (.int .u32 (x3 : Int))) W from fun W hW => by
                  have := HCF.out W hW k hlt
                  rw [hx1, hx2, hx3, hp]
                  exact this)
                clear hx1 hx2 hx3 hy1 hy2 hl1 hl2 hl3 hp
                go_wp2_with fail
                refine wp_region_M [0, 1, 2, 3, 4, 5, 6, 7, 8, 9, 10, 11, 12, 13, 14, 15, 16, 17, 18] [16, 17] (fun W => W.cell? ⟨gh, k, none⟩ = some (.int .u32 (x1 : Int)) ∧ W.cell? ⟨gv, k, none⟩ = some (.int .u32 (x2 : Int)) ∧ W.cell? ⟨gv, p, none⟩ = some (.int .u32 (x3 : Int))) (by kernel_rfl) (by kernel_rfl) (HS.out _ HB.out.drew) ?_
                iterate 16 (refine M_pure (by rfl) (by rfl) ?_; apply Exists.intro; apply And.intro; (case left => (intro w hSw; (try dsimp only at hSw); go_simp; try with_reducible rfl)); (try simp only [Act.put, List.setIfInBounds_toArray, List.set_cons_zero, List.set_cons_succ]))
                refine M_do (by rfl) (by rfl) ⟨.slice (some ⟨wr.heap.size, 0, none⟩) 1 1, wr.drew.alloc (.cells #[.int .u32 (y2 : Int)] 44), (by go_simp), HS.out _ (HB.out.drew.alloc hsz _), ?_⟩
                (try simp only [Act.put, List.setIfInBounds_toArray, List.set_cons_zero, List.set_cons_succ])
                refine M_append (by rfl) (by rfl) (.tmp 189) (.tmp 205) 47 rfl wq.heap.size 44 i0 (.int .u32 0) 1 4 Tryd.underlying47 ti0 ti1 ti2 ti3 rfl (by decide) u13 k (v32 (outR H R k)) rfl (HO.out.drew.alloc _) ⟨wr.heap.size, 0, none⟩ 1 1 [.int .u32 (y2 : Int)] rfl rfl (new_cells _ rfl _ _) (by intro u hu; simp at hu; subst hu; rfl) (by unfold maxLen; omega) (by omega) (by simp; omega) ?_
                intro vn wn hown2 hg2 hat2
                have hBN := (HB.out.drew.alloc hsz (.cells #[.int .u32 (y2 : Int)] 44)).grown hg2 (by simp; omega) (fun j hj => (HO.out.lt j hj).1)
                refine ⟨HS.out _ hBN, ?_⟩
                have HBN := Lib.hid hBN
                have HON := Lib.hid hown2
                clear hown2 hg2 hat2 hBN
                (try simp only [Act.put, List.setIfInBounds_toArray, List.set_cons_zero, List.set_cons_succ])
                iterate 1 (refine M_pure (by rfl) (by rfl) ?_; apply Exists.intro; apply And.intro; (case left => (intro w hSw; (try dsimp only at hSw); go_simp; try with_reducible rfl)); (try simp only [Act.put, List.setIfInBounds_toArray, List.set_cons_zero, List.set_cons_succ]))
                refine M_nil ?_
                try dsimp only
                go_wp2
                go_roundw
                case rel => first | exact ⟨k + 1, by omega, by go_num, by rw [HOR.out]; exact HON.out, HBN.out⟩ | ((repeat apply Exists.intro); exact ⟨⟨k + 1, by omega, by go_num, by rw [HOR.out]; exact HON.out, HBN.out⟩, rfl⟩)
                case measure => simp [intOf]; omega
              · obtain rfl : k = 8 := by omega
                obtain ⟨go, capo, hvo, hgo0, hgo1⟩ := own_slice HO.out (by decide)
                subst hvo
                have hzq := HBQ.out.size
                have HRES := Lib.hid (show World.ownsRow wr w.heap.size 44 1 (.slice (some ⟨go, 0, none⟩) 8 capo) 8 (v32 (compressN H ((s.data.toList.drop a).take 64) (min (a + 64) s.size) (decide (s.size ≤ a + 64)))) by
                  rw [HES.out, ← HE.out]
                  unfold compressN
                  rw [← HM2.out, ← HVE.out, ← HR.out, fin8_range HL.out]
                  exact own_mono HO.out hzq)
                go_wp2
                go_ret
                exact ⟨go, capo, rfl, HRES.out, HBQ.out.trans (HB.out.mono hzq)⟩
      · have hes : ¬ e = s.size := by have := HE.out; omega
        have b1 : ((e : Int) == (s.size : Int)) = false := by simp; omega
        have b2 : decide (e = s.size) = false := by simpa using hes
        have b3 : (e == s.size) = false := by simpa using hes
        have HES := Lib.hid (show decide (s.size ≤ a + 64) = false by simpa using hla)
        have HLA := Lib.hid hla
        clear hes hla
        go_wp2_with fail
        have hgen : ∃ w3, w3 = (w2.setCell ⟨gv, 12, none⟩ (.int .u32 (z2 : Int))).setCell ⟨gv, 13, none⟩ (.int .u32 (y3 : Int)) := ⟨_, rfl⟩
        obtain ⟨w3, hw3⟩ := hgen
        rw [← hw3] at S1 T1 ⊢
        obtain ⟨V, hV⟩ : ∃ V, V = start16 H e false := ⟨_, rfl⟩
        rw [← hV] at S1
        have HVL := Lib.hid (show V.length = 16 by rw [hV]; exact start16_len HL.out e false)
        have HV32 := Lib.hid (show All32 V by rw [hV]; exact start16_ok H32.out e (by omega) false)
        have HVE := Lib.hid hV
        have HML := Lib.hid (show M.length = 16 by rw [HM2.out]; exact wordsN_len _)
        have HM32 := Lib.hid (show All32 M by rw [HM2.out]; exact wordsN_ok _)
        have HM3 := Lib.hid (HM2'.out.kept T1.out (.inr (by simp [Value.ownBlock]; omega)))
        have HH3 := Lib.hid (HH2.out.kept T1.out (.inr (by simp [Value.ownBlock]; omega)))
        have HB3 := Lib.hid (HB2.out.grown T1.out HB2.out.size (fun j hj => by simp at hj; omega))
        have hgv3 : gv < w3.heap.size := Nat.lt_of_lt_of_le hgv1 T1.out.size
        have hgh3 : gh < w3.heap.size := Nat.lt_of_lt_of_le hgh HB3.out.size
        have hgm3 : gm < w3.heap.size := by omega
        clear hw3 hV c12 c13 c14 f12 f13 f14 e1 e2 e3 e4 e5 e6 e7 e8 e9 HM2' HH2 HB2 b1 b2 b3
        go_loopw [11] (fun r wr => ∃ k : Nat, k ≤ 10 ∧ r = .int .i64 (k : Int) ∧ wr.ownsRow wl.heap.size 44 1 (.slice (some ⟨gv, 0, none⟩) 16 capv) 16 (v32 (rounds M k V)) ∧ w3.grownBy wr (some gv)) (fun r _ => 10 - (intOf r).toNat)
        case atStart => exact ⟨0, by omega, rfl, S1.out, World.grownBy.refl _ _⟩
        case round =>
          obtain ⟨k, hk, rfl, ho, hg⟩ := hrel
          by_cases hlt : k < 10
          · have hk0 : (0 : Int) ≤ (k : Int) := by omega
            have hki : (k : Int) < 10 := by omega
            have hsz := hg.size
            go_wp2_with fail
            refine (order_any k hlt wr).mono ?_
            rintro e' w' ⟨rfl, rfl⟩
            obtain ⟨W0, hW0⟩ : ∃ W, W = wr.alloc (.cells (i64s (zrow k)) 3) := ⟨_, rfl⟩
            obtain ⟨wz, hwz⟩ : ∃ z, z = wr.heap.size := ⟨_, rfl⟩
            rw [← hW0, ← hwz]
            have hwzl : wz < W0.heap.size := by rw [hW0, hwz]; simp
            have hmz := HM3.out.kept hg (.inr (by simp [Value.ownBlock]; omega))
            have HZC := Lib.hid (show ∀ W, W0.grownBy W (some gv) → ∀ j, j < 16 → W.cell? ⟨wz, j, none⟩ = some (.int .i64 (g32 (zrow k) j : Nat)) ∧ W.cell? ⟨gm, g32 (zrow k) j, none⟩ = some (.int .u32 (g32 M (g32 (zrow k) j) : Nat)) from by
              intro W hW j hj
              have h1 : (World.ownsRow W0 wz 3 1 (.slice (some ⟨wz, 0, none⟩) 16 16) 16 (i64s (zrow k)).toList) := by
                rw [hW0, hwz]
                exact World.ownsRow_lit wr _ 16 (Nat.le_refl _) (by decide) (by simp [i64s, zrow_len k hlt])
              have h2 := (h1.kept hW (.inr (by simp [Value.ownBlock]; omega))).cellAt j (by omega)
              have h3 : (i64s (zrow k)).toList[j]? = some (.int .i64 (g32 (zrow k) j : Nat)) := by
                unfold i64s g32
                have := zrow_len k hlt
                simp [List.getD_eq_getElem?_getD, List.getElem?_eq_getElem (show j < (zrow k).length by omega)]
              rw [h3] at h2
              have hm1 := hmz.alloc (.cells (i64s (zrow k)) 3)
              rw [← hW0] at hm1
              have hm2 := hm1.kept hW (.inr (by simp [Value.ownBlock]; omega))
              rw [← HML.out] at hm2
              exact ⟨h2, v32_cell hm2 (by rw [HML.out]; exact zrow_lt k hlt j hj)⟩)
            have HZL := Lib.hid (zrow_lt k hlt)
            obtain ⟨L0, hL0⟩ : ∃ L, L = rounds M k V := ⟨_, rfl⟩
            have hv0 := ho.alloc (.cells (i64s (zrow k)) 3)
            rw [← hW0, ← hL0] at hv0
            have HV0 := Lib.hid hv0
            have hr0 := rounds_ok (m := M) k V HV32.out
            rw [← hL0, HVL.out] at hr0
            have HK0 := Lib.hid hr0
            have HG0 := Lib.hid (World.grownBy.refl W0 (some gv))
            have HGW := Lib.hid (show w3.grownBy W0 (some gv) by rw [hW0]; exact hg.more (World.grownBy_alloc _ _ _))
            have HL0 := Lib.hid hL0
            clear ho hg hmz hv0 hr0 hL0 hW0 hwz
            obtain ⟨p0, hp0⟩ : ∃ p, p = g32 (zrow k) 0 := ⟨_, rfl⟩
            obtain ⟨q0, hq0⟩ : ∃ p, p = g32 (zrow k) 1 := ⟨_, rfl⟩
            obtain ⟨mp0, hmp0⟩ : ∃ p, p = g32 M p0 := ⟨_, rfl⟩
            obtain ⟨mq0, hmq0⟩ : ∃ p, p = g32 M q0 := ⟨_, rfl⟩
            have hp0l : (p0 : Int) < 16 := by have := HZL.out 0 (by decide); omega
            have hq0l : (q0 : Int) < 16 := by have := HZL.out 1 (by decide); omega
            have hp00 : (0 : Int) ≤ (p0 : Int) := by omega
            have hq00 : (0 : Int) ≤ (q0 : Int) := by omega
            have SS0 := Lib.hid (show ∀ W, W0.grownBy W (some gv) → (fun W => W.cell? ⟨wz, 0, none⟩ = some (.int .i64 (p0 : Int)) ∧ W.cell? ⟨wz, 1, none⟩ = some (.int .i64 (q0 : Int)) ∧ W.cell? ⟨gm, p0, none⟩ = some (.int .u32 (mp0 : Int)) ∧ W.cell? ⟨gm, q0, none⟩ = some (.int .u32 (mq0 : Int))) W from fun W hW => by
              have h1 := HZC.out W hW 0 (by decide)
              have h2 := HZC.out W hW 1 (by decide)
              rw [← hp0, ← hmp0] at h1
              rw [← hq0, ← hmq0] at h2
              exact ⟨h1.1, h2.1, h1.2, h2.2⟩)
            have HM0p := Lib.hid (show mp0 < 4294967296 by rw [hmp0]; exact HM32.out _)
            have HM0q := Lib.hid (show mq0 < 4294967296 by rw [hmq0]; exact HM32.out _)
            have HN0 := Lib.hid (show mixN L0 0 4 8 12 mp0 mq0 = mixN L0 0 4 8 12 (g32 M (g32 (zrow k) 0)) (g32 M (g32 (zrow k) 1)) by rw [hmp0, hmq0, hp0, hq0])
            clear hp0 hq0 hmp0 hmq0
            go_wp2_with fail
            refine wp_region_M [0, 1, 2, 3, 4, 5, 6, 7, 8, 9, 10, 11, 12, 13] [13] (fun W => W.cell? ⟨wz, 0, none⟩ = some (.int .i64 (p0 : Int)) ∧ W.cell? ⟨wz, 1, none⟩ = some (.int .i64 (q0 : Int)) ∧ W.cell? ⟨gm, p0, none⟩ = some (.int .u32 (mp0 : Int)) ∧ W.cell? ⟨gm, q0, none⟩ = some (.int .u32 (mq0 : Int))) (by kernel_rfl) (by kernel_rfl) (SS0.out _ ⟨HG0.out.os, HG0.out.tape, HG0.out.output, HG0.out.size, HG0.out.block⟩) ?_
            iterate 13 (refine M_pure (by rfl) (by rfl) ?_; apply Exists.intro; apply And.intro; (case left => (intro w hSw; (try dsimp only at hSw); go_simp; try with_reducible rfl)); (try simp only [Act.put, List.setIfInBounds_toArray, List.set_cons_zero, List.set_cons_succ]))
            (refine M_call (by rfl) (by rfl) ?_; apply Exists.intro; apply Exists.intro; apply And.intro; (case left => (go_simp; first | exact ⟨rfl, rfl⟩ | rfl)))
            refine (refg_any wl.heap.size gv capv L0 0 4 8 12 mp0 mq0 _ HK0.out.2 HK0.out.1 (by decide) (by decide) (by decide) (by decide) HM0p.out HM0q.out HV0.out.drew).mono ?_
            rintro e' W1 ⟨rfl, hG⟩
            have HG1 := Lib.hid (HG0.out.more ⟨hG.grown.os, hG.grown.tape, hG.grown.output, hG.grown.size, hG.grown.block⟩)
            have HV1' := Lib.hid hG.own
            refine ⟨_, rfl, SS0.out _ HG1.out, ?_⟩
            clear hG
            (try simp only [Act.put, List.setIfInBounds_toArray, List.set_cons_zero, List.set_cons_succ])
            refine M_nil ?_
            try dsimp only
            obtain ⟨L1, hL1⟩ : ∃ L, L = mixN L0 0 4 8 12 mp0 mq0 := ⟨_, rfl⟩
            rw [← hL1] at HV1' HN0
            have HV1 := HV1'
            have HK1 := Lib.hid (show All32 L1 ∧ L1.length = 16 by rw [hL1]; exact ⟨mixN_ok HK0.out.1 _ _ _ _ _ _, (mixN_len _ _ _ _ _ _ _).trans HK0.out.2⟩)
            clear hL1 hp0l hq0l hp00 hq00 HV1'
            obtain ⟨p1, hp1⟩ : ∃ p, p = g32 (zrow k) 2 := ⟨_, rfl⟩
            obtain ⟨q1, hq1⟩ : ∃ p, p = g32 (zrow k) 3 := ⟨_, rfl⟩
            obtain ⟨mp1, hmp1⟩ : ∃ p, p = g32 M p1 := ⟨_, rfl⟩
            obtain ⟨mq1, hmq1⟩ : ∃ p, p = g32 M q1 := ⟨_, rfl⟩
            have hp1l : (p1 : Int) < 16 := by have := HZL.out 2 (by decide); omega
            have hq1l : (q1 : Int) < 16 := by have := HZL.out 3 (by decide); omega
            have hp10 : (0 : Int) ≤ (p1 : Int) := by omega
            have hq10 : (0 : Int) ≤ (q1 : Int) := by omega
            have SS1 := Lib.hid (show ∀ W, W0.grownBy W (some gv) → (fun W => W.cell? ⟨wz, 2, none⟩ = some (.int .i64 (p1 : Int)) ∧ W.cell? ⟨wz, 3, none⟩ = some (.int .i64 (q1 : Int)) ∧ W.cell? ⟨gm, p1, none⟩ = some (.int .u32 (mp1 : Int)) ∧ W.cell? ⟨gm, q1, none⟩ = some (.int .u32 (mq1 : Int))) W from fun W hW => by
              have h1 := HZC.out W hW 2 (by decide)
              have h2 := HZC.out W hW 3 (by decide)
              rw [← hp1, ← hmp1] at h1
              rw [← hq1, ← hmq1] at h2
              exact ⟨h1.1, h2.1, h1.2, h2.2⟩)
            have HM1p := Lib.hid (show mp1 < 4294967296 by rw [hmp1]; exact HM32.out _)
            have HM1q := Lib.hid (show mq1 < 4294967296 by rw [hmq1]; exact HM32.out _)
            have HN1 := Lib.hid (show mixN L1 1 5 9 13 mp1 mq1 = mixN L1 1 5 9 13 (g32 M (g32 (zrow k) 2)) (g32 M (g32 (zrow k) 3)) by rw [hmp1, hmq1, hp1, hq1])
            clear hp1 hq1 hmp1 hmq1
            go_wp2_with fail
            refine wp_region_M [0, 1, 2, 3, 4, 5, 6, 7, 8, 9, 10, 11, 12, 13] [13] (fun W => W.cell? ⟨wz, 2, none⟩ = some (.int .i64 (p1 : Int)) ∧ W.cell? ⟨wz, 3, none⟩ = some (.int .i64 (q1 : Int)) ∧ W.cell? ⟨gm, p1, none⟩ = some (.int .u32 (mp1 : Int)) ∧ W.cell? ⟨gm, q1, none⟩ = some (.int .u32 (mq1 : Int))) (by kernel_rfl) (by kernel_rfl) (SS1.out _ ⟨HG1.out.os, HG1.out.tape, HG1.out.output, HG1.out.size, HG1.out.block⟩) ?_
            iterate 13 (refine M_pure (by rfl) (by rfl) ?_; apply Exists.intro; apply And.intro; (case left => (intro w hSw; (try dsimp only at hSw); go_simp; try with_reducible rfl)); (try simp only [Act.put, List.setIfInBounds_toArray, List.set_cons_zero, List.set_cons_succ]))
            (refine M_call (by rfl) (by rfl) ?_; apply Exists.intro; apply Exists.intro; apply And.intro; (case left => (go_simp; first | exact ⟨rfl, rfl⟩ | rfl)))
            refine (refg_any wl.heap.size gv capv L1 1 5 9 13 mp1 mq1 _ HK1.out.2 HK1.out.1 (by decide) (by decide) (by decide) (by decide) HM1p.out HM1q.out HV1.out.drew).mono ?_
            rintro e' W2 ⟨rfl, hG⟩
            have HG2 := Lib.hid (HG1.out.more ⟨hG.grown.os, hG.grown.tape, hG.grown.output, hG.grown.size, hG.grown.block⟩)
            have HV2' := Lib.hid hG.own
            refine ⟨_, rfl, SS1.out _ HG2.out, ?_⟩
            clear hG
            (try simp only [Act.put, List.setIfInBounds_toArray, List.set_cons_zero, List.set_cons_succ])
            refine M_nil ?_
            try dsimp only
            obtain ⟨L2, hL2⟩ : ∃ L, L = mixN L1 1 5 9 13 mp1 mq1 := ⟨_, rfl⟩
            rw [← hL2] at HV2' HN1
            have HV2 := HV2'
            have HK2 := Lib.hid (show All32 L2 ∧ L2.length = 16 by rw [hL2]; exact ⟨mixN_ok HK1.out.1 _ _ _ _ _ _, (mixN_len _ _ _ _ _ _ _).trans HK1.out.2⟩)
            clear hL2 hp1l hq1l hp10 hq10 HV2'
            obtain ⟨p2, hp2⟩ : ∃ p, p = g32 (zrow k) 4 := ⟨_, rfl⟩
            obtain ⟨q2, hq2⟩ : ∃ p, p = g32 (zrow k) 5 := ⟨_, rfl⟩
            obtain ⟨mp2, hmp2⟩ : ∃ p, p = g32 M p2 := ⟨_, rfl⟩
            obtain ⟨mq2, hmq2⟩ : ∃ p, p = g32 M q2 := ⟨_, rfl⟩
            have hp2l : (p2 : Int) < 16 := by have := HZL.out 4 (by decide); omega
            have hq2l : (q2 : Int) < 16 := by have := HZL.out 5 (by decide); omega
            have hp20 : (0 : Int) ≤ (p2 : Int) := by omega
            have hq20 : (0 : Int) ≤ (q2 : Int) := by omega
            have SS2 := Lib.hid (show ∀ W, W0.grownBy W (some gv) → (fun W => W.cell? ⟨wz, 4, none⟩ = some (.int .i64 (p2 : Int)) ∧ W.cell? ⟨wz, 5, none⟩ = some (.int .i64 (q2 : Int)) ∧ W.cell? ⟨gm, p2, none⟩ = some (.int .u32 (mp2 : Int)) ∧ W.cell? ⟨gm, q2, none⟩ = some (.int .u32 (mq2 : Int))) W from fun W hW => by
              have h1 := HZC.out W hW 4 (by decide)
              have h2 := HZC.out W hW 5 (by decide)
              rw [← hp2, ← hmp2] at h1
              rw [← hq2, ← hmq2] at h2
              exact ⟨h1.1, h2.1, h1.2, h2.2⟩)
            have HM2p := Lib.hid (show mp2 < 4294967296 by rw [hmp2]; exact HM32.out _)
            have HM2q := Lib.hid (show mq2 < 4294967296 by rw [hmq2]; exact HM32.out _)
            have HN2 := Lib.hid (show mixN L2 2 6 10 14 mp2 mq2 = mixN L2 2 6 10 14 (g32 M (g32 (zrow k) 4)) (g32 M (g32 (zrow k) 5)) by rw [hmp2, hmq2, hp2, hq2])
            clear hp2 hq2 hmp2 hmq2
            go_wp2_with fail
            refine wp_region_M [0, 1, 2, 3, 4, 5, 6, 7, 8, 9, 10, 11, 12, 13] [13] (fun W => W.cell? ⟨wz, 4, none⟩ = some (.int .i64 (p2 : Int)) ∧ W.cell? ⟨wz, 5, none⟩ = some (.int .i64 (q2 : Int)) ∧ W.cell? ⟨gm, p2, none⟩ = some (.int .u32 (mp2 : Int)) ∧ W.cell? ⟨gm, q2, none⟩ = some (.int .u32 (mq2 : Int))) (by kernel_rfl) (by kernel_rfl) (SS2.out _ ⟨HG2.out.os, HG2.out.tape, HG2.out.output, HG2.out.size, HG2.out.block⟩) ?_
            iterate 13 (refine M_pure (by rfl) (by rfl) ?_; apply Exists.intro; apply And.intro; (case left => (intro w hSw; (try dsimp only at hSw); go_simp; try with_reducible rfl)); (try simp only [Act.put, List.setIfInBounds_toArray, List.set_cons_zero, List.set_cons_succ]))
            (refine M_call (by rfl) (by rfl) ?_; apply Exists.intro; apply Exists.intro; apply And.intro; (case left => (go_simp; first | exact ⟨rfl, rfl⟩ | rfl)))
            refine (refg_any wl.heap.size gv capv L2 2 6 10 14 mp2 mq2 _ HK2.out.2 HK2.out.1 (by decide) (by decide) (by decide) (by decide) HM2p.out HM2q.out HV2.out.drew).mono ?_
            rintro e' W3 ⟨rfl, hG⟩
            have HG3 := Lib.hid (HG2.out.more ⟨hG.grown.os, hG.grown.tape, hG.grown.output, hG.grown.size, hG.grown.block⟩)
            have HV3' := Lib.hid hG.own
            refine ⟨_, rfl, SS2.out _ HG3.out, ?_⟩
            clear hG
            (try simp only [Act.put, List.setIfInBounds_toArray, List.set_cons_zero, List.set_cons_succ])
            refine M_nil ?_
            try dsimp only
            obtain ⟨L3, hL3⟩ : ∃ L, L = mixN L2 2 6 10 14 mp2 mq2 := ⟨_, rfl⟩
            rw [← hL3] at HV3' HN2
            have HV3 := HV3'
            have HK3 := Lib.hid (show All32 L3 ∧ L3.length = 16 by rw [hL3]; exact ⟨mixN_ok HK2.out.1 _ _ _ _ _ _, (mixN_len _ _ _ _ _ _ _).trans HK2.out.2⟩)
            clear hL3 hp2l hq2l hp20 hq20 HV3'
            obtain ⟨p3, hp3⟩ : ∃ p, p = g32 (zrow k) 6 := ⟨_, rfl⟩
            obtain ⟨q3, hq3⟩ : ∃ p, p = g32 (zrow k) 7 := ⟨_, rfl⟩
            obtain ⟨mp3, hmp3⟩ : ∃ p, p = g32 M p3 := ⟨_, rfl⟩
            obtain ⟨mq3, hmq3⟩ : ∃ p, p = g32 M q3 := ⟨_, rfl⟩
            have hp3l : (p3 : Int) < 16 := by have := HZL.out 6 (by decide); omega
            have hq3l : (q3 : Int) < 16 := by have := HZL.out 7 (by decide); omega
            have hp30 : (0 : Int) ≤ (p3 : Int) := by omega
            have hq30 : (0 : Int) ≤ (q3 : Int) := by omega
            have SS3 := Lib.hid (show ∀ W, W0.grownBy W (some gv) → (fun W => W.cell? ⟨wz, 6, none⟩ = some (.int .i64 (p3 : Int)) ∧ W.cell? ⟨wz, 7, none⟩ = some (.int .i64 (q3 : Int)) ∧ W.cell? ⟨gm, p3, none⟩ = some (.int .u32 (mp3 : Int)) ∧ W.cell? ⟨gm, q3, none⟩ = some (.int .u32 (mq3 : Int))) W from fun W hW => by
              have h1 := HZC.out W hW 6 (by decide)
              have h2 := HZC.out W hW 7 (by decide)
              rw [← hp3, ← hmp3] at h1
              rw [← hq3, ← hmq3] at h2
              exact ⟨h1.1, h2.1, h1.2, h2.2⟩)
            have HM3p := Lib.hid (show mp3 < 4294967296 by rw [hmp3]; exact HM32.out _)
            have HM3q := Lib.hid (show mq3 < 4294967296 by rw [hmq3]; exact HM32.out _)
            have HN3 := Lib.hid (show mixN L3 3 7 11 15 mp3 mq3 = mixN L3 3 7 11 15 (g32 M (g32 (zrow k) 6)) (g32 M (g32 (zrow k) 7)) by rw [hmp3, hmq3, hp3, hq3])
            clear hp3 hq3 hmp3 hmq3
            go_wp2_with fail
            refine wp_region_M [0, 1, 2, 3, 4, 5, 6, 7, 8, 9, 10, 11, 12, 13] [13] (fun W => W.cell? ⟨wz, 6, none⟩ = some (.int .i64 (p3 : Int)) ∧ W.cell? ⟨wz, 7, none⟩ = some (.int .i64 (q3 : Int)) ∧ W.cell? ⟨gm, p3, none⟩ = some (.int .u32 (mp3 : Int)) ∧ W.cell? ⟨gm, q3, none⟩ = some (.int .u32 (mq3 : Int))) (by kernel_rfl) (by kernel_rfl) (SS3.out _ ⟨HG3.out.os, HG3.out.tape, HG3.out.output, HG3.out.size, HG3.out.block⟩) ?_
            iterate 13 (refine M_pure (by rfl) (by rfl) ?_; apply Exists.intro; apply And.intro; (case left => (intro w hSw; (try dsimp only at hSw); go_simp; try with_reducible rfl)); (try simp only [Act.put, List.setIfInBounds_toArray, List.set_cons_zero, List.set_cons_succ]))
            (refine M_call (by rfl) (by rfl) ?_; apply Exists.intro; apply Exists.intro; apply And.intro; (case left => (go_simp; first | exact ⟨rfl, rfl⟩ | rfl)))
            refine (refg_any wl.heap.size gv capv L3 3 7 11 15 mp3 mq3 _ HK3.out.2 HK3.out.1 (by decide) (by decide) (by decide) (by decide) HM3p.out HM3q.out HV3.out.drew).mono ?_
            rintro e' W4 ⟨rfl, hG⟩
            have HG4 := Lib.hid (HG3.out.more ⟨hG.grown.os, hG.grown.tape, hG.grown.output, hG.grown.size, hG.grown.block⟩)
            have HV4' := Lib.hid hG.own
            refine ⟨_, rfl, SS3.out _ HG4.out, ?_⟩
            clear hG
            (try simp only [Act.put, List.setIfInBounds_toArray, List.set_cons_zero, List.set_cons_succ])
            refine M_nil ?_
            try dsimp only
            obtain ⟨L4, hL4⟩ : ∃ L, L = mixN L3 3 7 11 15 mp3 mq3 := ⟨_, rfl⟩
            rw [← hL4] at HV4' HN3
            have HV4 := HV4'
            have HK4 := Lib.hid (show All32 L4 ∧ L4.length = 16 by rw [hL4]; exact ⟨mixN_ok HK3.out.1 _ _ _ _ _ _, (mixN_len _ _ _ _ _ _ _).trans HK3.out.2⟩)
            clear hL4 hp3l hq3l hp30 hq30 HV4'
            obtain ⟨p4, hp4⟩ : ∃ p, p = g32 (zrow k) 8 := ⟨_, rfl⟩
            obtain ⟨q4, hq4⟩ : ∃ p, p = g32 (zrow k) 9 := ⟨_, rfl⟩
            obtain ⟨mp4, hmp4⟩ : ∃ p, p = g32 M p4 := ⟨_, rfl⟩
            obtain ⟨mq4, hmq4⟩ : ∃ p, p = g32 M q4 := ⟨_, rfl⟩
            have hp4l : (p4 : Int) < 16 := by have := HZL.out 8 (by decide); omega
            have hq4l : (q4 : Int) < 16 := by have := HZL.out 9 (by decide); omega
            have hp40 : (0 : Int) ≤ (p4 : Int) := by omega
            have hq40 : (0 : Int) ≤ (q4 : Int) := by omega
            have SS4 := Lib.hid (show ∀ W, W0.grownBy W (some gv) → (fun W => W.cell? ⟨wz, 8, none⟩ = some (.int .i64 (p4 : Int)) ∧ W.cell? ⟨wz, 9, none⟩ = some (.int .i64 (q4 : Int)) ∧ W.cell? ⟨gm, p4, none⟩ = some (.int .u32 (mp4 : Int)) ∧ W.cell? ⟨gm, q4, none⟩ = some (.int .u32 (mq4 : Int))) W from fun W hW => by
              have h1 := HZC.out W hW 8 (by decide)
              have h2 := HZC.out W hW 9 (by decide)
              rw [← hp4, ← hmp4] at h1
              rw [← hq4, ← hmq4] at h2
              exact ⟨h1.1, h2.1, h1.2, h2.2⟩)
            have HM4p := Lib.hid (show mp4 < 4294967296 by rw [hmp4]; exact HM32.out _)
            have HM4q := Lib.hid (show mq4 < 4294967296 by rw [hmq4]; exact HM32.out _)
            have HN4 := Lib.hid (show mixN L4 0 5 10 15 mp4 mq4 = mixN L4 0 5 10 15 (g32 M (g32 (zrow k) 8)) (g32 M (g32 (zrow k) 9)) by rw [hmp4, hmq4, hp4, hq4])
            clear hp4 hq4 hmp4 hmq4
            go_wp2_with fail
            refine wp_region_M [0, 1, 2, 3, 4, 5, 6, 7, 8, 9, 10, 11, 12, 13] [13] (fun W => W.cell? ⟨wz, 8, none⟩ = some (.int .i64 (p4 : Int)) ∧ W.cell? ⟨wz, 9, none⟩ = some (.int .i64 (q4 : Int)) ∧ W.cell? ⟨gm, p4, none⟩ = some (.int .u32 (mp4 : Int)) ∧ W.cell? ⟨gm, q4, none⟩ = some (.int .u32 (mq4 : Int))) (by kernel_rfl) (by kernel_rfl) (SS4.out _ ⟨HG4.out.os, HG4.out.tape, HG4.out.output, HG4.out.size, HG4.out.block⟩) ?_
            iterate 13 (refine M_pure (by rfl) (by rfl) ?_; apply Exists.intro; apply And.intro; (case left => (intro w hSw; (try dsimp only at hSw); go_simp; try with_reducible rfl)); (try simp only [Act.put, List.setIfInBounds_toArray, List.set_cons_zero, List.set_cons_succ]))
            (refine M_call (by rfl) (by rfl) ?_; apply Exists.intro; apply Exists.intro; apply And.intro; (case left => (go_simp; first | exact ⟨rfl, rfl⟩ | rfl)))
            refine (refg_any wl.heap.size gv capv L4 0 5 10 15 mp4 mq4 _ HK4.out.2 HK4.out.1 (by decide) (by decide) (by decide) (by decide) HM4p.out HM4q.out HV4.out.drew).mono ?_
            rintro e' W5 ⟨rfl, hG⟩
            have HG5 := Lib.hid (HG4.out.more ⟨hG.grown.os, hG.grown.tape, hG.grown.output, hG.grown.size, hG.grown.block⟩)
            have HV5' := Lib.hid hG.own
            refine ⟨_, rfl, SS4.out _ HG5.out, ?_⟩
            clear hG
            (try simp only [Act.put, List.setIfInBounds_toArray, List.set_cons_zero, List.set_cons_succ])
            refine M_nil ?_
            try dsimp only
            obtain ⟨L5, hL5⟩ : ∃ L, L = mixN L4 0 5 10 15 mp4 mq4 := ⟨_, rfl⟩
            rw [← hL5] at HV5' HN4
            have HV5 := HV5'
            have HK5 := Lib.hid (show All32 L5 ∧ L5.length = 16 by rw [hL5]; exact ⟨mixN_ok HK4.out.1 _ _ _ _ _ _, (mixN_len _ _ _ _ _ _ _).trans HK4.out.2⟩)
            clear hL5 hp4l hq4l hp40 hq40 HV5'
            obtain ⟨p5, hp5⟩ : ∃ p, p = g32 (zrow k) 10 := ⟨_, rfl⟩
            obtain ⟨q5, hq5⟩ : ∃ p, p = g32 (zrow k) 11 := ⟨_, rfl⟩
            obtain ⟨mp5, hmp5⟩ : ∃ p, p = g32 M p5 := ⟨_, rfl⟩
            obtain ⟨mq5, hmq5⟩ : ∃ p, p = g32 M q5 := ⟨_, rfl⟩
            have hp5l : (p5 : Int) < 16 := by have := HZL.out 10 (by decide); omega
            have hq5l : (q5 : Int) < 16 := by have := HZL.out 11 (by decide); omega
            have hp50 : (0 : Int) ≤ (p5 : Int) := by omega
            have hq50 : (0 : Int) ≤ (q5 : Int) := by omega
            have SS5 := Lib.hid (show ∀ W, W0.grownBy W (some gv) → (fun W => W.cell? ⟨wz, 10, none⟩ = some (.int .i64 (p5 : Int)) ∧ W.cell? ⟨wz, 11, none⟩ = some (.int .i64 (q5 : Int)) ∧ W.cell? ⟨gm, p5, none⟩ = some (.int .u32 (mp5 : Int)) ∧ W.cell? ⟨gm, q5, none⟩ = some (.int .u32 (mq5 : Int))) W from fun W hW => by
              have h1 := HZC.out W hW 10 (by decide)
              have h2 := HZC.out W hW 11 (by decide)
              rw [← hp5, ← hmp5] at h1
              rw [← hq5, ← hmq5] at h2
              exact ⟨h1.1, h2.1, h1.2, h2.2⟩)
            have HM5p := Lib.hid (show mp5 < 4294967296 by rw [hmp5]; exact HM32.out _)
            have HM5q := Lib.hid (show mq5 < 4294967296 by rw [hmq5]; exact HM32.out _)
            have HN5 := Lib.hid (show mixN L5 1 6 11 12 mp5 mq5 = mixN L5 1 6 11 12 (g32 M (g32 (zrow k) 10)) (g32 M (g32 (zrow k) 11)) by rw [hmp5, hmq5, hp5, hq5])
            clear hp5 hq5 hmp5 hmq5
            go_wp2_with fail
            refine wp_region_M [0, 1, 2, 3, 4, 5, 6, 7, 8, 9, 10, 11, 12, 13] [13] (fun W => W.cell? ⟨wz, 10, none⟩ = some (.int .i64 (p5 : Int)) ∧ W.cell? ⟨wz, 11, none⟩ = some (.int .i64 (q5 : Int)) ∧ W.cell? ⟨gm, p5, none⟩ = some (.int .u32 (mp5 : Int)) ∧ W.cell? ⟨gm, q5, none⟩ = some (.int .u32 (mq5 : Int))) (by kernel_rfl) (by kernel_rfl) (SS5.out _ ⟨HG5.out.os, HG5.out.tape, HG5.out.output, HG5.out.size, HG5.out.block⟩) ?_
            iterate 13 (refine M_pure (by rfl) (by rfl) ?_; apply Exists.intro; apply And.intro; (case left => (intro w hSw; (try dsimp only at hSw); go_simp; try with_reducible rfl)); (try simp only [Act.put, List.setIfInBounds_toArray, List.set_cons_zero, List.set_cons_succ]))
            (refine M_call (by rfl) (by rfl) ?_; apply Exists.intro; apply Exists.intro; apply And.intro; (case left => (go_simp; first | exact ⟨rfl, rfl⟩ | rfl)))
            refine (refg_any wl.heap.size gv capv L5 1 6 11 12 mp5 mq5 _ HK5.out.2 HK5.out.1 (by decide) (by decide) (by decide) (by decide) HM5p.out HM5q.out HV5.out.drew).mono ?_
            rintro e' W6 ⟨rfl, hG⟩
            have HG6 := Lib.hid (HG5.out.more ⟨hG.grown.os, hG.grown.tape, hG.grown.output, hG.grown.size, hG.grown.block⟩)
            have HV6' := Lib.hid hG.own
            refine ⟨_, rfl, SS5.out _ HG6.out, ?_⟩
            clear hG
            (try simp only [Act.put, List.setIfInBounds_toArray, List.set_cons_zero, List.set_cons_succ])
            refine M_nil ?_
            try dsimp only
            obtain ⟨L6, hL6⟩ : ∃ L, L = mixN L5 1 6 11 12 mp5 mq5 := ⟨_, rfl⟩
            rw [← hL6] at HV6' HN5
            have HV6 := HV6'
            have HK6 := Lib.hid (show All32 L6 ∧ L6.length = 16 by rw [hL6]; exact ⟨mixN_ok HK5.out.1 _ _ _ _ _ _, (mixN_len _ _ _ _ _ _ _).trans HK5.out.2⟩)
            clear hL6 hp5l hq5l hp50 hq50 HV6'
            obtain ⟨p6, hp6⟩ : ∃ p, p = g32 (zrow k) 12 := ⟨_, rfl⟩
            obtain ⟨q6, hq6⟩ : ∃ p, p = g32 (zrow k) 13 := ⟨_, rfl⟩
            obtain ⟨mp6, hmp6⟩ : ∃ p, p = g32 M p6 := ⟨_, rfl⟩
            obtain ⟨mq6, hmq6⟩ : ∃ p, p = g32 M q6 := ⟨_, rfl⟩
            have hp6l : (p6 : Int) < 16 := by have := HZL.out 12 (by decide); omega
            have hq6l : (q6 : Int) < 16 := by have := HZL.out 13 (by decide); omega
            have hp60 : (0 : Int) ≤ (p6 : Int) := by omega
            have hq60 : (0 : Int) ≤ (q6 : Int) := by omega
            have SS6 := Lib.hid (show ∀ W, W0.grownBy W (some gv) → (fun W => W.cell? ⟨wz, 12, none⟩ = some (.int .i64 (p6 : Int)) ∧ W.cell? ⟨wz, 13, none⟩ = some (.int .i64 (q6 : Int)) ∧ W.cell? ⟨gm, p6, none⟩ = some (.int .u32 (mp6 : Int)) ∧ W.cell? ⟨gm, q6, none⟩ = some (.int .u32 (mq6 : Int))) W from fun W hW => by
              have h1 := HZC.out W hW 12 (by decide)
              have h2 := HZC.out W hW 13 (by decide)
              rw [← hp6, ← hmp6] at h1
              rw [← hq6, ← hmq6] at h2
              exact ⟨h1.1, h2.1, h1.2, h2.2⟩)
            have HM6p := Lib.hid (show mp6 < 4294967296 by rw [hmp6]; exact HM32.out _)
            have HM6q := Lib.hid (show mq6 < 4294967296 by rw [hmq6]; exact HM32.out _)
            have HN6 := Lib.hid (show mixN L6 2 7 8 13 mp6 mq6 = mixN L6 2 7 8 13 (g32 M (g32 (zrow k) 12)) (g32 M (g32 (zrow k) 13)) by rw [hmp6, hmq6, hp6, hq6])
            clear hp6 hq6 hmp6 hmq6
            go_wp2_with fail
            refine wp_region_M [0, 1, 2, 3, 4, 5, 6, 7, 8, 9, 10, 11, 12, 13] [13] (fun W => W.cell? ⟨wz, 12, none⟩ = some (.int .i64 (p6 : Int)) ∧ W.cell? ⟨wz, 13, none⟩ = some (.int .i64 (q6 : Int)) ∧ W.cell? ⟨gm, p6, none⟩ = some (.int .u32 (mp6 : Int)) ∧ W.cell? ⟨gm, q6, none⟩ = some (.int .u32 (mq6 : Int))) (by kernel_rfl) (by kernel_rfl) (SS6.out _ ⟨HG6.out.os, HG6.out.tape, HG6.out.output, HG6.out.size, HG6.out.block⟩) ?_
            iterate 13 (refine M_pure (by rfl) (by rfl) ?_; apply Exists.intro; apply And.intro; (case left => (intro w hSw; (try dsimp only at hSw); go_simp; try with_reducible rfl)); (try simp only [Act.put, List.setIfInBounds_toArray, List.set_cons_zero, List.set_cons_succ]))
            (refine M_call (by rfl) (by rfl) ?_; apply Exists.intro; apply Exists.intro; apply And.intro; (case left => (go_simp; first | exact ⟨rfl, rfl⟩ | rfl)))
            refine (refg_any wl.heap.size gv capv L6 2 7 8 13 mp6 mq6 _ HK6.out.2 HK6.out.1 (by decide) (by decide) (by decide) (by decide) HM6p.out HM6q.out HV6.out.drew).mono ?_
            rintro e' W7 ⟨rfl, hG⟩
            have HG7 := Lib.hid (HG6.out.more ⟨hG.grown.os, hG.grown.tape, hG.grown.output, hG.grown.size, hG.grown.block⟩)
            have HV7' := Lib.hid hG.own
            refine ⟨_, rfl, SS6.out _ HG7.out, ?_⟩
            clear hG
            (try simp only [Act.put, List.setIfInBounds_toArray, List.set_cons_zero, List.set_cons_succ])
            refine M_nil ?_
            try dsimp only
            obtain ⟨L7, hL7⟩ : ∃ L, L = mixN L6 2 7 8 13 mp6 mq6 := ⟨_, rfl⟩
            rw [← hL7] at HV7' HN6
            have HV7 := HV7'
            have HK7 := Lib.hid (show All32 L7 ∧ L7.length = 16 by rw [hL7]; exact ⟨mixN_ok HK6.out.1 _ _ _ _ _ _, (mixN_len _ _ _ _ _ _ _).trans HK6.out.2⟩)
            clear hL7 hp6l hq6l hp60 hq60 HV7'
            obtain ⟨p7, hp7⟩ : ∃ p, p = g32 (zrow k) 14 := ⟨_, rfl⟩
            obtain ⟨q7, hq7⟩ : ∃ p, p = g32 (zrow k) 15 := ⟨_, rfl⟩
            obtain ⟨mp7, hmp7⟩ : ∃ p, p = g32 M p7 := ⟨_, rfl⟩
            obtain ⟨mq7, hmq7⟩ : ∃ p, p = g32 M q7 := ⟨_, rfl⟩
            have hp7l : (p7 : Int) < 16 := by have := HZL.out 14 (by decide); omega
            have hq7l : (q7 : Int) < 16 := by have := HZL.out 15 (by decide); omega
            have hp70 : (0 : Int) ≤ (p7 : Int) := by omega
            have hq70 : (0 : Int) ≤ (q7 : Int) := by omega
            have SS7 := Lib.hid (show ∀ W, W0.grownBy W (some gv) → (fun W => W.cell? ⟨wz, 14, none⟩ = some (.int .i64 (p7 : Int)) ∧ W.cell? ⟨wz, 15, none⟩ = some (.int .i64 (q7 : Int)) ∧ W.cell? ⟨gm, p7, none⟩ = some (.int .u32 (mp7 : Int)) ∧ W.cell? ⟨gm, q7, none⟩ = some (.int .u32 (mq7 : Int))) W from fun W hW => by
              have h1 := HZC.out W hW 14 (by decide)
              have h2 := HZC.out W hW 15 (by decide)
              rw [← hp7, ← hmp7] at h1
              rw [← hq7, ← hmq7] at h2
              exact ⟨h1.1, h2.1, h1.2, h2.2⟩)
            have HM7p := Lib.hid (show mp7 < 4294967296 by rw [hmp7]; exact HM32.out _)
            have HM7q := Lib.hid (show mq7 < 4294967296 by rw [hmq7]; exact HM32.out _)
            have HN7 := Lib.hid (show mixN L7 3 4 9 14 mp7 mq7 = mixN L7 3 4 9 14 (g32 M (g32 (zrow k) 14)) (g32 M (g32 (zrow k) 15)) by rw [hmp7, hmq7, hp7, hq7])
            clear hp7 hq7 hmp7 hmq7
            go_wp2_with fail
            refine wp_region_M [0, 1, 2, 3, 4, 5, 6, 7, 8, 9, 10, 11, 12, 13] [13] (fun W => W.cell? ⟨wz, 14, none⟩ = some (.int .i64 (p7 : Int)) ∧ W.cell? ⟨wz, 15, none⟩ = some (.int .i64 (q7 : Int)) ∧ W.cell? ⟨gm, p7, none⟩ = some (.int .u32 (mp7 : Int)) ∧ W.cell? ⟨gm, q7, none⟩ = some (.int .u32 (mq7 : Int))) (by kernel_rfl) (by kernel_rfl) (SS7.out _ ⟨HG7.out.os, HG7.out.tape, HG7.out.output, HG7.out.size, HG7.out.block⟩) ?_
            iterate 13 (refine M_pure (by rfl) (by rfl) ?_; apply Exists.intro; apply And.intro; (case left => (intro w hSw; (try dsimp only at hSw); go_simp; try with_reducible rfl)); (try simp only [Act.put, List.setIfInBounds_toArray, List.set_cons_zero, List.set_cons_succ]))
            (refine M_call (by rfl) (by rfl) ?_; apply Exists.intro; apply Exists.intro; apply And.intro; (case left => (go_simp; first | exact ⟨rfl, rfl⟩ | rfl)))
            refine (refg_any wl.heap.size gv capv L7 3 4 9 14 mp7 mq7 _ HK7.out.2 HK7.out.1 (by decide) (by decide) (by decide) (by decide) HM7p.out HM7q.out HV7.out.drew).mono ?_
            rintro e' W8 ⟨rfl, hG⟩
            have HG8 := Lib.hid (HG7.out.more ⟨hG.grown.os, hG.grown.tape, hG.grown.output, hG.grown.size, hG.grown.block⟩)
            have HV8' := Lib.hid hG.own
            refine ⟨_, rfl, SS7.out _ HG8.out, ?_⟩
            clear hG
            (try simp only [Act.put, List.setIfInBounds_toArray, List.set_cons_zero, List.set_cons_succ])
            refine M_nil ?_
            try dsimp only
            obtain ⟨L8, hL8⟩ : ∃ L, L = mixN L7 3 4 9 14 mp7 mq7 := ⟨_, rfl⟩
            rw [← hL8] at HV8' HN7
            have HV8 := HV8'
            have HK8 := Lib.hid (show All32 L8 ∧ L8.length = 16 by rw [hL8]; exact ⟨mixN_ok HK7.out.1 _ _ _ _ _ _, (mixN_len _ _ _ _ _ _ _).trans HK7.out.2⟩)
            clear hL8 hp7l hq7l hp70 hq70 HV8'
            have HRN := Lib.hid (show rounds M (k + 1) V = L8 by rw [HN7.out, HN6.out, HN5.out, HN4.out, HN3.out, HN2.out, HN1.out, HN0.out, HL0.out]; rfl)
            go_wp2_with fail
            go_roundw
            case rel => exact ⟨k + 1, by omega, by go_num, by rw [HRN.out]; exact HV8.out, HGW.out.more HG8.out⟩
            case measure => simp [intOf]; omega
          · obtain rfl : k = 10 := by omega
            obtain ⟨wq, rfl⟩ : ∃ wq : World, wq = wr := ⟨_, rfl⟩
            obtain ⟨R, hR⟩ : ∃ R, R = rounds M 10 V := ⟨_, rfl⟩
            rw [← hR] at ho
            have hr0 := rounds_ok (m := M) 10 V HV32.out
            rw [← hR, HVL.out] at hr0
            have HR := Lib.hid hR
            have HR0 := Lib.hid hr0
            have hgv : gv < wq.heap.size := Nat.lt_of_lt_of_le hgv3 hg.size
            have hgq : gh < wq.heap.size := Nat.lt_of_lt_of_le hgh3 hg.size
            have hHq := HH3.out.kept hg (.inr (by simp [Value.ownBlock]; omega))
            have HBQ := Lib.hid (HB3.out.grown hg HB3.out.size (fun j hj => by simp at hj; omega))
            have HCF := Lib.hid (show ∀ W, Below wq.heap.size wq W → ∀ j, j < 8 → W.cell? ⟨gh, j, none⟩ = some (.int .u32 (g32 H j : Nat)) ∧ W.cell? ⟨gv, j, none⟩ = some (.int .u32 (g32 R j : Nat)) ∧ W.cell? ⟨gv, j + 8, none⟩ = some (.int .u32 (g32 R (j + 8) : Nat)) from by
              intro W hW j hj
              have h1 := own_below hHq hW
              have h2 := own_below ho hW
              rw [← HL.out] at h1
              rw [← hr0.2] at h2
              exact ⟨v32_cell h1 (by rw [HL.out]; exact hj), v32_cell h2 (by rw [hr0.2]; omega), v32_cell h2 (by rw [hr0.2]; omega)⟩)
            clear hR hr0 ho hg hHq hk hlt
            go_wp2_with fail
            go_loopw [13, 14] (fun v i wr => ∃ k : Nat, k ≤ 8 ∧ i = .int .i64 (k : Int) ∧ wr.ownsRow wq.heap.size 44 1 v k (v32 (outR H R k)) ∧ Below wq.heap.size wq wr) (fun _ i _ => 8 - (intOf i).toNat)
            case atStart => exact ⟨0, by omega, rfl, World.ownsRow_nil _ _ _ _, Below.refl _ _⟩
            case round =>
              obtain ⟨k, hk, rfl, ho, hb⟩ := hrel
              have HO := Lib.hid ho
              have HB := Lib.hid hb
              have hsz := hb.size
              clear ho hb
              by_cases hlt : k < 8
              · have hk0 : (0 : Int) ≤ (k : Int) := by omega
                have hki : (k : Int) < 8 := by omega
                obtain ⟨p, hp⟩ : ∃ p : Nat, p = k + 8 := ⟨_, rfl⟩
                have e1 : (k : Int) + 8 = (p : Int) := by omega
                have e2 : IntKind.i64.wrap (p : Int) = (p : Int) := by rw [IntKind.wrap_i64]; omega
                have hp0 : (0 : Int) ≤ (p : Int) := by omega
                have hpi : (p : Int) < 16 := by omega
                have hki2 : (k : Int) < 16 := by omega
                obtain ⟨x1, hx1⟩ : ∃ x, x = g32 H k := ⟨_, rfl⟩
                obtain ⟨x2, hx2⟩ : ∃ x, x = g32 R k := ⟨_, rfl⟩
                obtain ⟨x3, hx3⟩ : ∃ x, x = g32 R p := ⟨_, rfl⟩
                obtain ⟨y1, hy1⟩ : ∃ y, y = x1 ^^^ x2 := ⟨_, rfl⟩
                obtain ⟨y2, hy2⟩ : ∃ y, y = x1 ^^^ x2 ^^^ x3 := ⟨_, rfl⟩
                have hl1 : x1 < 4294967296 := by rw [hx1]; exact H32.out _
                have hl2 : x2 < 4294967296 := by rw [hx2]; exact HR0.out.1 _
                have hl3 : x3 < 4294967296 := by rw [hx3]; exact HR0.out.1 _
                have e3 : bits .xor .u32 (x1 : Int) (x2 : Int) = (y1 : Int) := by rw [hy1]; exact bxor32 _ _ hl1 hl2
                have e4 : bits .xor .u32 (y1 : Int) (x3 : Int) = (y2 : Int) := by rw [hy2, ← hy1]; exact bxor32 _ _ (by rw [hy1]; exact Nat.xor_lt_two_pow (n := 32) hl1 hl2) hl3
                have HOR := Lib.hid (show v32 (outR H R (k + 1)) = v32 (outR H R k) ++ [.int .u32 (y2 : Int)] by rw [outR_succ, v32_append, hy2, hx1, hx2, hx3, hp]; rfl)
                have HS := Lib.hid (show ∀ W, Below wq.heap.size wq W → (fun W => W.cell? ⟨gh, k, none⟩ = some (.int .u32 (x1 : Int)) ∧ W.cell? ⟨gv, k, none⟩ = some (.int .u32 (x2 : Int)) ∧ W.cell? ⟨gv, p, none⟩ = some (.int .u32 (x3 : Int))) W from fun W hW => by
                  have := HCF.out W hW k hlt
                  rw [hx1, hx2, hx3, hp]
                  exact this)
                clear hx1 hx2 hx3 hy1 hy2 hl1 hl2 hl3 hp
                go_wp2_with fail
                refine wp_region_M [0, 1, 2, 3, 4, 5, 6, 7, 8, 9, 10, 11, 12, 13, 14, 15, 16, 17, 18] [16, 17] (fun W => W.cell? ⟨gh, k, none⟩ = some (.int .u32 (x1 : Int)) ∧ W.cell? ⟨gv, k, none⟩ = some (.int .u32 (x2 : Int)) ∧ W.cell? ⟨gv, p, none⟩ = some (.int .u32 (x3 : Int))) (by kernel_rfl) (by kernel_rfl) (HS.out _ HB.out.drew) ?_
                iterate 16 (refine M_pure (by rfl) (by rfl) ?_; apply Exists.intro; apply And.intro; (case left => (intro w hSw; (try dsimp only at hSw); go_simp; try with_reducible rfl)); (try simp only [Act.put, List.setIfInBounds_toArray, List.set_cons_zero, List.set_cons_succ]))
                refine M_do (by rfl) (by rfl) ⟨.slice (some ⟨wr.heap.size, 0, none⟩) 1 1, wr.drew.alloc (.cells #[.int .u32 (y2 : Int)] 44), (by go_simp), HS.out _ (HB.out.drew.alloc hsz _), ?_⟩
                (try simp only [Act.put, List.setIfInBounds_toArray, List.set_cons_zero, List.set_cons_succ])
                refine M_append (by rfl) (by rfl) (.tmp 189) (.tmp 205) 47 rfl wq.heap.size 44 i0 (.int .u32 0) 1 4 Tryd.underlying47 ti0 ti1 ti2 ti3 rfl (by decide) u13 k (v32 (outR H R k)) rfl (HO.out.drew.alloc _) ⟨wr.heap.size, 0, none⟩ 1 1 [.int .u32 (y2 : Int)] rfl rfl (new_cells _ rfl _ _) (by intro u hu; simp at hu; subst hu; rfl) (by unfold maxLen; omega) (by omega) (by simp; omega) ?_
                intro vn wn hown2 hg2 hat2
                have hBN := (HB.out.drew.alloc hsz (.cells #[.int .u32 (y2 : Int)] 44)).grown hg2 (by simp; omega) (fun j hj => (HO.out.lt j hj).1)
                refine ⟨HS.out _ hBN, ?_⟩
                have HBN := Lib.hid hBN
                have HON := Lib.hid hown2
                clear hown2 hg2 hat2 hBN
                (try simp only [Act.put, List.setIfInBounds_toArray, List.set_cons_zero, List.set_cons_succ])
                iterate 1 (refine M_pure (by rfl) (by rfl) ?_; apply Exists.intro; apply And.intro; (case left => (intro w hSw; (try dsimp only at hSw); go_simp; try with_reducible rfl)); (try simp only [Act.put, List.setIfInBounds_toArray, List.set_cons_zero, List.set_cons_succ]))
                refine M_nil ?_
                try dsimp only
                go_wp2
                go_roundw
                case rel => first | exact ⟨k + 1, by omega, by go_num, by rw [HOR.out]; exact HON.out, HBN.out⟩ | ((repeat apply Exists.intro); exact ⟨⟨k + 1, by omega, by go_num, by rw [HOR.out]; exact HON.out, HBN.out⟩, rfl⟩)
                case measure => simp [intOf]; omega
              · obtain rfl : k = 8 := by omega
                obtain ⟨go, capo, hvo, hgo0, hgo1⟩ := own_slice HO.out (by decide)
                subst hvo
                have hzq := HBQ.out.size
                have HRES := Lib.hid (show World.ownsRow wr w.heap.size 44 1 (.slice (some ⟨go, 0, none⟩) 8 capo) 8 (v32 (compressN H ((s.data.toList.drop a).take 64) (min (a + 64) s.size) (decide (s.size ≤ a + 64)))) by
                  rw [HES.out, ← HE.out]
                  unfold compressN
                  rw [← HM2.out, ← HVE.out, ← HR.out, fin8_range HL.out]
                  exact own_mono HO.out hzq)
                go_wp2
                go_ret
                exact ⟨go, capo, rfl, HRES.out, HBQ.out.trans (HB.out.mono hzq)⟩

end Go.Proofs.YtnfpahanbnidpaaDoor
