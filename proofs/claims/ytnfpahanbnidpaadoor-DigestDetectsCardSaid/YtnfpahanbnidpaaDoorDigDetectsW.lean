/- DigestDetects: the walks. -/
import Derived.Test.YtnfpahanbnidpaaDoorDigDetects
set_option linter.unusedSimpArgs false
set_option linter.unusedVariables false
namespace Go.Proofs.YtnfpahanbnidpaaDoor
open Go.RowKit

def FlipEnd (s : ByteArray) (bit : Nat) (w : World) (e : Ending) (w' : World) : Prop := ∃ T : ByteArray, e = .returned (.string T) ∧ Flips s.data.toList bit 16 T.data.toList ∧ Below w.heap.size w w'
/-- The block of a string's bytes, some of them changed. -/
structure BlkIs (w : World) (g : Nat) (l : List UInt8) : Prop where
  cell : ∀ k (hk : k < l.length), w.cell? ⟨g, k, none⟩ = some (.int .u8 ((l[k]'hk).toNat : Int))
  froz : ∀ k (hk : k < l.length), w.frozen? ⟨g, k, none⟩ = false
theorem BlkIs.drew {w : World} {g : Nat} {l : List UInt8} (h : BlkIs w g l) : BlkIs w.drew g l := ⟨h.cell, h.froz⟩
theorem BlkIs.set_ {w : World} {g : Nat} {l : List UInt8} (h : BlkIs w g l) (j : Nat) (hj : j < l.length) (c : UInt8) : BlkIs (w.setCell ⟨g, j, none⟩ (.int .u8 (c.toNat : Int))) g (l.set j c) := by
  refine ⟨fun k hk => ?_, fun k hk => ?_⟩
  · have hk' : k < l.length := by simpa using hk
    by_cases e : j = k
    · subst e
      rw [World.cell?_setCell_same _ _ _ (h.cell j hj)]
      simp
    · rw [World.cell?_setCell_other _ _ _ _ (by intro h; injection h with _ h2; exact e h2), h.cell k hk']
      simp [e]
  · rw [World.frozen?_setCell]
    exact h.froz k (by simpa using hk)
theorem shl_one (m : Nat) (hm : m < 8) : Op.shift BinOp.shl IntKind.u8 1 IntKind.i64 (m : Int) = pure (.int .u8 ((UInt8.ofNat (2 ^ m)).toNat : Int)) := by
  have : m = 0 ∨ m = 1 ∨ m = 2 ∨ m = 3 ∨ m = 4 ∨ m = 5 ∨ m = 6 ∨ m = 7 := by omega
  rcases this with rfl | rfl | rfl | rfl | rfl | rfl | rfl | rfl <;> rfl
theorem two_pow_u8 (m : Nat) (hm : m < 8) : (UInt8.ofNat (2 ^ m)).toNat = 2 ^ m := by
  have : m = 0 ∨ m = 1 ∨ m = 2 ∨ m = 3 ∨ m = 4 ∨ m = 5 ∨ m = 6 ∨ m = 7 := by omega
  rcases this with rfl | rfl | rfl | rfl | rfl | rfl | rfl | rfl <;> rfl

set_option maxHeartbeats 1500000 in
set_option maxRecDepth 100000 in
theorem flipped_any (s : ByteArray) (bit : Nat) (pattern : Int) (w : World) (hs : s.size ≤ 2000) (hbit : bit < 8 * s.size) :
    Calls Tryd.prog 12 #[.string s, .int .i64 (bit : Int), .int .i64 pattern] w (FlipEnd s bit w) := by
  have hcv := fun w => run_bytes_of_string (P := Tryd.prog) w 9 30 5 s Tryd.underlying9 Tryd.underlying30 Tryd.underlying5
  go_enter Tryd.func12, Tryd.ntmps12
  go_wp2_with fail
  obtain ⟨W0, hW0⟩ : ∃ W0, W0 = (w.alloc (.cells (bytesRow s (grownCap w s.size 0 5)) 5 ((bytesRow s (grownCap w s.size 0 5)).size, (bytesRow s (grownCap w s.size 0 5)).size + 1))).drew := ⟨_, rfl⟩
  rw [← hW0]
  have hsz : s.size ≤ (bytesRow s (grownCap w s.size 0 5)).size := by simp [bytesRow]
  have HB0 := Lib.hid (show BlkIs W0 w.heap.size s.data.toList from by
    rw [hW0]
    refine ⟨fun k hk => ?_, fun k hk => ?_⟩
    · show (w.alloc _).cell? _ = _
      rw [World.cell?_alloc_mark]
      exact bytesRow_at s _ k (by simpa using hk)
    · show (w.alloc _).frozen? _ = _
      rw [World.frozen?_alloc_mark]
      have : k < s.size := by simpa using hk
      simp
      omega)
  have HBW := Lib.hid (show Below w.heap.size w W0 by rw [hW0]; exact ((Below.refl _ _).alloc (Nat.le_refl _) _).drew)
  generalize grownCap w s.size 0 5 = cap
  clear hcv hW0 hsz
  go_loopw [8] (fun i wr => ∃ (k : Nat) (l : List UInt8), k ≤ 16 ∧ i = .int .i64 (k : Int) ∧ BlkIs wr w.heap.size l ∧ Flips s.data.toList bit k l ∧ Below w.heap.size w wr) (fun i _ => 16 - (intOf i).toNat)
  case atStart => exact ⟨0, _, by omega, rfl, HB0.out, Flips.start _ _, HBW.out⟩
  case round =>
    obtain ⟨k, l, hk, rfl, hB, hF, hbw⟩ := hrel
    have HB := Lib.hid hB
    have HF := Lib.hid hF
    have HW := Lib.hid hbw
    have hll : l.length = s.size := by rw [hF.1]; simp
    have hzw := hbw.size
    clear hB hF hbw
    by_cases hlt : k < 16
    · have hk0 : (0 : Int) ≤ (k : Int) := by omega
      have hki : (k : Int) < 16 := by omega
      obtain ⟨a, ha⟩ : ∃ a, a = bit + k := ⟨_, rfl⟩
      have hw' : (bit : Int) + (k : Int) = (a : Int) := by omega
      have hw'' : IntKind.i64.wrap (a : Int) = (a : Int) := by rw [IntKind.wrap_i64]; omega
      by_cases hy : bits .and .i64 (pattern / 2 ^ k) 1 = 1
      · by_cases hat : a < 8 * s.size
        · have hati : (a : Int) < 8 * (s.size : Int) := by omega
          obtain ⟨j, hj⟩ : ∃ j, j = a / 8 := ⟨_, rfl⟩
          obtain ⟨m, hm⟩ : ∃ m, m = a % 8 := ⟨_, rfl⟩
          have hjl : j < l.length := by omega
          have ej : (a : Int) / 8 = (j : Int) := by omega
          have em : (a : Int) % 8 = (m : Int) := by omega
          have hj0 : (0 : Int) ≤ (j : Int) := by omega
          have hji : (j : Int) < (s.size : Int) := by omega
          have hjs : j < s.size := by omega
          have c0 := HB.out.drew.cell j hjl
          have f0 := HB.out.drew.froz j hjl
          have es := shl_one m (by omega)
          obtain ⟨d, hd⟩ : ∃ d : UInt8, d = UInt8.ofNat (2 ^ m) := ⟨_, rfl⟩
          rw [← hd] at es
          have hdt : d.toNat = 2 ^ ((bit + k) % 8) := by rw [hd, two_pow_u8 m (by omega), hm, ha]
          obtain ⟨lj, hlj⟩ : ∃ c : UInt8, c = l[j]'hjl := ⟨_, rfl⟩
          rw [← hlj] at c0
          obtain ⟨q, hq⟩ : ∃ q : Nat, q = (lj ^^^ d).toNat := ⟨_, rfl⟩
          have ex : bits .xor .u8 (lj.toNat : Int) (d.toNat : Int) = (q : Int) := by rw [hq]; exact bxor8 _ _
          have HT := Lib.hid (show BlkIs (wr.drew.setCell ⟨w.heap.size, j, none⟩ (.int .u8 (q : Int))) w.heap.size (l.set j (lj ^^^ d)) by rw [hq]; exact HB.out.drew.set_ j hjl _)
          have HFT := Lib.hid (show Flips s.data.toList bit (k + 1) (l.set j (lj ^^^ d)) by
            have h1 : j = (bit + k) / 8 := by omega
            subst h1
            rw [hlj]
            exact HF.out.turn hjl d hdt)
          have HWT := Lib.hid (show Below w.heap.size w (wr.drew.setCell ⟨w.heap.size, j, none⟩ (.int .u8 (q : Int))) from HW.out.drew.setCell (p := ⟨w.heap.size, j, none⟩) (Nat.le_refl _) _)
          have hwj : IntKind.i64.wrap (j : Int) = (j : Int) := by rw [IntKind.wrap_i64]; omega
          have em2 : (a : Int).tmod 8 = (m : Int) := by rw [Int.tmod_eq_emod_of_nonneg (by omega)]; exact em
          have ed2 : IntKind.u8.wrap ((2 : Int) ^ m) = (d.toNat : Int) := by
            have hm8 : m = 0 ∨ m = 1 ∨ m = 2 ∨ m = 3 ∨ m = 4 ∨ m = 5 ∨ m = 6 ∨ m = 7 := by omega
            rw [hd]
            rcases hm8 with h | h | h | h | h | h | h | h <;> (rw [h]; rfl)
          clear hj hm ha hd hdt hlj hq hll
          go_wp2_with fail
          refine wp_region_M [0, 1, 2, 3, 4, 5, 6, 8, 9, 10, 7, 11, 12, 13] [7, 13] (fun _ => True) (by kernel_rfl) (by kernel_rfl) trivial ?_
          iterate 10 (refine M_pure (by rfl) (by rfl) ?_; apply Exists.intro; apply And.intro; (case left => (intro w hSw; (try dsimp only at hSw); go_simp; try with_reducible rfl)); (try simp only [Act.put, List.setIfInBounds_toArray, List.set_cons_zero, List.set_cons_succ]))
          refine M_do (by rfl) (by rfl) ⟨.int .u8 (lj.toNat : Int), wr.drew, (by go_simp), trivial, ?_⟩
          (try simp only [Act.put, List.setIfInBounds_toArray, List.set_cons_zero, List.set_cons_succ])
          iterate 2 (refine M_pure (by rfl) (by rfl) ?_; apply Exists.intro; apply And.intro; (case left => (intro w hSw; (try dsimp only at hSw); go_simp; try with_reducible rfl)); (try simp only [Act.put, List.setIfInBounds_toArray, List.set_cons_zero, List.set_cons_succ]))
          refine M_store (by rfl) (by rfl) ⟨wr.drew.setCell ⟨w.heap.size, j, none⟩ (.int .u8 (q : Int)), (by go_simp), trivial, ?_⟩
          (try simp only [Act.put, List.setIfInBounds_toArray, List.set_cons_zero, List.set_cons_succ])
          refine M_nil ?_
          try dsimp only
          generalize wr.drew.setCell ⟨w.heap.size, j, none⟩ (.int .u8 (q : Int)) = W at HT HWT ⊢
          go_wp2
          go_roundw
          case rel => exact ⟨k + 1, _, by omega, by go_num, HT.out, HFT.out, HWT.out⟩
          case measure => simp [intOf]; omega
        · have hati : decide ((a : Int) < 8 * (s.size : Int)) = false := by simp; omega
          clear ha
          go_wp2_with fail
          go_roundw
          case rel => exact ⟨k + 1, l, by omega, by go_num, HB.out, HF.out.skip, HW.out⟩
          case measure => simp [intOf]; omega
      · obtain ⟨y, hyy⟩ : ∃ y, bits .and .i64 (pattern / 2 ^ k) 1 = y := ⟨_, rfl⟩
        have hyb : (y == 1) = false := by rw [← hyy]; simpa using hy
        clear hy ha
        go_wp2_with fail
        go_roundw
        case rel => exact ⟨k + 1, l, by omega, by go_num, HB.out, HF.out.skip, HW.out⟩
        case measure => simp [intOf]; omega
    · obtain rfl : k = 16 := by omega
      have hcb := run_convert_bytes_back (P := Tryd.prog) wr 30 9 5 ⟨w.heap.size, 0, none⟩ cap l Tryd.underlying30 Tryd.underlying5 Tryd.underlying9 (by
        intro j hj
        have := HB.out.cell j hj
        rw [Go.WideShapes.add_plain]
        simpa using this)
      rw [hll] at hcb
      obtain ⟨TT, hTT⟩ : ∃ TT : ByteArray, TT = ⟨l.toArray⟩ := ⟨_, rfl⟩
      rw [← hTT] at hcb
      have HFT := Lib.hid (show Flips s.data.toList bit 16 TT.data.toList by rw [hTT]; simpa using HF.out)
      clear hTT hll
      go_wp2_with fail
      go_ret
      exact ⟨TT, rfl, HFT.out, HW.out⟩

set_option maxHeartbeats 1500000 in
set_option maxRecDepth 100000 in
theorem detects_any (s : ByteArray) (bit pattern : Int) (w : World) (hL : LaidAt w) : Calls Tryd.prog 4 #[.string s, .int .i64 bit, .int .i64 pattern] w fun e w' => e = .returned (.bool true) ∧ Below w.heap.size w w' := by
  have HL := Lib.hid hL
  clear hL
  go_enter Tryd.func4, Tryd.ntmps4
  go_wp2_with fail
  refine (small_any w HL.out).mono ?_
  rintro e w1 ⟨rfl, hb1⟩
  have B1 := Lib.hid hb1
  clear hb1
  by_cases hs : 2000 < s.size
  · have hsi : (2000 : Int) < (s.size : Int) := by omega
    go_wp2
    go_ret
    exact ⟨rfl, B1.out⟩
  have hsi : ¬ (2000 : Int) < (s.size : Int) := by omega
  have hss : s.size ≤ 2000 := by omega
  by_cases h0 : bit < 0
  · go_wp2
    go_ret
    exact ⟨rfl, B1.out⟩
  by_cases h8 : 8 * (s.size : Int) ≤ bit
  · go_wp2
    go_ret
    exact ⟨rfl, B1.out⟩
  obtain ⟨b, hb⟩ : ∃ b : Nat, bit = (b : Int) := ⟨bit.toNat, by omega⟩
  subst hb
  have hbl : b < 8 * s.size := by omega
  have h0' : ((b : Int) < 0) = False := by simp
  go_wp2_with fail
  refine (flipped_any s b pattern w1 hss hbl).mono ?_
  rintro e w2 ⟨TT, rfl, hF, hb2⟩
  have B2 := Lib.hid (B1.out.trans (hb2.mono B1.out.size))
  have hTs : TT.size ≤ 2000 := by have := hF.1; simp at this; omega
  have hlaw := flips_law hF (by simpa using hbl)
  clear hb2 hF
  by_cases hst : s = TT
  · subst hst
    clear hlaw
    go_wp2_with fail
    refine (crc_any s w2 (by omega)).mono ?_
    rintro e w3 ⟨rfl, hb3⟩
    have B3 := Lib.hid (B2.out.trans (hb3.mono B2.out.size))
    clear hb3
    go_wp2_with fail
    refine (crc_any s w3 (by omega)).mono ?_
    rintro e w4 ⟨rfl, hb4⟩
    have B4 := Lib.hid (B3.out.trans (hb4.mono B3.out.size))
    clear hb4
    go_wp2
    go_ret
    exact ⟨rfl, B4.out⟩
  · have hne : ¬ crcN s.data.toList = crcN TT.data.toList := fun h => hst (by
      have h2 := hlaw.2 h
      cases s with | mk a => cases TT with | mk b => simpa using h2)
    have hsl : (s.toList == TT.toList) = false := by
      have : s.toList ≠ TT.toList := fun h => hst (by
        rw [Go.ByteArray.toList_eq, Go.ByteArray.toList_eq] at h
        cases s with | mk a => cases TT with | mk b => simpa using h)
      simpa using this
    clear hlaw
    obtain ⟨n1, hn1⟩ : ∃ n, n = crcN s.data.toList := ⟨_, rfl⟩
    obtain ⟨n2, hn2⟩ : ∃ n, n = crcN TT.data.toList := ⟨_, rfl⟩
    rw [← hn1, ← hn2] at hne
    have hnb : decide (n1 = n2) = false := by simpa using hne
    have hni : ((n1 : Int) == (n2 : Int)) = false := by simp; omega
    have N1 := Lib.hid hn1
    have N2 := Lib.hid hn2
    clear hn1 hn2 hne
    go_wp2_with fail
    refine (crc_any s w2 (by omega)).mono ?_
    rintro e w3 ⟨rfl, hb3⟩
    rw [← N1.out]
    have B3 := Lib.hid (B2.out.trans (hb3.mono B2.out.size))
    clear hb3
    go_wp2_with fail
    refine (crc_any TT w3 (by omega)).mono ?_
    rintro e w4 ⟨rfl, hb4⟩
    rw [← N2.out]
    have B4 := Lib.hid (B3.out.trans (hb4.mono B3.out.size))
    clear hb4
    go_wp2
    go_ret
    exact ⟨rfl, B4.out⟩

end Go.Proofs.YtnfpahanbnidpaaDoor
