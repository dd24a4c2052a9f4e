/- The walks of the reference of layer 3: Unhex, Sum, Short. -/
import Derived.Test.YtnfpahanbnidpaaDoorDigRD
set_option linter.unusedSimpArgs false
set_option linter.unusedVariables false
namespace Go.Proofs.YtnfpahanbnidpaaDoor
open Go.RowKit

/-- The state of Sum's loop: j blocks are compressed. -/
def stN (l : List UInt8) (j : Nat) : List Nat := if 64 * j < l.length then chainN l j else finalN l
theorem stN_step (l : List UInt8) (j : Nat) (h : 64 * j < l.length ∨ j = 0) : compressN (chainN l j) ((l.drop (64 * j)).take 64) (min (64 * j + 64) l.length) (decide (l.length ≤ 64 * j + 64)) = stN l (j + 1) := by
  unfold stN
  by_cases h1 : 64 * (j + 1) < l.length
  · rw [if_pos h1, show min (64 * j + 64) l.length = 64 * (j + 1) by omega, show decide (l.length ≤ 64 * j + 64) = false by simp; omega]
    rfl
  · rw [if_neg h1, show min (64 * j + 64) l.length = l.length by omega, show decide (l.length ≤ 64 * j + 64) = true by simp; omega]
    unfold finalN
    rw [show (l.length - 1) / 64 = j by omega, List.take_of_length_le (by simp; omega)]
theorem stN_ok (l : List UInt8) (hl : l.length < 1000000) (j : Nat) : All32 (stN l j) ∧ (stN l j).length = 8 := by
  unfold stN
  split
  · exact chainN_ok l hl j (by omega)
  · exact finalN_ok l hl
theorem own_chain0 (w : World) : w.alloc (.cells (u32s firstN) 44) |>.ownsRow w.heap.size 44 1 (.slice (some ⟨w.heap.size, 0, none⟩) 8 8) 8 (v32 firstN) :=
  World.ownsRow_lit w (u32s firstN) 8 (Nat.le_refl _) (by decide) rfl
theorem outN_take (H : List Nat) (k : Nat) (h : k < H.length) : outN (H.take (k + 1)) = outN (H.take k) ++ bytes4 (g32 H k) := by
  unfold outN
  rw [List.take_succ_eq_append_getElem h, List.flatMap_append]
  congr 1
  unfold g32
  rw [List.getD_eq_getElem?_getD, List.getElem?_eq_getElem h]
  simp
theorem byteV_bytes4 (x : Nat) : byteV (bytes4 x) = [.int .u8 ((x % 256 : Nat) : Int), .int .u8 ((x / 256 % 256 : Nat) : Int), .int .u8 ((x / 65536 % 256 : Nat) : Int), .int .u8 ((x / 16777216 % 256 : Nat) : Int)] := by
  simp [byteV, bytes4]

set_option maxHeartbeats 2000000 in
set_option maxRecDepth 100000 in
theorem refsum_any (s : ByteArray) (w : World) (hs : s.size < 400000) :
    Calls Tryd.prog 16 #[.string s] w fun e w' => e = .returned (.string ⟨(sumN s.data.toList).toArray⟩) ∧ Below w.heap.size w w' := by
  obtain ⟨i0, ti0, ti1, ti2, ti3⟩ := info_parts info_byte
  have hsl : s.data.toList.length = s.size := by simp
  have HSL := Lib.hid hsl
  clear hsl
  have hx0 : bits .xor .u32 1779033703 16842784 = 1795745351 := by decide
  go_enter Tryd.func16, Tryd.ntmps16
  go_wp2_with fail
  refine (constants_any w).mono ?_
  rintro e w' ⟨rfl, rfl⟩
  have H0 := Lib.hid (own_chain0 w)
  have hw1z : (w.alloc (.cells (u32s firstN) 44)).heap.size = w.heap.size + 1 := by simp
  have HB0 := Lib.hid ((Below.refl w.heap.size w).alloc (Nat.le_refl _) (.cells (u32s firstN) 44))
  have HW1Z := Lib.hid hw1z
  generalize w.alloc (.cells (u32s firstN) 44) = w1 at H0 HB0 HW1Z hw1z ⊢
  have hz1 : w.heap.size < w1.heap.size := by omega
  clear hw1z
  have c0 : w1.cell? ⟨w.heap.size, 0, none⟩ = some (.int .u32 1779033703) := by
    have := H0.out.cellAt 0 (by decide)
    rw [this]
    rfl
  have f0 := H0.out.frozenAt 0
  have H1 := Lib.hid (show (w1.setCell ⟨w.heap.size, 0, none⟩ (.int .u32 1795745351)).ownsRow w.heap.size 44 1 (.slice (some ⟨w.heap.size, 0, none⟩) 8 8) 8 (v32 (chainN s.data.toList 0)) from (H0.out.stored 0 (.int .u32 1795745351)).1)
  have HB1 := Lib.hid (HB0.out.setCell (p := ⟨w.heap.size, 0, none⟩) (Nat.le_refl _) (.int .u32 1795745351))
  go_wp2_with fail
  obtain ⟨w2, hw2⟩ : ∃ w2, w2 = w1.setCell ⟨w.heap.size, 0, none⟩ (.int .u32 1795745351) := ⟨_, rfl⟩
  rw [← hw2] at H1 HB1
  rw [← hw2]
  have hz2 : w.heap.size < w2.heap.size := by rw [hw2]; simpa [World.setCell] using hz1
  clear hw2 c0 f0 hx0
  have hst0 := stN_step s.data.toList 0 (.inr rfl)
  rw [HSL.out] at hst0
  have HST0 := Lib.hid hst0
  clear hst0
  have hok0 := chainN_ok s.data.toList (by rw [HSL.out]; omega) 0 (by omega)
  have HOK0 := Lib.hid hok0
  clear hok0
  refine (refcomp_any w.heap.size w.heap.size 8 (chainN s.data.toList 0) s 0 w2 HOK0.out.2 HOK0.out.1 (by omega) (Nat.zero_le _) H1.out).mono ?_
  rintro e w3 ⟨g3, cap3, rfl, ho3, hb3⟩
  have HO3 := Lib.hid (show w3.ownsRow w2.heap.size 44 1 (.slice (some ⟨g3, 0, none⟩) 8 cap3) 8 (v32 (stN s.data.toList 1)) by
    have := ho3
    rw [show s.data.toList.drop 0 = s.data.toList.drop (64 * 0) from rfl, show (0 : Nat) + 64 = 64 * 0 + 64 from rfl, HST0.out] at this
    exact this)
  have HB3 := Lib.hid (HB1.out.trans (hb3.mono (Nat.le_of_lt hz2)))
  have hz3 := hb3.size
  clear ho3 hb3
  go_wp2_with fail
  go_loopw [3, 4] (fun v i wr => ∃ j g cap : Nat, 1 ≤ j ∧ (64 * (j - 1) < s.size ∨ j = 1) ∧ i = .int .i64 ((64 * j : Nat) : Int) ∧ v = .slice (some ⟨g, 0, none⟩) 8 cap ∧ wr.ownsRow w.heap.size 44 1 (.slice (some ⟨g, 0, none⟩) 8 cap) 8 (v32 (stN s.data.toList j)) ∧ Below w.heap.size w wr) (fun _ i _ => s.size + 64 - (intOf i).toNat)
  case atStart => exact ⟨1, g3, cap3, by omega, .inr rfl, rfl, rfl, own_mono HO3.out (Nat.le_of_lt hz2), HB3.out⟩
  case round =>
    obtain ⟨j, g, cap, hj, hj2, rfl, rfl, ho, hb⟩ := hrel
    have HO := Lib.hid ho
    have HB := Lib.hid hb
    have hzw := hb.size
    obtain ⟨a, ha⟩ : ∃ a, a = 64 * j := ⟨_, rfl⟩
    have hok := stN_ok s.data.toList (by rw [HSL.out]; omega) j
    have HOK := Lib.hid hok
    rw [← ha]
    have ha0 : (0 : Int) ≤ (a : Int) := by omega
    clear ho hb hok
    by_cases hlt : a < s.size
    · have hai : (a : Int) < (s.size : Int) := by omega
      obtain ⟨a2, ha2⟩ : ∃ a2, a2 = a + 64 := ⟨_, rfl⟩
      have e1 : (a : Int) + 64 = (a2 : Int) := by omega
      have e2 : IntKind.i64.wrap (a2 : Int) = (a2 : Int) := by rw [IntKind.wrap_i64]; omega
      have e3 : IntKind.i64.wrap ((a : Int) + 64) = (a2 : Int) := by rw [IntKind.wrap_i64]; omega
      have hst := stN_step s.data.toList j (.inl (by rw [HSL.out]; omega))
      rw [HSL.out, ← ha] at hst
      have HST := Lib.hid (show compressN (stN s.data.toList j) ((s.data.toList.drop a).take 64) (min (a + 64) s.size) (decide (s.size ≤ a + 64)) = stN s.data.toList (j + 1) by
        rw [show stN s.data.toList j = chainN s.data.toList j by unfold stN; rw [if_pos (by rw [HSL.out]; omega)]]
        exact hst)
      have HA := Lib.hid ha
      have HA2 := Lib.hid ha2
      clear hst ha ha2
      go_wp2_with fail
      refine (refcomp_any w.heap.size g cap (stN s.data.toList j) s a wr HOK.out.2 HOK.out.1 (by omega) (by omega) HO.out).mono ?_
      rintro e w4 ⟨g4, cap4, rfl, ho4, hb4⟩
      rw [HST.out] at ho4
      have HO4 := Lib.hid (own_mono ho4 hzw)
      have HB4 := Lib.hid (HB.out.trans (hb4.mono hzw))
      clear ho4 hb4
      go_wp2
      go_roundw
      case rel => exact ⟨j + 1, g4, cap4, by omega, .inl (by have := HA.out; omega), by have h1 := HA.out; have h2 := HA2.out; congr 1; omega, rfl, HO4.out, HB4.out⟩
      case measure =>
        have h1 := HA.out
        have h2 := HA2.out
        simp [intOf]
        omega
    · have hai : ¬ (a : Int) < (s.size : Int) := by omega
      have hfin : stN s.data.toList j = finalN s.data.toList := by unfold stN; rw [if_neg (by rw [HSL.out]; omega)]
      obtain ⟨H, hH⟩ : ∃ H, H = finalN s.data.toList := ⟨_, rfl⟩
      rw [← hH] at hfin
      have HHO := Lib.hid (show World.ownsRow wr w.heap.size 44 1 (.slice (some ⟨g, 0, none⟩) 8 cap) 8 (v32 H) by rw [← hfin]; exact HO.out)
      have HHK := Lib.hid (show All32 H ∧ H.length = 8 by rw [← hfin]; exact HOK.out)
      have HSUM := Lib.hid (show outN H = sumN s.data.toList by rw [hH]; rfl)
      obtain ⟨wq, rfl⟩ : ∃ wq : World, wq = wr := ⟨_, rfl⟩
      clear hfin hH ha hj2
      go_wp2_with fail
      go_loopw [5, 6] (fun v i wr => ∃ k : Nat, k ≤ 8 ∧ i = .int .i64 (k : Int) ∧ wr.ownsRow wq.heap.size 5 1 v (4 * k) (byteV (outN (H.take k))) ∧ Below wq.heap.size wq wr) (fun _ i _ => 8 - (intOf i).toNat)
      case atStart => exact ⟨0, by omega, rfl, World.ownsRow_nil _ _ _ _, Below.refl _ _⟩
      case round =>
        obtain ⟨k, hk, rfl, ho, hb⟩ := hrel
        have HOO := Lib.hid ho
        have HBB := Lib.hid hb
        have hzz := hb.size
        by_cases hk8 : k < 8
        · have hk0 : (0 : Int) ≤ (k : Int) := by omega
          have hki : (k : Int) < 8 := by omega
          have hown := own_below HHO.out hb
          rw [← HHK.out.2] at hown
          have hcell := v32_cell hown (i := k) (by rw [HHK.out.2]; exact hk8)
          obtain ⟨x, hx⟩ : ∃ x, x = g32 H k := ⟨_, rfl⟩
          rw [← hx] at hcell
          have hxl : x < 4294967296 := by rw [hx]; exact HHK.out.1 k
          obtain ⟨b0, hb0⟩ : ∃ b, b = x % 256 := ⟨_, rfl⟩
          obtain ⟨d1, hd1⟩ : ∃ b, b = x / 256 := ⟨_, rfl⟩
          obtain ⟨b1, hb1⟩ : ∃ b, b = x / 256 % 256 := ⟨_, rfl⟩
          obtain ⟨d2, hd2⟩ : ∃ b, b = x / 65536 := ⟨_, rfl⟩
          obtain ⟨b2, hb2⟩ : ∃ b, b = x / 65536 % 256 := ⟨_, rfl⟩
          obtain ⟨b3, hb3⟩ : ∃ b, b = x / 16777216 := ⟨_, rfl⟩
          have E0 : (x : Int) % 256 = (b0 : Int) := by omega
          have E1 : (x : Int) / 256 = (d1 : Int) := by omega
          have E2 : (d1 : Int) % 256 = (b1 : Int) := by omega
          have E3 : (x : Int) / 65536 = (d2 : Int) := by omega
          have E4 : (d2 : Int) % 256 = (b2 : Int) := by omega
          have E5 : (x : Int) / 16777216 = (b3 : Int) := by omega
          have W0 : IntKind.u8.wrap (b0 : Int) = (b0 : Int) := by rw [IntKind.wrap_u8]; omega
          have W1 : IntKind.u8.wrap (b1 : Int) = (b1 : Int) := by rw [IntKind.wrap_u8]; omega
          have W2 : IntKind.u8.wrap (b2 : Int) = (b2 : Int) := by rw [IntKind.wrap_u8]; omega
          have W3 : IntKind.u8.wrap (b3 : Int) = (b3 : Int) := by rw [IntKind.wrap_u8]; omega
          have W4 : (b3 : Int) % 256 = (b3 : Int) := by omega
          have hx0 : (0 : Int) ≤ (x : Int) := by omega
          have hd10 : (0 : Int) ≤ (d1 : Int) := by omega
          have hd20 : (0 : Int) ≤ (d2 : Int) := by omega
          have HV := Lib.hid (show byteV (outN (H.take (k + 1))) = byteV (outN (H.take k)) ++ [.int .u8 (b0 : Int), .int .u8 (b1 : Int), .int .u8 (b2 : Int), .int .u8 (b3 : Int)] by
            rw [outN_take H k (by rw [HHK.out.2]; exact hk8), byteV_append, ← hx, byteV_bytes4, hb0, hb1, hb2, hb3, Nat.mod_eq_of_lt (a := x / 16777216) (by omega)])
          clear hx hxl hb0 hd1 hb1 hd2 hb2 hb3 ho hb hown
          go_wp2_with (at_builtin; go_must (refine wpList_append_own _ rfl (.tmp 36) (.tmp 51) 30 rfl wq.heap.size 5 i0 (.int .u8 0) 1 1 Tryd.underlying30 ti0 ti1 ti2 ti3 rfl (by decide) u5 (4 * k) (byteV (outN (H.take k))) rfl (HOO.out.alloc _) ⟨wr.heap.size, 0, none⟩ 4 4 [.int .u8 (b0 : Int), .int .u8 (b1 : Int), .int .u8 (b2 : Int), .int .u8 (b3 : Int)] rfl rfl (new_cells _ rfl _ _) (by intro u hu; simp at hu; rcases hu with rfl | rfl | rfl | rfl <;> rfl) (by unfold maxLen; omega) (by omega) (by simp; omega) ?_))
          intro vn wn hown2 hg2 _
          have HON := Lib.hid hown2
          have HBN := Lib.hid ((HBB.out.alloc hzz (.cells #[.int .u8 (b0 : Int), .int .u8 (b1 : Int), .int .u8 (b2 : Int), .int .u8 (b3 : Int)] 5)).grown hg2 (by simp; omega) (fun j hj => (HOO.out.lt j hj).1))
          clear hown2 hg2
          go_wp2
          go_roundw
          case rel => first | exact ⟨k + 1, by omega, by go_num, by rw [HV.out]; exact HON.out, HBN.out⟩ | ((repeat apply Exists.intro); exact ⟨⟨k + 1, by omega, by go_num, by rw [HV.out]; exact HON.out, HBN.out⟩, rfl⟩)
          case measure => simp [intOf]; omega
        · obtain rfl : k = 8 := by omega
          have htk : H.take 8 = H := List.take_of_length_le (by rw [HHK.out.2]; exact Nat.le_refl _)
          have hcv := conv_own wr wq.heap.size u5 32 (sumN s.data.toList) (by have := HOO.out; rw [htk, HSUM.out] at this; exact this) (by rw [sumN_len _ (by rw [HSL.out]; omega)])
          obtain ⟨X, hX⟩ : ∃ X : ByteArray, X = ⟨(sumN s.data.toList).toArray⟩ := ⟨_, rfl⟩
          rw [← hX] at hcv
          have HX := Lib.hid hX
          have hzq := HB.out.size
          clear htk hX
          go_wp2_with fail
          go_ret
          exact ⟨by rw [← HX.out]; rfl, HB.out.trans (HBB.out.mono hzq)⟩

theorem short_fin (x c : Nat) : (x * 256 + c) / 16 = x * 16 + c / 16 := by omega
theorem w64_nat (n : Nat) (h : n < 1000) : wrap64 (n : Int) = (n : Int) := by unfold wrap64; omega
set_option maxHeartbeats 1000000 in
set_option maxRecDepth 100000 in
theorem refshort_any (s : ByteArray) (w : World) (hs : s.size < 400000) :
    Calls Tryd.prog 18 #[.string s] w fun e w' => e = .returned (.int .i64 (shortN s.data.toList : Nat)) ∧ Below w.heap.size w w' := by
  have hlen := sumN_len s.data.toList (by simp; omega)
  obtain ⟨X, hX⟩ : ∃ X : ByteArray, X = ⟨(sumN s.data.toList).toArray⟩ := ⟨_, rfl⟩
  have hXs : X.size = 32 := by rw [hX]; show (sumN s.data.toList).toArray.size = 32; simpa using hlen
  have HXS := Lib.hid hXs
  have HX := Lib.hid hX
  have HL := Lib.hid hlen
  have hxg : ∀ j (hj : j < (sumN s.data.toList).length) (hj' : j < X.size), (sumN s.data.toList)[j]'hj = X[j]'hj' := by
    intro j hj hj'
    subst hX
    rfl
  have HG := Lib.hid hxg
  clear hX hlen hxg hXs
  go_enter Tryd.func18, Tryd.ntmps18
  go_wp2_with fail
  refine (refsum_any s w hs).mono ?_
  rintro e w1 ⟨rfl, hb1⟩
  have B1 := Lib.hid hb1
  rw [← HX.out]
  clear hb1
  go_wp2_with fail
  go_loop [4, 5] (fun n i => ∃ k : Nat, k ≤ 7 ∧ i = .int .i64 (k : Int) ∧ n = .int .i64 (valN ((sumN s.data.toList).take k) : Nat)) (fun _ i => 7 - (intOf i).toNat)
  case atStart => exact ⟨0, by omega, rfl, rfl⟩
  case round =>
    obtain ⟨k, hk, rfl, rfl⟩ := hrel
    have hks : k < X.size := by have := HXS.out; omega
    have hki32 : (k : Int) < (X.size : Int) := by omega
    have hk0 : (0 : Int) ≤ (k : Int) := by omega
    have hll : k < (sumN s.data.toList).length := by rw [HL.out]; omega
    have hvt := valN_take hll
    rw [HG.out k hll hks] at hvt
    obtain ⟨c, hc⟩ : ∃ c, c = (X[k]'hks).toNat := ⟨_, rfl⟩
    have hcl := (X[k]'hks).toNat_lt
    rw [← hc] at hvt hcl
    have hcw : IntKind.i64.wrap ((X[k]'hks).toNat : Int) = (c : Int) := by rw [hc, IntKind.wrap_i64]; omega
    have hvl := valN_lt (sumN s.data.toList) k (by omega)
    have h256 : 256 ^ k ≤ 72057594037927936 := Nat.le_trans (Nat.pow_le_pow_right (by decide) (by omega : k ≤ 7)) (by decide)
    have h6 : k < 7 → 256 ^ k ≤ 281474976710656 := fun h => Nat.le_trans (Nat.pow_le_pow_right (by decide) (by omega : k ≤ 6)) (by decide)
    obtain ⟨x, hx⟩ : ∃ x, x = valN ((sumN s.data.toList).take k) := ⟨_, rfl⟩
    rw [← hx] at hvt hvl
    rw [← hx]
    have hx7 : x < 72057594037927936 := Nat.lt_of_lt_of_le hvl h256
    have hx6 : k < 7 → x < 281474976710656 := fun h => Nat.lt_of_lt_of_le hvl (h6 h)
    clear hvl h256 h6
    by_cases hlt : k < 7
    · have hki : (k : Int) < 7 := by omega
      have hx6' := hx6 hlt
      clear hx6
      obtain ⟨y, hy⟩ : ∃ y, y = x * 256 := ⟨_, rfl⟩
      obtain ⟨z, hz⟩ : ∃ z, z = y + c := ⟨_, rfl⟩
      have e1 : IntKind.i64.wrap ((x : Int) * 256) = (y : Int) := by rw [IntKind.wrap_i64]; omega
      have e2 : IntKind.i64.wrap ((y : Int) + (c : Int)) = (z : Int) := by rw [IntKind.wrap_i64]; omega
      have e3 : (x : Int) * 256 = (y : Int) := by omega
      have e4 : (y : Int) + (c : Int) = (z : Int) := by omega
      have e5 : IntKind.i64.wrap (y : Int) = (y : Int) := by rw [IntKind.wrap_i64]; omega
      have e6 : IntKind.i64.wrap (z : Int) = (z : Int) := by rw [IntKind.wrap_i64]; omega
      have HV := Lib.hid (show valN ((sumN s.data.toList).take (k + 1)) = z by rw [hvt, hz, hy])
      have w1' : wrap64 ((x : Int) * 256) = (y : Int) := by rw [e3]; unfold wrap64; omega
      have w2' : wrap64 (y : Int) = (y : Int) := by unfold wrap64; omega
      have w3' : wrap64 (z : Int) = (z : Int) := by unfold wrap64; omega
      have w4' : wrap64 ((y : Int) + (c : Int)) = (z : Int) := by rw [e4]; exact w3'
      clear hx hy hz hvt hx7 hx6' hc hcl hll
      go_wp2_with fail
      go_round
      case rel => exact ⟨k + 1, by omega, by go_num, by rw [HV.out]⟩
      case measure => simp [intOf]; omega
    · obtain rfl : k = 7 := by omega
      obtain ⟨y, hy⟩ : ∃ y, y = x * 16 := ⟨_, rfl⟩
      obtain ⟨d, hd⟩ : ∃ d, d = c / 16 := ⟨_, rfl⟩
      obtain ⟨z, hz⟩ : ∃ z, z = y + d := ⟨_, rfl⟩
      have e1 : IntKind.i64.wrap ((x : Int) * 16) = (y : Int) := by rw [IntKind.wrap_i64]; omega
      have e2 : (c : Int) / 16 = (d : Int) := by omega
      have e3 : (x : Int) * 16 = (y : Int) := by omega
      have e4 : (y : Int) + (d : Int) = (z : Int) := by omega
      have e5 : IntKind.i64.wrap (y : Int) = (y : Int) := by rw [IntKind.wrap_i64]; omega
      have e6 : IntKind.i64.wrap (z : Int) = (z : Int) := by rw [IntKind.wrap_i64]; omega
      have hc0 : (0 : Int) ≤ (c : Int) := by omega
      have w1' : wrap64 ((x : Int) * 16) = (y : Int) := by rw [e3]; unfold wrap64; omega
      have w2' : wrap64 (y : Int) = (y : Int) := by unfold wrap64; omega
      have w3' : wrap64 (z : Int) = (z : Int) := by unfold wrap64; omega
      have w4' : wrap64 ((y : Int) + (d : Int)) = (z : Int) := by rw [e4]; exact w3'
      have w5' : wrap64 (d : Int) = (d : Int) := w64_nat d (by rw [hd]; exact Nat.lt_of_lt_of_le (Nat.div_lt_of_lt_mul (show c < 16 * 16 from hcl)) (by decide))
      have hks7 : (7 : Int) < (X.size : Int) := by omega
      have HV := Lib.hid (show shortN s.data.toList = z by
        unfold shortN
        rw [hvt, hz, hy, hd]
        exact short_fin x c)
      clear hx hy hz hd hvt hx7 hx6 hc hcl hll
      go_wp2_with fail
      go_ret
      exact ⟨by rw [HV.out]; rfl, B1.out⟩

set_option maxHeartbeats 1500000 in
set_option maxRecDepth 100000 in
theorem refunhex_any (s : ByteArray) (w : World) (hs : s.size ≤ 1000000) :
    Calls Tryd.prog 14 #[.string s] w fun e w' => e = .returned (.tuple #[.string ⟨(unhexR s.data.toList).1.toArray⟩, .bool (unhexR s.data.toList).2]) ∧ Below w.heap.size w w' := by
  obtain ⟨i0, ti0, ti1, ti2, ti3⟩ := info_parts info_byte
  have hln : s.data.toList.length = s.size := by simp
  go_enter Tryd.func14, Tryd.ntmps14
  rcases (Nat.mod_two_eq_zero_or_one s.size).symm with hod | hev
  · have h1 : (s.size : Int) % 2 = 1 := by omega
    have HU := Lib.hid (show unhexR s.data.toList = ([], false) by unfold unhexR; rw [unhexL_odd _ (by rw [hln]; exact hod)])
    clear hln hod
    go_wp2_with fail
    go_ret2
    exact ⟨by rw [HU.out]; rfl, Below.refl _ _⟩
  · have h1 : (s.size : Int) % 2 = 0 := by omega
    have HEV := Lib.hid hev
    clear hev
    go_wp2_with fail
    go_loopw [4, 5] (fun v i wr => ∃ k : Nat, ∃ acc : List UInt8, k ≤ s.size ∧ k % 2 = 0 ∧ i = .int .i64 (k : Int) ∧ acc.length ≤ k ∧ unhexL s.data.toList = (unhexL (s.data.toList.drop k)).map (acc ++ ·) ∧ wr.ownsRow w.heap.size 5 1 v acc.length (byteV acc) ∧ Below w.heap.size w wr) (fun _ i _ => s.size - (intOf i).toNat)
    case atStart => exact ⟨0, [], Nat.zero_le _, rfl, rfl, Nat.le_refl _, by simp, World.ownsRow_nil _ _ _ _, Below.refl _ _⟩
    case round =>
      obtain ⟨k, acc, hk, hk2, rfl, hal, hun, ho, hb⟩ := hrel
      have hz := hb.size
      have hk0 : (0 : Int) ≤ (k : Int) := by omega
      have HO := Lib.hid ho
      have HB := Lib.hid hb
      have HK2 := Lib.hid hk2
      clear ho hb hk2
      by_cases hlt : k < s.size
      · have hlt1 : k + 1 < s.size := by have := HK2.out; have := HEV.out; omega
        have hkn : (k : Int) < (s.size : Int) := by omega
        obtain ⟨k1, hk1⟩ : ∃ q, q = k + 1 := ⟨_, rfl⟩
        have hlt1' : k1 < s.size := by omega
        have hk1i : (k1 : Int) < (s.size : Int) := by omega
        have hk10 : (0 : Int) ≤ (k1 : Int) := by omega
        have hw1 : IntKind.i64.wrap ((k : Int) + 1) = (k1 : Int) := by rw [IntKind.wrap_i64]; omega
        have hw2 : (k : Int) + 1 = (k1 : Int) := by omega
        have hw3 : IntKind.i64.wrap (k1 : Int) = (k1 : Int) := by rw [IntKind.wrap_i64]; omega
        have hdr := drop_two s.data.toList k (by omega)
        obtain ⟨a, ha⟩ : ∃ a, a = s[k]'hlt := ⟨_, rfl⟩
        obtain ⟨b, hbb⟩ : ∃ b, b = s[k + 1]'hlt1 := ⟨_, rfl⟩
        rw [show s.data.toList[k]'(by omega) = s[k]'hlt from rfl, show s.data.toList[k + 1]'(by omega) = s[k + 1]'hlt1 from rfl, ← ha, ← hbb] at hdr
        rw [hdr, unhexL] at hun
        have hra := nib_range a
        have hrb := nib_range b
        have ha' : s[k]'hlt = a := ha.symm
        have hb' : s[k1]'hlt1' = b := by subst hk1; exact hbb.symm
        have HK1 := Lib.hid hk1
        clear hk1
        obtain ⟨na, hna⟩ : ∃ n, n = nib a := ⟨_, rfl⟩
        obtain ⟨nb, hnb⟩ : ∃ n, n = nib b := ⟨_, rfl⟩
        rw [← hna] at hra hun
        rw [← hnb] at hrb hun
        have HNA := Lib.hid hna
        have HNB := Lib.hid hnb
        have HUN := Lib.hid hun
        have ca := value_any a
        have cb := value_any b
        rw [← hna] at ca
        rw [← hnb] at cb
        have CA := Lib.hid ca
        have CB := Lib.hid cb
        clear hdr hun ha hbb hna hnb hln h1 ca cb
        obtain ⟨hra1, hra2⟩ := hra
        obtain ⟨hrb1, hrb2⟩ := hrb
        go_wp2_with fail
        refine (CA.out wr).mono ?_
        rintro e w' ⟨rfl, rfl⟩
        go_wp2_with fail
        refine (CB.out w').mono ?_
        rintro e w'' ⟨rfl, rfl⟩
        by_cases hna0 : na < 0
        · have HU := Lib.hid (show unhexR s.data.toList = ([], false) by unfold unhexR; rw [HUN.out, if_pos (.inl hna0)]; rfl)
          go_wp2_with fail
          go_ret2
          exact ⟨by rw [HU.out]; rfl, HB.out⟩
        · by_cases hnb0 : nb < 0
          · have HU := Lib.hid (show unhexR s.data.toList = ([], false) by unfold unhexR; rw [HUN.out, if_pos (.inr hnb0)]; rfl)
            go_wp2_with fail
            go_ret2
            exact ⟨by rw [HU.out]; rfl, HB.out⟩
          · obtain ⟨c, hc⟩ : ∃ c, c = UInt8.ofNat (16 * na + nb).toNat := ⟨_, rfl⟩
            obtain ⟨q, hq⟩ : ∃ q : Nat, q = c.toNat := ⟨_, rfl⟩
            have hcc : IntKind.u8.wrap (16 * na + nb) = (q : Int) := by rw [hq, hc, IntKind.wrap_u8]; simp; omega
            have hce : (16 * na + nb) % 256 = (q : Int) := by rw [hq, hc]; simp; omega
            have hun := HUN.out
            rw [if_neg (by omega), ← hc] at hun
            have HUX := Lib.hid (show unhexL s.data.toList = (unhexL (s.data.toList.drop (k + 2))).map ((acc ++ [c]) ++ ·) by rw [hun, Option.map_map]; congr 1; funext t; simp)
            have HBV := Lib.hid (show byteV (acc ++ [c]) = byteV acc ++ [.int .u8 (q : Int)] by rw [byteV_append, hq]; rfl)
            clear hun hc hq
            go_wp2_with (at_builtin; go_must (refine wpList_append_own _ rfl (.tmp 33) (.tmp 39) 30 rfl w.heap.size 5 i0 (.int .u8 0) 1 1 Tryd.underlying30 ti0 ti1 ti2 ti3 rfl (by decide) u4 acc.length (byteV acc) rfl (HO.out.alloc _) ⟨w''.heap.size, 0, none⟩ 1 1 [.int .u8 (q : Int)] rfl rfl (new_cells _ rfl _ _) (by intro u hu; simp at hu; subst hu; rfl) (by unfold maxLen; omega) (by omega) (by simp; omega) ?_))
            intro vn wn hown2 hg2 _
            have HON := Lib.hid hown2
            have HBN := Lib.hid ((HB.out.alloc hz (.cells #[.int .u8 (q : Int)] 5)).grown hg2 (by simp; omega) (fun j hj => (HO.out.lt j hj).1))
            clear hown2 hg2
            go_wp2
            go_roundw
            case rel => first | exact ⟨k + 2, acc ++ [c], by have := HK1.out; omega, by have := HK2.out; omega, by go_num, by simp; omega, HUX.out, by rw [HBV.out, List.length_append]; exact HON.out, HBN.out⟩ | ((repeat apply Exists.intro); exact ⟨⟨k + 2, acc ++ [c], by have := HK1.out; omega, by have := HK2.out; omega, by go_num, by simp; omega, HUX.out, by rw [HBV.out, List.length_append]; exact HON.out, HBN.out⟩, rfl⟩)
            case measure => simp [intOf]; omega
      · have hkn : k = s.size := by omega
        have hkf : ¬ (k : Int) < (s.size : Int) := by omega
        have HU := Lib.hid (show unhexR s.data.toList = (acc, true) by
          unfold unhexR
          rw [hun, List.drop_of_length_le (by omega)]
          simp [unhexL])
        have hcv := conv_own wr w.heap.size u4 acc.length acc HO.out rfl
        obtain ⟨X, hX⟩ : ∃ X : ByteArray, X = ⟨acc.toArray⟩ := ⟨_, rfl⟩
        rw [← hX] at hcv
        have HX := Lib.hid hX
        clear hun hkn h1 hln hX
        go_wp2_with fail
        go_ret2
        exact ⟨by rw [HU.out, ← HX.out]; rfl, HB.out⟩

end Go.Proofs.YtnfpahanbnidpaaDoor
