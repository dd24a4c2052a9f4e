/- The walks of the reference of layer 3: word, constants, order. -/
import Derived.Test.YtnfpahanbnidpaaDoorDigRA
set_option linter.unusedSimpArgs false
set_option linter.unusedVariables false
namespace Go.Proofs.YtnfpahanbnidpaaDoor
open Go.RowKit

def byteAt (l : List UInt8) (j : Nat) : Nat := (l.getD j 0).toNat
theorem byteAt_lt (l : List UInt8) (j : Nat) : byteAt l j < 256 := UInt8.toNat_lt _
def wacc (l : List UInt8) (at_ : Nat) : Nat → Nat
  | 0 => 0
  | m + 1 => wacc l at_ m * 256 + byteAt l (at_ + (3 - m))
def wordR (l : List UInt8) (at_ : Nat) : Nat := wacc l at_ 4
theorem wacc_lt (l : List UInt8) (at_ : Nat) : ∀ m, wacc l at_ m < 256 ^ m
  | 0 => by simp [wacc]
  | m + 1 => by
    have h1 := wacc_lt l at_ m
    have h2 := byteAt_lt l (at_ + (3 - m))
    rw [wacc, Nat.pow_succ]
    omega
theorem wordR_eq (l : List UInt8) (a : Nat) : wordR l a = byteAt l a + byteAt l (a + 1) * 256 + byteAt l (a + 2) * 65536 + byteAt l (a + 3) * 16777216 := by
  rw [show wordR l a = (((0 * 256 + byteAt l (a + 3)) * 256 + byteAt l (a + 2)) * 256 + byteAt l (a + 1)) * 256 + byteAt l a from rfl]
  omega
theorem or_add (a b i : Nat) (h : a < 2 ^ i) : a ||| (b * 2 ^ i) = a + b * 2 ^ i := by
  have := Nat.two_pow_add_eq_or_of_lt (i := i) (b := a) h b
  rw [Nat.or_comm, Nat.mul_comm, ← this, Nat.add_comm]
theorem byteAt_take (l : List UInt8) (n j : Nat) : byteAt (l.take n) j = if j < n then byteAt l j else 0 := by
  unfold byteAt
  rw [List.getD_eq_getElem?_getD, List.getD_eq_getElem?_getD, List.getElem?_take]
  split <;> simp
theorem words_at (l : List UInt8) (hl : l.length ≤ 64) : ∀ n, n ≤ l.length → ∀ i, i < 16 → g32 (wordsN (l.take n)) i = wordR (l.take n) (4 * i)
  | 0, _, i, hi => by
    rw [List.take_zero]
    have : i = 0 ∨ i = 1 ∨ i = 2 ∨ i = 3 ∨ i = 4 ∨ i = 5 ∨ i = 6 ∨ i = 7 ∨ i = 8 ∨ i = 9 ∨ i = 10 ∨ i = 11 ∨ i = 12 ∨ i = 13 ∨ i = 14 ∨ i = 15 := by omega
    rcases this with rfl | rfl | rfl | rfl | rfl | rfl | rfl | rfl | rfl | rfl | rfl | rfl | rfl | rfl | rfl | rfl <;> decide
  | n + 1, hn, i, hi => by
    have ih := words_at l hl n (by omega)
    have hc := (l[n]'(by omega)).toNat_lt
    have hb : byteAt l n = (l[n]'(by omega)).toNat := by
      unfold byteAt
      rw [List.getD_eq_getElem?_getD, List.getElem?_eq_getElem (by omega)]
      rfl
    rw [wordsN_take (by omega)]
    have hlen := wordsN_len (l.take n)
    have h0 := ih (n / 4) (by omega)
    unfold wordStep
    by_cases hin : n / 4 = i
    · subst hin
      have hset : g32 ((wordsN (l.take n)).set (n / 4) (g32 (wordsN (l.take n)) (n / 4) ||| ((l[n]'(by omega)).toNat * 2 ^ (8 * (n % 4)) % 4294967296))) (n / 4) = g32 (wordsN (l.take n)) (n / 4) ||| ((l[n]'(by omega)).toNat * 2 ^ (8 * (n % 4)) % 4294967296) := by
        conv => lhs; unfold g32
        rw [List.getD_eq_getElem?_getD, List.getElem?_set_self (by omega)]
        rfl
      rw [hset, h0, wordR_eq, wordR_eq, ← hb]
      rw [← hb] at hc
      have b0 := byteAt_lt l (4 * (n / 4))
      have b1 := byteAt_lt l (4 * (n / 4) + 1)
      have b2 := byteAt_lt l (4 * (n / 4) + 2)
      have hm : n % 4 = 0 ∨ n % 4 = 1 ∨ n % 4 = 2 ∨ n % 4 = 3 := by omega
      simp only [byteAt_take]
      rcases hm with hm | hm | hm | hm
      · have e : 4 * (n / 4) = n := by omega
        rw [hm, e, if_neg (by omega), if_neg (by omega), if_neg (by omega), if_neg (by omega), if_pos (by omega), if_neg (by omega), if_neg (by omega), if_neg (by omega), Nat.mod_eq_of_lt (by omega)]
        simp
      · have e : 4 * (n / 4) + 1 = n := by omega
        rw [hm, e, if_pos (by omega), if_neg (by omega), if_neg (by omega), if_neg (by omega), if_pos (by omega), if_pos (by omega), if_neg (by omega), if_neg (by omega), Nat.mod_eq_of_lt (by omega)]
        have := or_add (byteAt l (4 * (n / 4))) (byteAt l n) 8 (by omega)
        simp at this ⊢
        exact this
      · have e : 4 * (n / 4) + 2 = n := by omega
        rw [hm, e, if_pos (by omega), if_pos (by omega), if_neg (by omega), if_neg (by omega), if_pos (by omega), if_pos (by omega), if_pos (by omega), if_neg (by omega), Nat.mod_eq_of_lt (by omega)]
        have := or_add (byteAt l (4 * (n / 4)) + byteAt l (4 * (n / 4) + 1) * 256) (byteAt l n) 16 (by omega)
        simp at this ⊢
        exact this
      · have e : 4 * (n / 4) + 3 = n := by omega
        rw [hm, e, if_pos (by omega), if_pos (by omega), if_pos (by omega), if_neg (by omega), if_pos (by omega), if_pos (by omega), if_pos (by omega), if_pos (by omega), Nat.mod_eq_of_lt (by omega)]
        have := or_add (byteAt l (4 * (n / 4)) + byteAt l (4 * (n / 4) + 1) * 256 + byteAt l (4 * (n / 4) + 2) * 65536) (byteAt l n) 24 (by omega)
        simp at this ⊢
        exact this
    · have hset : g32 ((wordsN (l.take n)).set (n / 4) (g32 (wordsN (l.take n)) (n / 4) ||| ((l[n]'(by omega)).toNat * 2 ^ (8 * (n % 4)) % 4294967296))) i = g32 (wordsN (l.take n)) i := by
        unfold g32
        rw [List.getD_eq_getElem?_getD, List.getElem?_set_ne hin, List.getD_eq_getElem?_getD]
      rw [hset, ih i hi, wordR_eq, wordR_eq]
      have e : ∀ j, j < 4 → byteAt (l.take n) (4 * i + j) = byteAt (l.take (n + 1)) (4 * i + j) := by
        intro j hj
        rw [byteAt_take, byteAt_take]
        by_cases h : 4 * i + j < n
        · rw [if_pos h, if_pos (by omega)]
        · rw [if_neg h, if_neg (by omega)]
      rw [← e 1 (by omega), ← e 2 (by omega), ← e 3 (by omega), show byteAt (l.take (n + 1)) (4 * i) = byteAt (l.take n) (4 * i) from (e 0 (by omega)).symm]
theorem wordR_block (l : List UInt8) (at_ i : Nat) (hi : i < 16) : g32 (wordsN ((l.drop at_).take 64)) i = wordR l (at_ + 4 * i) := by
  have h1 : ((l.drop at_).take 64).length ≤ 64 := by simp; omega
  have h2 := words_at ((l.drop at_).take 64) h1 _ (Nat.le_refl _) i hi
  rw [List.take_length] at h2
  rw [h2, wordR_eq, wordR_eq]
  have e : ∀ j, j < 64 → byteAt ((l.drop at_).take 64) j = byteAt l (at_ + j) := by
    intro j hj
    unfold byteAt
    rw [List.getD_eq_getElem?_getD, List.getD_eq_getElem?_getD, List.getElem?_take, if_pos hj, List.getElem?_drop]
  rw [e _ (by omega), e _ (by omega), e _ (by omega), e _ (by omega)]
  simp only [Nat.add_assoc]

set_option maxHeartbeats 1000000 in
set_option maxRecDepth 100000 in
theorem word_any (s : ByteArray) (a : Nat) (w : World) (hs : s.size ≤ 1000000) (ha : a ≤ 1000000) :
    Calls Tryd.prog 33 #[.string s, .int .i64 (a : Int)] w fun e w' => e = .returned (.int .u32 (wordR s.data.toList a : Nat)) ∧ w' = w := by
  go_enter Tryd.func33, Tryd.ntmps33
  go_wp2
  go_loop [5, 6] (fun x i => ∃ m : Nat, m ≤ 4 ∧ i = .int .i64 (3 - (m : Int)) ∧ x = .int .u32 (wacc s.data.toList a m : Nat)) (fun _ i => ((intOf i) + 1).toNat)
  case atStart => exact ⟨0, by omega, rfl, rfl⟩
  case round =>
    obtain ⟨m, hm, rfl, rfl⟩ := hrel
    by_cases hlt : m < 4
    · obtain ⟨j, hj⟩ : ∃ j : Nat, j = 3 - m := ⟨_, rfl⟩
      have hj1 : (3 : Int) - (m : Int) = (j : Int) := by omega
      rw [hj1]
      have hj0 : (0 : Int) ≤ (j : Int) := by omega
      have hj4 : (j : Int) ≤ 3 := by omega
      have hvl := wacc_lt s.data.toList a m
      have h256 : 256 ^ m ≤ 256 ^ 3 := Nat.pow_le_pow_right (by decide) (by omega)
      obtain ⟨x, hx⟩ : ∃ x, x = wacc s.data.toList a m := ⟨_, rfl⟩
      rw [← hx] at hvl
      rw [← hx]
      obtain ⟨y, hy⟩ : ∃ y, y = x * 256 := ⟨_, rfl⟩
      have h1 : (x : Int) * 256 % 4294967296 = (y : Int) := by omega
      have h2 : IntKind.u32.wrap ((x : Int) * 256) = (y : Int) := by rw [IntKind.wrap_u32]; omega
      have h3 : Op.shift BinOp.shl IntKind.u32 (x : Int) IntKind.u64 8 = pure (.int .u32 (y : Int)) := by
        rw [shift_shl .u32 .u64 _ _ (by decide) (by decide), IntKind.wrap_u32]
        congr 2
      by_cases hin : a + j < s.size
      · obtain ⟨p, hp⟩ : ∃ p : Nat, p = a + j := ⟨_, rfl⟩
        have e1 : (a : Int) + (j : Int) = (p : Int) := by omega
        have e2 : IntKind.i64.wrap (p : Int) = (p : Int) := by rw [IntKind.wrap_i64]; omega
        have hpi : (p : Int) < (s.size : Int) := by omega
        have hp0 : (0 : Int) ≤ (p : Int) := by omega
        have hps : p < s.size := by omega
        obtain ⟨c, hc⟩ : ∃ c, c = (s[p]'hps).toNat := ⟨_, rfl⟩
        have hcl := (s[p]'hps).toNat_lt
        have hcw : IntKind.u32.wrap ((s[p]'hps).toNat : Int) = (c : Int) := by rw [hc, IntKind.wrap_u32]; omega
        have hbc : byteAt s.data.toList (a + (3 - m)) = c := by
          rw [← hj, ← hp, hc]
          unfold byteAt
          rw [List.getD_eq_getElem?_getD, List.getElem?_eq_getElem (by simpa using hps)]
          rfl
        obtain ⟨z, hz⟩ : ∃ z, z = y + c := ⟨_, rfl⟩
        have h4 : bits .or .u32 (y : Int) (c : Int) = (z : Int) := by
          rw [bor32 y c (by omega) (by omega), hz, hy]
          have := or_add c x 8 (by omega)
          rw [Nat.or_comm, show (256 : Nat) = 2 ^ 8 from rfl, this, Nat.add_comm]
        have HZ := Lib.hid (show wacc s.data.toList a (m + 1) = z by rw [wacc, hbc, ← hx, hz, hy])
        have HJ := Lib.hid hj
        clear hx hy hz hc hbc hp hvl h256 hcl hj1 hj
        go_wp2_with fail
        go_round
        case rel => exact ⟨m + 1, by omega, by have := HJ.out; congr 1; omega, by rw [HZ.out]⟩
        case measure => (have := HJ.out; simp [intOf])
      · obtain ⟨p, hp⟩ : ∃ p : Nat, p = a + j := ⟨_, rfl⟩
        have e1 : (a : Int) + (j : Int) = (p : Int) := by omega
        have e2 : IntKind.i64.wrap (p : Int) = (p : Int) := by rw [IntKind.wrap_i64]; omega
        have hpi : ¬ (p : Int) < (s.size : Int) := by omega
        have hbc : byteAt s.data.toList (a + (3 - m)) = 0 := by
          unfold byteAt
          rw [List.getD_eq_getElem?_getD, List.getElem?_eq_none (by simp; omega)]
          rfl
        have HZ := Lib.hid (show wacc s.data.toList a (m + 1) = y by rw [wacc, hbc, ← hx, hy]; omega)
        have HJ := Lib.hid hj
        clear hx hy hbc hp hvl h256 hj1 hj
        go_wp2_with fail
        go_round
        case rel => exact ⟨m + 1, by omega, by have := HJ.out; congr 1; omega, by rw [HZ.out]⟩
        case measure => (have := HJ.out; simp [intOf])
    · obtain rfl : m = 4 := by omega
      go_wp2
      go_ret
      exact ⟨rfl, rfl⟩

set_option maxRecDepth 100000 in
theorem constants_any (w : World) : Calls Tryd.prog 26 #[] w fun e w' => e = .returned (.slice (some ⟨w.heap.size, 0, none⟩) 8 8) ∧ w' = w.alloc (.cells (u32s firstN) 44) := by
  go_enter Tryd.func26, Tryd.ntmps26
  go_wp2
  go_ret
  exact ⟨rfl, rfl⟩
def i64s (l : List Nat) : Array Value := (l.map fun (n : Nat) => Value.int .i64 (n : Int)).toArray
set_option maxHeartbeats 1000000 in
set_option maxRecDepth 100000 in
theorem order_any (r : Nat) (hr : r < 10) (w : World) : Calls Tryd.prog 34 #[.int .i64 (r : Int)] w fun e w' => e = .returned (.slice (some ⟨w.heap.size, 0, none⟩) 16 16) ∧ w' = w.alloc (.cells (i64s (zrow r)) 3) := by
  have : r = 0 ∨ r = 1 ∨ r = 2 ∨ r = 3 ∨ r = 4 ∨ r = 5 ∨ r = 6 ∨ r = 7 ∨ r = 8 ∨ r = 9 := by omega
  rcases this with rfl | rfl | rfl | rfl | rfl | rfl | rfl | rfl | rfl | rfl
  all_goals
    go_enter Tryd.func34, Tryd.ntmps34
    go_wp2
    go_ret
    exact ⟨rfl, rfl⟩

end Go.Proofs.YtnfpahanbnidpaaDoor
