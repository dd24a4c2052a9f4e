/- The walks of digest: Crc. -/
import Derived.Test.YtnfpahanbnidpaaDoorDigC
set_option linter.unusedSimpArgs false
set_option linter.unusedVariables false
namespace Go.Proofs.YtnfpahanbnidpaaDoor
open Go.RowKit

def crcBit (x : Nat) : Nat := if x % 2 = 1 then (x / 2) ^^^ 33800 else x / 2
def crcBits : Nat → Nat → Nat
  | 0, x => x
  | k + 1, x => crcBit (crcBits k x)
def crcByte (x : Nat) (c : UInt8) : Nat := crcBits 8 (x ^^^ c.toNat)
def crcL (l : List UInt8) : Nat := l.foldl crcByte 65535
def crcN (l : List UInt8) : Nat := 65535 - crcL l
theorem crcBit_lt {x : Nat} (h : x < 65536) : crcBit x < 65536 := by
  unfold crcBit
  split
  · exact Nat.xor_lt_two_pow (n := 16) (by omega) (by decide)
  · omega
theorem crcBits_lt : ∀ (k : Nat) {x : Nat}, x < 65536 → crcBits k x < 65536
  | 0, _, h => h
  | k + 1, _, h => crcBit_lt (crcBits_lt k h)
theorem crcByte_lt {x : Nat} (h : x < 65536) (c : UInt8) : crcByte x c < 65536 :=
  crcBits_lt 8 (Nat.xor_lt_two_pow (n := 16) h (Nat.lt_trans c.toNat_lt (by decide)))
theorem crcFold_lt : ∀ (l : List UInt8) {x : Nat}, x < 65536 → l.foldl crcByte x < 65536
  | [], _, h => h
  | c :: r, _, h => crcFold_lt r (crcByte_lt h c)
theorem crcL_lt (l : List UInt8) : crcL l < 65536 := crcFold_lt l (by decide)
theorem crcL_take {l : List UInt8} {k : Nat} (h : k < l.length) : crcL (l.take (k + 1)) = crcByte (crcL (l.take k)) l[k] := by
  unfold crcL
  rw [List.take_succ_eq_append_getElem h, List.foldl_append]
  rfl
theorem wraps_u16 (n : Int) (h₀ : 0 ≤ n) (h₁ : n < 2 ^ 16) : IntKind.u16.wrap n = n := by rw [IntKind.wrap_u16]; omega
theorem bxor16 (a b : Nat) (ha : a < 65536) (hb : b < 65536) : bits .xor .u16 (a : Int) (b : Int) = ((a ^^^ b : Nat) : Int) := by
  have h2 : a ^^^ b < 2 ^ 16 := Nat.xor_lt_two_pow (n := 16) ha hb
  simp only [bits, BitVec.ofInt_natCast, BitVec.toNat_xor, BitVec.toNat_ofNat, show IntKind.u16.bits = 16 from rfl, Nat.mod_eq_of_lt ha, Nat.mod_eq_of_lt hb]
  exact wraps_u16 _ (Int.natCast_nonneg _) (by exact_mod_cast h2)
theorem band16 (a b : Nat) (ha : a < 65536) (hb : b < 65536) : bits .and .u16 (a : Int) (b : Int) = ((a &&& b : Nat) : Int) :=
  (bits_nat .u16 16 (by decide) wraps_u16 a b ha hb).1
theorem unot16 (x : Nat) (hx : x < 65536) : Op.unary UnOp.xor (.int .u16 (x : Int)) = pure (.int .u16 ((65535 - x : Nat) : Int)) := by
  have h1 : BitVec.ofInt 16 (IntKind.u16.max) = BitVec.allOnes 16 := by decide
  have h2 : (BitVec.ofInt 16 (IntKind.u16.max) ^^^ BitVec.ofInt 16 (x : Int)).toNat = 65535 - x := by
    rw [h1, BitVec.allOnes_xor, BitVec.toNat_not, BitVec.ofInt_natCast, BitVec.toNat_ofNat, Nat.mod_eq_of_lt hx]
  have h3 : Op.unary UnOp.xor (.int .u16 (x : Int)) = pure (.int .u16 (IntKind.u16.wrap ((BitVec.ofInt 16 (IntKind.u16.max) ^^^ BitVec.ofInt 16 (x : Int)).toNat : Int))) := rfl
  rw [h3, h2, wraps_u16 _ (by omega) (by omega)]

set_option maxHeartbeats 2000000 in
set_option maxRecDepth 100000 in
theorem crc_any (s : ByteArray) (w : World) (hs : s.size ≤ 1000000) :
    Calls Tryd.prog 13 #[.string s] w fun e w' => e = .returned (.int .i64 (crcN s.data.toList : Nat)) ∧ Below w.heap.size w w' := by
  go_enter Tryd.func13, Tryd.ntmps13
  go_wp2
  go_loopw [3, 8] (fun x i wr => ∃ k : Nat, k ≤ s.size ∧ x = .int .u16 (crcL (s.data.toList.take k) : Nat) ∧ i = .int .i64 k ∧ Below w.heap.size w wr) (fun _ i _ => s.size - (intOf i).toNat)
  case atStart => exact ⟨0, Nat.zero_le _, rfl, rfl, Below.refl _ _⟩
  case round =>
    obtain ⟨k, hk, rfl, rfl, hb⟩ := hrel
    by_cases hlt : k < s.size
    · have hk0 : (0 : Int) ≤ (k : Int) := by omega
      have hkn : (k : Int) < (s.size : Int) := by omega
      have hc := (s[k]'hlt).toNat_lt
      have htk := crcL_take (l := s.data.toList) (k := k) (by simpa using hlt)
      have hgk : s.data.toList[k]'(by simpa using hlt) = s[k]'hlt := rfl
      rw [hgk] at htk
      obtain ⟨x, hx⟩ : ∃ x, x = crcL (s.data.toList.take k) := ⟨_, rfl⟩
      have hxl : x < 65536 := by rw [hx]; exact crcL_lt _
      rw [← hx] at htk
      rw [← hx]
      obtain ⟨c, hcc⟩ : ∃ c, c = (s[k]'hlt).toNat := ⟨_, rfl⟩
      have hcl : c < 256 := by omega
      have hcw : IntKind.u16.wrap ((s[k]'hlt).toNat : Int) = (c : Int) := by rw [hcc, IntKind.wrap_u16]; omega
      obtain ⟨y, hy⟩ : ∃ y, y = x ^^^ c := ⟨_, rfl⟩
      have hyl : y < 65536 := by rw [hy]; exact Nat.xor_lt_two_pow (n := 16) hxl (by omega)
      have hxx : bits .xor .u16 (x : Int) (c : Int) = (y : Int) := by rw [hy]; exact bxor16 _ _ hxl (by omega)
      have HTK := Lib.hid (show crcL (s.data.toList.take (k + 1)) = crcBits 8 y by rw [htk, hy, hcc]; rfl)
      clear htk hgk hx hcc hy
      go_wp2_with fail
      go_loopw [3, 17] (fun z i wr => ∃ j : Nat, j ≤ 8 ∧ z = .int .u16 (crcBits j y : Nat) ∧ i = .int .i64 j ∧ Below w.heap.size w wr) (fun _ i _ => 8 - (intOf i).toNat)
      case atStart => exact ⟨0, Nat.zero_le _, rfl, rfl, hb⟩
      case round =>
        obtain ⟨j, hj, rfl, rfl, hb2⟩ := hrel
        by_cases hj8 : j < 8
        · have hj0 : (0 : Int) ≤ (j : Int) := by omega
          have hji : (j : Int) < 8 := by omega
          obtain ⟨z, hz⟩ : ∃ z, z = crcBits j y := ⟨_, rfl⟩
          have hzl : z < 65536 := by rw [hz]; exact crcBits_lt j hyl
          rw [← hz]
          have HZ := Lib.hid (show crcBits (j + 1) y = crcBit z by rw [hz]; rfl)
          clear hz
          obtain ⟨o, ho⟩ : ∃ o, o = z &&& 1 := ⟨_, rfl⟩
          have hoo : bits .and .u16 (z : Int) 1 = (o : Int) := by rw [ho]; exact band16 z 1 hzl (by decide)
          have ho' : o = z % 2 := by rw [ho, Nat.and_one_is_mod]
          clear ho
          obtain ⟨h2, hh2⟩ : ∃ h, h = z / 2 := ⟨_, rfl⟩
          have hd : (z : Int) / 2 = (h2 : Int) := by omega
          have hhl : h2 < 65536 := by omega
          obtain ⟨p, hp⟩ : ∃ p, p = h2 ^^^ 33800 := ⟨_, rfl⟩
          have hpp : bits .xor .u16 (h2 : Int) 33800 = (p : Int) := by rw [hp]; exact bxor16 h2 33800 hhl (by decide)
          rcases Nat.mod_two_eq_zero_or_one z with h0 | h1
          · have ho0 : (o : Int) = 0 := by omega
            have HB := Lib.hid (show crcBit z = h2 by unfold crcBit; rw [if_neg (by omega), hh2])
            clear ho' hh2 hp h0
            go_wp2
            go_roundw
            case rel => exact ⟨j + 1, by omega, by rw [HZ.out, HB.out], by go_num, hb2⟩
            case measure => simp [intOf]; omega
          · have ho1 : (o : Int) = 1 := by omega
            have HB := Lib.hid (show crcBit z = p by unfold crcBit; rw [if_pos h1, hp, hh2])
            clear ho' hh2 hp h1
            go_wp2
            go_roundw
            case rel => exact ⟨j + 1, by omega, by rw [HZ.out, HB.out], by go_num, hb2⟩
            case measure => simp [intOf]; omega
        · obtain rfl : j = 8 := by omega
          go_wp2
          go_roundw
          case rel => exact ⟨k + 1, by omega, by rw [HTK.out], by go_num, hb2⟩
          case measure => simp [intOf]; omega
    · have hkn : k = s.size := by omega
      have htk : s.data.toList.take k = s.data.toList := List.take_of_length_le (by simp; omega)
      rw [htk]
      obtain ⟨x, hx⟩ : ∃ x, x = crcL s.data.toList := ⟨_, rfl⟩
      have hxl : x < 65536 := by rw [hx]; exact crcL_lt _
      have hkf : ¬ (k : Int) < (s.size : Int) := by omega
      have hun := unot16 x hxl
      have HE := Lib.hid (show crcN s.data.toList = 65535 - x by rw [hx]; rfl)
      rw [← hx]
      obtain ⟨n, hn⟩ : ∃ n, n = 65535 - x := ⟨_, rfl⟩
      rw [← hn] at hun HE
      have hnl : n < 65536 := by omega
      have hnw : IntKind.i64.wrap (n : Int) = (n : Int) := by rw [IntKind.wrap_i64]; omega
      clear hx htk hkn hn
      go_wp2
      go_ret
      exact ⟨by rw [HE.out]; rfl, hb⟩

end Go.Proofs.YtnfpahanbnidpaaDoor
