/- DigestXors: the plain law. -/
import Derived.Test.YtnfpahanbnidpaaDoorDigJ
import Derived.Laws.IdiomStrings
set_option linter.unusedSimpArgs false
set_option linter.unusedVariables false
namespace Go.Proofs.YtnfpahanbnidpaaDoor
open Go.RowKit

theorem crcBit_xor (a b : Nat) : crcBit (a ^^^ b) = crcBit a ^^^ crcBit b := by
  have h1 : (a ^^^ b) / 2 = a / 2 ^^^ b / 2 := by
    have := Nat.xor_div_two_pow (a := a) (b := b) (n := 1)
    simpa using this
  have h2 : (a ^^^ b) % 2 = a % 2 ^^^ b % 2 := by
    have := Nat.xor_mod_two_pow (a := a) (b := b) (n := 1)
    simpa using this
  unfold crcBit
  rw [h1, h2]
  rcases Nat.mod_two_eq_zero_or_one a with ha | ha <;> rcases Nat.mod_two_eq_zero_or_one b with hb | hb
  · simp [ha, hb]
  · simp [ha, hb, Nat.xor_assoc]
  · simp only [ha, hb]
    simp
    rw [Nat.xor_assoc, Nat.xor_comm (b / 2), ← Nat.xor_assoc]
  · simp only [ha, hb]
    simp
    rw [Nat.xor_assoc, Nat.xor_comm 33800, Nat.xor_assoc, Nat.xor_self, Nat.xor_zero]
theorem crcBits_xor : ∀ (k a b : Nat), crcBits k (a ^^^ b) = crcBits k a ^^^ crcBits k b
  | 0, _, _ => rfl
  | k + 1, a, b => by
    show crcBit (crcBits k (a ^^^ b)) = _
    rw [crcBits_xor k a b, crcBit_xor]
    rfl
theorem xor_swap (a b c d : Nat) : (a ^^^ b) ^^^ (c ^^^ d) = (a ^^^ c) ^^^ (b ^^^ d) := by
  rw [Nat.xor_assoc, Nat.xor_assoc]
  congr 1
  rw [← Nat.xor_assoc, Nat.xor_comm b c, Nat.xor_assoc]
theorem crcByte_xor (x y : Nat) (c d : UInt8) : crcByte (x ^^^ y) (c ^^^ d) = crcByte x c ^^^ crcByte y d := by
  unfold crcByte
  rw [UInt8.toNat_xor, xor_swap, crcBits_xor]
def xor3 : List UInt8 → List UInt8 → List UInt8 → List UInt8
  | x :: a, y :: b, z :: c => (x ^^^ y ^^^ z) :: xor3 a b c
  | _, _, _ => []
theorem crcFold_xor3 : ∀ (a b c : List UInt8) (x y z : Nat), a.length = b.length → b.length = c.length →
    (xor3 a b c).foldl crcByte (x ^^^ y ^^^ z) = a.foldl crcByte x ^^^ b.foldl crcByte y ^^^ c.foldl crcByte z
  | [], [], [], _, _, _, _, _ => rfl
  | p :: a, q :: b, r :: c, x, y, z, h1, h2 => by
    simp only [xor3, List.foldl_cons]
    rw [crcByte_xor, crcByte_xor, crcFold_xor3 a b c _ _ _ (by simpa using h1) (by simpa using h2)]
theorem crcN_eq (l : List UInt8) : crcN l = crcL l ^^^ 65535 := by
  have h := crcL_lt l
  unfold crcN
  apply Nat.eq_of_testBit_eq
  intro i
  have h1 := Nat.testBit_two_pow_sub_succ (n := 16) (x := crcL l) h i
  rw [show (2 ^ 16 - (crcL l + 1)) = 65535 - crcL l by omega] at h1
  rw [h1, Nat.testBit_xor, show (65535 : Nat) = 2 ^ 16 - 1 from rfl, Nat.testBit_two_pow_sub_one]
  by_cases hi : i < 16
  · simp [hi]
  · have : (crcL l).testBit i = false := Nat.testBit_lt_two_pow (Nat.lt_of_lt_of_le (show crcL l < 2 ^ 16 from h) (Nat.pow_le_pow_right (by decide) (by omega)))
    simp [hi, this]
theorem xors_law (a b c : List UInt8) (h1 : a.length = b.length) (h2 : b.length = c.length) : crcN (xor3 a b c) = crcN a ^^^ crcN b ^^^ crcN c := by
  simp only [crcN_eq]
  have h := crcFold_xor3 a b c 65535 65535 65535 h1 h2
  have e : (65535 ^^^ 65535 ^^^ 65535 : Nat) = 65535 := by decide
  rw [e] at h
  have h' : crcL (xor3 a b c) = crcL a ^^^ crcL b ^^^ crcL c := h
  rw [h', xor_swap (crcL a) 65535 (crcL b) 65535, Nat.xor_self, Nat.xor_zero, Nat.xor_assoc (crcL a ^^^ crcL b)]
theorem xor3_len : ∀ (a b c : List UInt8), a.length = b.length → b.length = c.length → (xor3 a b c).length = a.length
  | [], [], [], _, _ => rfl
  | p :: a, q :: b, r :: c, h1, h2 => by
    simp only [xor3, List.length_cons]
    rw [xor3_len a b c (by simpa using h1) (by simpa using h2)]
theorem xor3_snoc : ∀ (a b c : List UInt8) (x y z : UInt8), a.length = b.length → b.length = c.length → xor3 (a ++ [x]) (b ++ [y]) (c ++ [z]) = xor3 a b c ++ [x ^^^ y ^^^ z]
  | [], [], [], _, _, _, _, _ => rfl
  | p :: a, q :: b, r :: c, x, y, z, h1, h2 => by
    simp only [xor3, List.cons_append]
    rw [xor3_snoc a b c x y z (by simpa using h1) (by simpa using h2)]
theorem xor3_take (a b c : List UInt8) (k : Nat) (ha : k < a.length) (hb : k < b.length) (hc : k < c.length) :
    xor3 (a.take (k + 1)) (b.take (k + 1)) (c.take (k + 1)) = xor3 (a.take k) (b.take k) (c.take k) ++ [a[k] ^^^ b[k] ^^^ c[k]] := by
  rw [List.take_succ_eq_append_getElem ha, List.take_succ_eq_append_getElem hb, List.take_succ_eq_append_getElem hc,
    xor3_snoc _ _ _ _ _ _ (by simp; omega) (by simp; omega)]
theorem wraps_u8 (n : Int) (h₀ : 0 ≤ n) (h₁ : n < 2 ^ 8) : IntKind.u8.wrap n = n := by rw [IntKind.wrap_u8]; omega
theorem bxor8 (a b : UInt8) : bits .xor .u8 (a.toNat : Int) (b.toNat : Int) = ((a ^^^ b).toNat : Int) := by
  have ha := a.toNat_lt
  have hb := b.toNat_lt
  have h2 : a.toNat ^^^ b.toNat < 2 ^ 8 := Nat.xor_lt_two_pow (n := 8) ha hb
  simp only [bits, BitVec.ofInt_natCast, BitVec.toNat_xor, BitVec.toNat_ofNat, show IntKind.u8.bits = 8 from rfl, Nat.mod_eq_of_lt ha, Nat.mod_eq_of_lt hb, UInt8.toNat_xor]
  exact wraps_u8 _ (Int.natCast_nonneg _) (by exact_mod_cast h2)
theorem bxor64 (a b : Nat) (ha : a < 65536) (hb : b < 65536) : bits .xor .i64 (a : Int) (b : Int) = ((a ^^^ b : Nat) : Int) := by
  have h2 : a ^^^ b < 2 ^ 16 := Nat.xor_lt_two_pow (n := 16) ha hb
  simp only [bits, BitVec.ofInt_natCast, BitVec.toNat_xor, BitVec.toNat_ofNat, show IntKind.i64.bits = 64 from rfl, Nat.mod_eq_of_lt (show a < 2 ^ 64 by omega), Nat.mod_eq_of_lt (show b < 2 ^ 64 by omega)]
  rw [IntKind.wrap_i64]
  omega
/-- 'string(v)' of bytes that the call owns. -/
theorem conv_own (w : World) (base : Nat) (v : Value) (n : Nat) (l : List UInt8) (h : w.ownsRow base 5 1 v n (l.map fun c => .int .u8 (c.toNat : Int))) (hn : n = l.length) :
    (convert 30 9 v).run Tryd.prog w = .ok (.string ⟨l.toArray⟩) w := by
  subst hn
  rcases h.2 with ⟨rfl, h0⟩ | ⟨g, cap, cur, rfl, hg, hh, _⟩
  · obtain rfl : l = [] := by cases l with | nil => rfl | cons a r => cases h0
    exact run_convert_bytes_string w _ _ _ none 0 0 Tryd.underlying30 Tryd.underlying5 Tryd.underlying9
  · refine run_convert_bytes_back w _ _ _ _ cap l Tryd.underlying30 Tryd.underlying5 Tryd.underlying9 fun j hj => ?_
    exact h.cells (g := g) rfl j _ (by simp [hj])

end Go.Proofs.YtnfpahanbnidpaaDoor
