/- DigestDetects: the plain law. -/
import Derived.Test.YtnfpahanbnidpaaDoorDigXors
set_option linter.unusedSimpArgs false
set_option linter.unusedVariables false
namespace Go.Proofs.YtnfpahanbnidpaaDoor
open Go.RowKit

/-- The string as a number, its first byte lowest. -/
def leN : List UInt8 → Nat
  | [] => 0
  | c :: r => c.toNat ^^^ (leN r) <<< 8
theorem leN_cons (c : UInt8) (r : List UInt8) : leN (c :: r) = c.toNat ^^^ (leN r) <<< 8 := rfl
theorem crcBit_two (y : Nat) : crcBit (2 * y) = y := by
  unfold crcBit
  rw [if_neg (by omega)]
  omega
theorem crcBits_shift : ∀ (k y : Nat), crcBits k (y <<< k) = y
  | 0, y => rfl
  | k + 1, y => by
    show crcBit (crcBits k (y <<< (k + 1))) = y
    rw [show y <<< (k + 1) = (2 * y) <<< k by rw [Nat.shiftLeft_eq, Nat.shiftLeft_eq, Nat.pow_succ, Nat.mul_comm 2 y, Nat.mul_assoc, Nat.mul_comm 2 (2 ^ k)], crcBits_shift k, crcBit_two]
theorem crcBits_add : ∀ (m k x : Nat), crcBits (m + k) x = crcBits k (crcBits m x)
  | m, 0, x => rfl
  | m, k + 1, x => by
    show crcBit (crcBits (m + k) x) = crcBit (crcBits k (crcBits m x))
    rw [crcBits_add m k x]
theorem crcFold_le : ∀ (l : List UInt8) (x : Nat), l.foldl crcByte x = crcBits (8 * l.length) (x ^^^ leN l)
  | [], x => by simp [leN, crcBits]
  | c :: r, x => by
    rw [List.foldl_cons, crcFold_le r, List.length_cons, show 8 * (r.length + 1) = 8 + 8 * r.length by omega, crcBits_add]
    congr 1
    unfold crcByte
    rw [leN_cons, ← Nat.xor_assoc, crcBits_xor, crcBits_xor (a := x ^^^ c.toNat), crcBits_shift, crcBits_xor]
theorem crcBit_ne {x : Nat} (hx : x < 65536) (h : x ≠ 0) : crcBit x ≠ 0 := by
  unfold crcBit
  split
  · intro e
    have h1 : x / 2 = 33800 := by
      have := congrArg (· ^^^ 33800) e
      simpa [Nat.xor_assoc] using this
    omega
  · omega
theorem crcBits_ne : ∀ (k : Nat) {x : Nat}, x < 65536 → x ≠ 0 → crcBits k x ≠ 0
  | 0, _, _, h => h
  | k + 1, _, hx, h => crcBit_ne (crcBits_lt k hx) (crcBits_ne k hx h)
theorem xor_zero_of {a b : Nat} (h : a ^^^ b = 0) : a = b := by
  have := congrArg (· ^^^ b) h
  simpa [Nat.xor_assoc] using this
theorem leN_inj : ∀ (a b : List UInt8), a.length = b.length → leN a = leN b → a = b
  | [], [], _, _ => rfl
  | x :: a, y :: b, hl, h => by
    have hx := x.toNat_lt
    have hy := y.toNat_lt
    have e : ∀ (c : UInt8) (r : List UInt8), leN (c :: r) % 2 ^ 8 = c.toNat ∧ leN (c :: r) / 2 ^ 8 = leN r := by
      intro c r
      have hc := c.toNat_lt
      rw [leN_cons, Nat.xor_mod_two_pow, Nat.xor_div_two_pow, Nat.shiftLeft_eq, Nat.mul_mod_left, Nat.mul_div_cancel _ (by decide), Nat.mod_eq_of_lt hc, Nat.div_eq_of_lt hc, Nat.xor_zero, Nat.zero_xor]
      exact ⟨rfl, rfl⟩
    have h1 := e x a
    have h2 := e y b
    rw [h] at h1
    have h3 : x.toNat = y.toNat := by rw [← h1.1, h2.1]
    have h4 : leN a = leN b := by rw [← h1.2, h2.2]
    rw [leN_inj a b (by simpa using hl) h4, UInt8.toNat_inj.1 h3]
theorem leN_set : ∀ (l : List UInt8) (j : Nat) (h : j < l.length) (d : UInt8), leN (l.set j (l[j] ^^^ d)) = leN l ^^^ d.toNat <<< (8 * j)
  | c :: r, 0, _, d => by
    show (c ^^^ d).toNat ^^^ (leN r) <<< 8 = (c.toNat ^^^ (leN r) <<< 8) ^^^ d.toNat <<< 0
    rw [UInt8.toNat_xor, Nat.shiftLeft_zero, Nat.xor_assoc, Nat.xor_assoc, Nat.xor_comm d.toNat]
  | c :: r, j + 1, h, d => by
    show c.toNat ^^^ (leN (r.set j (r[j]'(by simpa using h) ^^^ d))) <<< 8 = (c.toNat ^^^ (leN r) <<< 8) ^^^ d.toNat <<< (8 * (j + 1))
    rw [leN_set r j (by simpa using h) d, Nat.shiftLeft_xor_distrib, Nat.xor_assoc, ← Nat.shiftLeft_add, show 8 * j + 8 = 8 * (j + 1) by omega]
/-- The bytes l are the bytes s but for a pattern of i bits from the bit on. -/
def Flips (s : List UInt8) (bit i : Nat) (l : List UInt8) : Prop := l.length = s.length ∧ ∃ pat, pat < 2 ^ i ∧ leN l = leN s ^^^ pat <<< bit
theorem Flips.start (s : List UInt8) (bit : Nat) : Flips s bit 0 s := ⟨rfl, 0, by decide, by simp⟩
theorem Flips.skip {s l : List UInt8} {bit i : Nat} (h : Flips s bit i l) : Flips s bit (i + 1) l :=
  let ⟨h1, p, h2, h3⟩ := h
  ⟨h1, p, by rw [Nat.pow_succ]; omega, h3⟩
theorem Flips.turn {s l : List UInt8} {bit i : Nat} (h : Flips s bit i l) (hj : (bit + i) / 8 < l.length) (d : UInt8) (hd : d.toNat = 2 ^ ((bit + i) % 8)) : Flips s bit (i + 1) (l.set ((bit + i) / 8) (l[(bit + i) / 8] ^^^ d)) := by
  obtain ⟨h1, p, h2, h3⟩ := h
  refine ⟨by simpa using h1, p ^^^ 2 ^ i, ?_, ?_⟩
  · exact Nat.xor_lt_two_pow (Nat.lt_trans h2 (Nat.pow_lt_pow_right (by decide) (by omega))) (Nat.pow_lt_pow_right (by decide) (by omega))
  · rw [leN_set l _ hj, h3, hd, Nat.shiftLeft_xor_distrib, Nat.xor_assoc]
    congr 2
    rw [Nat.shiftLeft_eq, Nat.shiftLeft_eq, ← Nat.pow_add, ← Nat.pow_add]
    congr 1
    omega
theorem flips_law {s l : List UInt8} {bit : Nat} (h : Flips s bit 16 l) (hb : bit < 8 * s.length) : (s = l ↔ crcN s = crcN l) := by
  obtain ⟨h1, p, h2, h3⟩ := h
  refine ⟨fun e => by rw [e], fun e => ?_⟩
  have e1 : crcL s = crcL l := by
    have a := crcL_lt s
    have b := crcL_lt l
    unfold crcN at e
    omega
  unfold crcL at e1
  rw [crcFold_le, crcFold_le, h1, h3, crcBits_xor, crcBits_xor, crcBits_xor, ← Nat.xor_assoc] at e1
  have e2 : crcBits (8 * s.length) (p <<< bit) = 0 := by
    have := congrArg (fun x => (crcBits (8 * s.length) 65535 ^^^ crcBits (8 * s.length) (leN s)) ^^^ x) e1
    simp only [Nat.xor_self, ← Nat.xor_assoc] at this
    simpa using this.symm
  have e3 : crcBits (8 * s.length - bit) p = 0 := by
    rw [show 8 * s.length = bit + (8 * s.length - bit) by omega, crcBits_add, crcBits_shift] at e2
    exact e2
  have e4 : p = 0 := by
    refine Decidable.byContradiction fun hp => ?_
    exact crcBits_ne _ h2 hp e3
  refine (leN_inj l s h1 ?_).symm
  rw [h3, e4]
  simp

end Go.Proofs.YtnfpahanbnidpaaDoor
