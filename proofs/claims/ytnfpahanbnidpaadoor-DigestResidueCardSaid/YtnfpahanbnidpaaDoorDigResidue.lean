/- DigestResidue: the plain law. -/
import Derived.Test.YtnfpahanbnidpaaDoorDigJ
set_option linter.unusedSimpArgs false
set_option linter.unusedVariables false
namespace Go.Proofs.YtnfpahanbnidpaaDoor
open Go.RowKit

theorem residue_table : ∀ h : Fin 256, crcBits 8 (crcBits 8 (h.val * 256 + 255) ^^^ (255 - h.val)) = 61624 := by decide +kernel
theorem not_low : ∀ x : Fin 256, x.val ^^^ (255 - x.val) = 255 := by decide +kernel
theorem low_ones (h q : Nat) (hq : q < 256) : (256 * h + q) ^^^ (255 - q) = h * 256 + 255 := by
  have h1 : ((256 * h + q) ^^^ (255 - q)) / 2 ^ 8 = h := by
    rw [Nat.xor_div_two_pow, show (256 * h + q) / 2 ^ 8 = h by omega, show (255 - q) / 2 ^ 8 = 0 by omega, Nat.xor_zero]
  have h2 : ((256 * h + q) ^^^ (255 - q)) % 2 ^ 8 = 255 := by
    rw [Nat.xor_mod_two_pow, show (256 * h + q) % 2 ^ 8 = q by omega, show (255 - q) % 2 ^ 8 = 255 - q by omega]
    exact not_low ⟨q, hq⟩
  omega
/-- The residue: a string followed by the two bytes of its Crc. -/
theorem residue_law (l : List UInt8) : crcN (l ++ [UInt8.ofNat (crcN l % 256), UInt8.ofNat (crcN l / 256)]) = 3911 := by
  have hx := crcL_lt l
  obtain ⟨h, q, hq, hh, he⟩ : ∃ h q, q < 256 ∧ h < 256 ∧ crcL l = 256 * h + q := ⟨crcL l / 256, crcL l % 256, by omega, by omega, by omega⟩
  have e1 : crcN l % 256 = 255 - q := by unfold crcN; omega
  have e2 : crcN l / 256 = 255 - h := by unfold crcN; omega
  have e3 : crcL (l ++ [UInt8.ofNat (crcN l % 256), UInt8.ofNat (crcN l / 256)]) = crcByte (crcByte (crcL l) (UInt8.ofNat (crcN l % 256))) (UInt8.ofNat (crcN l / 256)) := by
    unfold crcL
    rw [List.foldl_append]
    rfl
  have t1 : (UInt8.ofNat (255 - q)).toNat = 255 - q := by simp; omega
  have t2 : (UInt8.ofNat (255 - h)).toNat = 255 - h := by simp; omega
  unfold crcN at e3 ⊢
  rw [show 65535 - crcL l = crcN l from rfl] at e3 ⊢
  rw [e3, e1, e2, he]
  unfold crcByte
  rw [t1, t2, low_ones h q hq, residue_table ⟨h, hh⟩]

end Go.Proofs.YtnfpahanbnidpaaDoor
