/- Knuth's division of two words by one, in plain numbers. -/
import Derived.WalkKit
set_option linter.unusedVariables false
namespace Go.Proofs.Ytmkbojhnbkdalaa

/-- What holds at the head of the loop that corrects a quotient's digit. -/
structure KInv (yn1 yn0 u d q r : Nat) : Prop where
  eq : u = q * yn1 + r
  up : u * 4294967296 + d < (q + 1) * (yn1 * 4294967296 + yn0)
  rl : r < 4294967296
  ql : q ≤ 4294967297
theorem KInv.start {yn1 yn0 u d : Nat} (h1 : 2147483648 ≤ yn1) (h1' : yn1 < 4294967296) (h0 : yn0 < 4294967296) (hu : u < yn1 * 4294967296 + yn0) (hd : d < 4294967296) : KInv yn1 yn0 u d (u / yn1) (u % yn1) := by
  have hdm : u / yn1 * yn1 + u % yn1 = u := by rw [Nat.mul_comm]; exact Nat.div_add_mod u yn1
  have hml : u % yn1 < yn1 := Nat.mod_lt _ (by omega)
  generalize u / yn1 = q at *
  generalize u % yn1 = r at *
  refine ⟨hdm.symm, ?_, by omega, ?_⟩
  · have h2 : (q + 1) * (yn1 * 4294967296 + yn0) = (q * yn1 + yn1) * 4294967296 + (q + 1) * yn0 := by
      rw [Nat.mul_add, ← Nat.mul_assoc, Nat.add_mul q 1 yn1, Nat.one_mul]
    rw [h2]
    generalize q * yn1 = p at *
    omega
  · refine Nat.le_of_not_lt fun hq => ?_
    have h3 : 4294967298 * yn1 ≤ q * yn1 := Nat.mul_le_mul_right _ hq
    generalize q * yn1 = p at *
    omega
theorem KInv.split {yn1 yn0 u d q r : Nat} (h : KInv yn1 yn0 u d q r) : u * 4294967296 + d = q * yn1 * 4294967296 + (4294967296 * r + d) ∧ q * (yn1 * 4294967296 + yn0) = q * yn1 * 4294967296 + q * yn0 := by
  refine ⟨?_, by rw [Nat.mul_add, Nat.mul_assoc]⟩
  rw [h.eq]
  generalize q * yn1 = p
  omega
/-- The loop ends at a digit that is not too large: it is the digit. -/
theorem KInv.done {yn1 yn0 u d q r : Nat} (h : KInv yn1 yn0 u d q r) (hc : q * yn0 ≤ 4294967296 * r + d) : q = (u * 4294967296 + d) / (yn1 * 4294967296 + yn0) := by
  obtain ⟨s1, s2⟩ := h.split
  have hle : q * (yn1 * 4294967296 + yn0) ≤ u * 4294967296 + d := by
    rw [s1, s2]
    generalize q * yn1 = p
    generalize q * yn0 = p2 at *
    omega
  symm
  exact Nat.div_eq_of_lt_le hle h.up
/-- A digit that is too large is lowered by one. -/
theorem KInv.next {yn1 yn0 u d q r : Nat} (h1' : yn1 < 4294967296) (h : KInv yn1 yn0 u d q r) (hu : u < yn1 * 4294967296 + yn0) (hd : d < 4294967296) (hc : 4294967296 ≤ q ∨ 4294967296 * r + d < q * yn0) :
    1 ≤ q ∧ u = (q - 1) * yn1 + (r + yn1) ∧ u * 4294967296 + d < (q - 1 + 1) * (yn1 * 4294967296 + yn0) ∧ q - 1 ≤ 4294967296 := by
  obtain ⟨s1, s2⟩ := h.split
  have hq1 : 1 ≤ q := by
    rcases hc with hc | hc
    · omega
    · refine Nat.pos_of_ne_zero fun hz => ?_
      rw [hz, Nat.zero_mul] at hc
      omega
  obtain ⟨q', rfl⟩ : ∃ q', q = q' + 1 := ⟨q - 1, by omega⟩
  rw [Nat.add_sub_cancel]
  refine ⟨by omega, ?_, ?_, by have := h.ql; omega⟩
  · have := h.eq
    rw [Nat.add_mul, Nat.one_mul] at this
    omega
  · rcases hc with hc | hc
    · have h3 : 4294967296 * (yn1 * 4294967296 + yn0) ≤ (q' + 1) * (yn1 * 4294967296 + yn0) := Nat.mul_le_mul_right _ hc
      obtain ⟨p, hp⟩ : ∃ p, p = (q' + 1) * (yn1 * 4294967296 + yn0) := ⟨_, rfl⟩
      rw [← hp] at h3 ⊢
      clear s2 hp
      omega
    · rw [s1, s2]
      generalize (q' + 1) * yn1 = p
      generalize (q' + 1) * yn0 = p2 at *
      omega
theorem KInv.again {yn1 yn0 u d q r : Nat} (h1' : yn1 < 4294967296) (h : KInv yn1 yn0 u d q r) (hu : u < yn1 * 4294967296 + yn0) (hd : d < 4294967296) (hc : 4294967296 ≤ q ∨ 4294967296 * r + d < q * yn0) (hr : r + yn1 < 4294967296) : KInv yn1 yn0 u d (q - 1) (r + yn1) :=
  let ⟨_, h2, h3, h4⟩ := h.next h1' hu hd hc
  ⟨h2, h3, hr, by omega⟩
theorem KInv.broke {yn1 yn0 u d q r : Nat} (h1' : yn1 < 4294967296) (h0 : yn0 < 4294967296) (h : KInv yn1 yn0 u d q r) (hu : u < yn1 * 4294967296 + yn0) (hd : d < 4294967296) (hc : 4294967296 ≤ q ∨ 4294967296 * r + d < q * yn0) (hr : 4294967296 ≤ r + yn1) :
    q - 1 = (u * 4294967296 + d) / (yn1 * 4294967296 + yn0) := by
  obtain ⟨h1, h2, h3, h4⟩ := h.next h1' hu hd hc
  have hb : (q - 1) * yn0 ≤ 4294967296 * yn0 := Nat.mul_le_mul_right _ h4
  have e1 : u * 4294967296 + d = (q - 1) * yn1 * 4294967296 + (4294967296 * (r + yn1) + d) := by
    rw [h2]
    generalize (q - 1) * yn1 = p
    omega
  have e2 : (q - 1) * (yn1 * 4294967296 + yn0) = (q - 1) * yn1 * 4294967296 + (q - 1) * yn0 := by rw [Nat.mul_add, Nat.mul_assoc]
  symm
  refine Nat.div_eq_of_lt_le ?_ h3
  rw [e1, e2]
  generalize (q - 1) * yn1 = p
  generalize (q - 1) * yn0 = p2 at *
  omega
/-- The two digits are the quotient, what is left the remainder. -/
theorem knuth {N y t Y u un1 un0 u2 q1 q0 : Nat} (hy : 0 < y) (ht : 0 < t) (hY : Y = y * t) (hN : N * t = (u * 4294967296 + un1) * 4294967296 + un0)
    (h1 : q1 = (u * 4294967296 + un1) / Y) (h2 : u2 = u * 4294967296 + un1 - q1 * Y) (h3 : q0 = (u2 * 4294967296 + un0) / Y) :
    N / y = q1 * 4294967296 + q0 ∧ N % y = (u2 * 4294967296 + un0 - q0 * Y) / t := by
  have hYp : 0 < Y := by rw [hY]; exact Nat.mul_pos hy ht
  have e1 : q1 * Y + u2 = u * 4294967296 + un1 := by
    have : q1 * Y ≤ u * 4294967296 + un1 := by rw [h1]; exact Nat.div_mul_le_self _ _
    omega
  have hr0 : u2 * 4294967296 + un0 - q0 * Y = (u2 * 4294967296 + un0) % Y := by
    rw [h3, Nat.mul_comm (_ / Y) Y, Nat.mod_eq_sub]
  have e2 : q0 * Y + (u2 * 4294967296 + un0) % Y = u2 * 4294967296 + un0 := by rw [h3, Nat.mul_comm (_ / Y) Y]; exact Nat.div_add_mod _ _
  have hrl : (u2 * 4294967296 + un0) % Y < Y := Nat.mod_lt _ hYp
  rw [hr0]
  obtain ⟨r0, hr⟩ : ∃ r0, r0 = (u2 * 4294967296 + un0) % Y := ⟨_, rfl⟩
  rw [← hr] at e2 hrl ⊢
  clear hr0 hr
  have e3 : N * t = (q1 * 4294967296 + q0) * (y * t) + r0 := by
    rw [hN, ← e1, ← hY, Nat.add_mul (q1 * 4294967296) q0 Y]
    have : q1 * 4294967296 * Y = q1 * Y * 4294967296 := by rw [Nat.mul_assoc, Nat.mul_comm 4294967296 Y, ← Nat.mul_assoc]
    rw [this]
    generalize q1 * Y = p at *
    generalize q0 * Y = p2 at *
    omega
  have hQ : N / y = q1 * 4294967296 + q0 := by
    have h4 : N * t / (y * t) = N / y := Nat.mul_div_mul_right N y ht
    rw [← h4, e3, Nat.mul_comm _ (y * t), Nat.mul_add_div (by rw [← hY]; exact hYp), Nat.div_eq_of_lt (by rw [← hY]; exact hrl), Nat.add_zero]
  refine ⟨hQ, ?_⟩
  have h5 : N % y * t = r0 := by
    have h6 : N % y * t = N * t % (y * t) := (Nat.mul_mod_mul_right t N y).symm
    rw [h6, e3, Nat.mul_comm _ (y * t), Nat.mul_add_mod, Nat.mod_eq_of_lt (by rw [← hY]; exact hrl)]
  rw [← h5, Nat.mul_div_cancel _ ht]

end Go.Proofs.Ytmkbojhnbkdalaa
