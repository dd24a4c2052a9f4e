/- The walks of exact.in, exact.Scale, basin.slope. -/
import Derived.Test.YtmkbojhnbkdalaaBasA
import Derived.Test.YtmkbojhnbkdalaaDivB
set_option linter.unusedSimpArgs false
set_option linter.unusedVariables false
namespace Go.Proofs.Ytmkbojhnbkdalaa
open Go.RowKit

theorem div64_any (hi lo y : Nat) (w : World) (hy : 0 < y) (hyM : y ≤ 1125899906842624) (hhi : hi < y) (hlo : lo < 18446744073709551616) :
    Calls Try.prog 77 #[.int .u64 (hi : Int), .int .u64 (lo : Int), .int .u64 (y : Int)] w fun e w' => e = .returned (.tuple #[.int .u64 (((hi * 18446744073709551616 + lo) / y : Nat) : Int), .int .u64 (((hi * 18446744073709551616 + lo) % y : Nat) : Int)]) ∧ Below w.heap.size w w' := by
  rcases Nat.eq_zero_or_pos hi with h | h
  · subst h
    rw [Nat.zero_mul, Nat.zero_add]
    exact div64_small lo y w hy (by omega) hlo
  · refine (div64_big hi lo y w hy hyM hhi hlo h).mono ?_
    rintro e w' ⟨he, rfl⟩
    exact ⟨he, Below.refl _ _⟩

set_option maxRecDepth 100000 in
theorem inE_any (n lo : Int) (w : World) : Calls Try.prog 75 #[.int .i64 n, .int .i64 lo] w fun e w' => e = .returned (.bool (wthB n lo maxVolI)) ∧ w = w' := by
  obtain ⟨r, hr⟩ : ∃ r, r = decide (n ≤ 1125899906842624) := ⟨_, rfl⟩
  have HW := Lib.hid (show wthB n lo maxVolI = (decide (lo ≤ n) && r) by rw [hr]; rfl)
  have hr' := hr.symm
  clear hr
  by_cases h : lo ≤ n
  · go_enter Try.func75, Try.ntmps75
    go_wp2
    go_ret
    exact ⟨by rw [HW.out, decide_eq_true h]; simp, rfl⟩
  · go_enter Try.func75, Try.ntmps75
    go_wp2
    go_ret
    exact ⟨by rw [HW.out, show decide (lo ≤ n) = false by simp; omega]; simp, rfl⟩

theorem big_div (D hi lo M : Nat) (hD : 0 < D) (h : D ≤ hi) : M ≤ (hi * M + lo) / D := by
  rw [Nat.le_div_iff_mul_le hD]
  have := Nat.mul_le_mul_right M h
  rw [Nat.mul_comm D M] at this
  omega
def scaleB (a num den : Int) : Bool := volB a && volB num && wthB den 1 maxVolI && decide (a * num / den ≤ maxVolI)
def scaleQ (a num den : Int) : Int := if scaleB a num den then a * num / den else 0
def scaleR (a num den : Int) : Int := if scaleB a num den then a * num % den else 0
set_option maxRecDepth 100000 in
set_option maxHeartbeats 1000000 in
theorem scale_any (a num den : Int) (w : World) :
    Calls Try.prog 66 #[.int .i64 a, .int .i64 num, .int .i64 den] w fun e w' => e = .returned (.tuple #[.int .i64 (scaleQ a num den), .int .i64 (scaleR a num den), .bool (scaleB a num den)]) ∧ Below w.heap.size w w' := by
  obtain ⟨v1, hv1⟩ : ∃ r, r = volB a := ⟨_, rfl⟩
  obtain ⟨v2, hv2⟩ : ∃ r, r = volB num := ⟨_, rfl⟩
  obtain ⟨v3, hv3⟩ : ∃ r, r = wthB den 1 maxVolI := ⟨_, rfl⟩
  have HB := Lib.hid (show scaleB a num den = (v1 && v2 && v3 && decide (a * num / den ≤ maxVolI)) by rw [hv1, hv2, hv3]; rfl)
  have c1 := inE_any a 0 w
  have c2 := inE_any num 0 w
  have c3 := inE_any den 1 w
  rw [show wthB a 0 maxVolI = v1 from hv1.symm] at c1
  rw [show wthB num 0 maxVolI = v2 from hv2.symm] at c2
  rw [← hv3] at c3
  have C1 := Lib.hid c1
  have C2 := Lib.hid c2
  have C3 := Lib.hid c3
  have H1 := Lib.hid hv1
  have H2 := Lib.hid hv2
  have H3 := Lib.hid hv3
  have HF : Hid (scaleB a num den = false → scaleQ a num den = 0 ∧ scaleR a num den = 0) := fun h => by unfold scaleQ scaleR; rw [h]; exact ⟨rfl, rfl⟩
  clear c1 c2 c3 hv1 hv2 hv3
  go_enter Try.func66, Try.ntmps66
  go_wp2_with fail
  refine C1.out.mono ?_
  rintro e w' ⟨rfl, rfl⟩
  cases v1
  · have hb : scaleB a num den = false := by rw [HB.out]; rfl
    have HB0 := Lib.hid hb
    clear hb
    go_wp2_with fail
    go_ret3
    exact ⟨by rw [HB0.out, (HF HB0.out).1, (HF HB0.out).2]; rfl, Below.refl _ _⟩
  go_wp2_with fail
  refine C2.out.mono ?_
  rintro e w' ⟨rfl, rfl⟩
  cases v2
  · have hb : scaleB a num den = false := by rw [HB.out]; rfl
    have HB0 := Lib.hid hb
    clear hb
    go_wp2_with fail
    go_ret3
    exact ⟨by rw [HB0.out, (HF HB0.out).1, (HF HB0.out).2]; rfl, Below.refl _ _⟩
  go_wp2_with fail
  refine C3.out.mono ?_
  rintro e w' ⟨rfl, rfl⟩
  cases v3
  · have hb : scaleB a num den = false := by rw [HB.out]; rfl
    have HB0 := Lib.hid hb
    clear hb
    go_wp2_with fail
    go_ret3
    exact ⟨by rw [HB0.out, (HF HB0.out).1, (HF HB0.out).2]; rfl, Below.refl _ _⟩
  have r1 := wthB_true H1.out.symm
  have r2 := wthB_true H2.out.symm
  have r3 := wthB_true H3.out.symm
  unfold maxVolI at r1 r2 r3
  obtain ⟨A, hA⟩ : ∃ A : Nat, a = (A : Int) := ⟨a.toNat, by omega⟩
  obtain ⟨Nm, hNm⟩ : ∃ A : Nat, num = (A : Int) := ⟨num.toNat, by omega⟩
  obtain ⟨D, hD⟩ : ∃ A : Nat, den = (A : Int) := ⟨den.toNat, by omega⟩
  subst hA hNm hD
  have hAl : A ≤ 1125899906842624 := by omega
  have hNl : Nm ≤ 1125899906842624 := by omega
  have hDl : D ≤ 1125899906842624 := by omega
  have hD0 : 0 < D := by omega
  have wA : IntKind.u64.wrap (A : Int) = (A : Int) := u64w _ _ (u64e _ (by omega))
  have wN : IntKind.u64.wrap (Nm : Int) = (Nm : Int) := u64w _ _ (u64e _ (by omega))
  have wD : IntKind.u64.wrap (D : Int) = (D : Int) := u64w _ _ (u64e _ (by omega))
  obtain ⟨X, hX⟩ : ∃ X, X = A * Nm := ⟨_, rfl⟩
  have hXi : (A : Int) * (Nm : Int) = (X : Int) := by rw [hX]; exact (Int.natCast_mul _ _).symm
  have cM := Try.bits_Mul64 A Nm (by omega) (by omega) w
  rw [← hX] at cM
  obtain ⟨hi, hhi⟩ : ∃ z, z = X / 18446744073709551616 := ⟨_, rfl⟩
  obtain ⟨lo, hlo⟩ : ∃ z, z = X % 18446744073709551616 := ⟨_, rfl⟩
  rw [← hhi, ← hlo] at cM
  have CM := Lib.hid cM
  have hXX : hi * 18446744073709551616 + lo = X := by omega
  have hlol : lo < 18446744073709551616 := by rw [hlo]; exact Nat.mod_lt _ (by decide)
  have HBX := Lib.hid (show scaleB (A : Int) (Nm : Int) (D : Int) = decide (X / D ≤ 1125899906842624) by
    rw [HB.out, hXi, show (X : Int) / (D : Int) = ((X / D : Nat) : Int) from (Int.natCast_ediv _ _).symm]
    unfold maxVolI
    simp
    omega)
  have HQX := Lib.hid (show (A : Int) * (Nm : Int) / (D : Int) = ((X / D : Nat) : Int) ∧ (A : Int) * (Nm : Int) % (D : Int) = ((X % D : Nat) : Int) by rw [hXi]; exact ⟨(Int.natCast_ediv _ _).symm, (Int.natCast_emod _ _).symm⟩)
  clear r1 r2 r3 cM hX hXi hhi hlo H1 H2 H3 HB C1 C2 C3
  have HAl := Lib.hid hAl
  have HNl := Lib.hid hNl
  have HDl := Lib.hid hDl
  have HLO := Lib.hid hlol
  have HXX := Lib.hid hXX
  clear hAl hNl hDl hlol hXX
  go_wp2_with fail
  refine CM.out.mono ?_
  rintro e w' ⟨rfl, rfl⟩
  by_cases hge : D ≤ hi
  · have dge : decide ((D : Int) ≤ (hi : Int)) = true := by simpa using hge
    have hb : scaleB (A : Int) (Nm : Int) (D : Int) = false := by
      rw [HBX.out, decide_eq_false_iff_not, ← HXX.out]
      have h2 := big_div D hi lo 18446744073709551616 hD0 hge
      exact fun h => absurd (Nat.le_trans h2 h) (by decide)
    have HB0 := Lib.hid hb
    clear hb dge
    go_wp2_with fail
    go_ret3
    exact ⟨by rw [HB0.out, (HF HB0.out).1, (HF HB0.out).2]; rfl, Below.refl _ _⟩
  have cD := div64_any hi lo D w' hD0 HDl.out (by omega) HLO.out
  rw [HXX.out] at cD
  obtain ⟨Q, hQ⟩ : ∃ z, z = X / D := ⟨_, rfl⟩
  obtain ⟨R, hR⟩ : ∃ z, z = X % D := ⟨_, rfl⟩
  have hQl : Q ≤ 1125899906842624 → IntKind.i64.wrap (Q : Int) = (Q : Int) := fun h => by rw [IntKind.wrap_i64]; omega
  have hRl : R < D := by rw [hR]; exact Nat.mod_lt _ hD0
  have wR : IntKind.i64.wrap (R : Int) = (R : Int) := by have := HDl.out; rw [IntKind.wrap_i64]; omega
  rw [← hQ, ← hR] at cD
  have HBQ := Lib.hid (show scaleB (A : Int) (Nm : Int) (D : Int) = decide (Q ≤ 1125899906842624) by rw [HBX.out, hQ])
  have HQQ := Lib.hid (show (A : Int) * (Nm : Int) / (D : Int) = (Q : Int) ∧ (A : Int) * (Nm : Int) % (D : Int) = (R : Int) by rw [hQ, hR]; exact HQX.out)
  have CD := Lib.hid cD
  clear cD hQ hR hRl HBX HQX
  go_wp2_with fail
  refine CD.out.mono ?_
  rintro e w2 ⟨rfl, hb2⟩
  have HB2 := Lib.hid hb2
  clear hb2
  by_cases hq : 1125899906842624 < Q
  · have dq : decide (1125899906842624 < (Q : Int)) = true := by simp; omega
    have hb : scaleB (A : Int) (Nm : Int) (D : Int) = false := by rw [HBQ.out, decide_eq_false_iff_not]; omega
    have HB0 := Lib.hid hb
    clear hb hq hQl
    go_wp2_with fail
    go_ret3
    exact ⟨by rw [HB0.out, (HF HB0.out).1, (HF HB0.out).2]; rfl, HB2.out⟩
  · have dq : decide (1125899906842624 < (Q : Int)) = false := by simp; omega
    have wQ := hQl (by omega)
    have hb : scaleB (A : Int) (Nm : Int) (D : Int) = true := by rw [HBQ.out, decide_eq_true_eq]; omega
    have HS := Lib.hid (show scaleQ (A : Int) (Nm : Int) (D : Int) = (Q : Int) ∧ scaleR (A : Int) (Nm : Int) (D : Int) = (R : Int) by
      unfold scaleQ scaleR
      rw [hb]
      exact HQQ.out)
    have HB0 := Lib.hid hb
    clear hb hq hQl
    go_wp2_with fail
    go_ret3
    exact ⟨by rw [HB0.out, HS.out.1, HS.out.2]; rfl, HB2.out⟩

end Go.Proofs.Ytmkbojhnbkdalaa
