/- The walk of math/bits.Div64 at divisors of at most 2^50. -/
import Derived.Test.YtmkbojhnbkdalaaDivA
import Derived.Test.YtmkbojhnbkdalaaShelf
import Derived.Test.YtmkbojhnbkdalaaRegion
import Derived.Laws.Shifts
import Derived.Lib.ItoaNum
import Derived.Laws.BitsLemmas
import Derived.Outline
set_option linter.unusedSimpArgs false
set_option linter.unusedVariables false
namespace Go.Proofs.Ytmkbojhnbkdalaa
open Go.RowKit

theorem u64w (a : Int) (b : Nat) (h : a % 18446744073709551616 = (b : Int)) : IntKind.u64.wrap a = (b : Int) := by rw [IntKind.wrap_u64]; exact h
theorem u64e (b : Nat) (h : b < 18446744073709551616) : (b : Int) % 18446744073709551616 = (b : Int) := Int.emod_eq_of_lt (Int.natCast_nonneg _) (by omega)
theorem wrapsU64 (n : Int) (h₀ : 0 ≤ n) (h₁ : n < 2 ^ 64) : IntKind.u64.wrap n = n := by rw [IntKind.wrap_u64]; omega
theorem and_mask (x : Nat) (hx : x < 18446744073709551616) : bits .and .u64 (x : Int) 4294967295 = ((x % 4294967296 : Nat) : Int) := by
  have := (bits_nat .u64 64 (by decide) wrapsU64 x 4294967295 hx (by decide)).1
  rw [show (4294967295 : Nat) = 2 ^ 32 - 1 from rfl, Nat.and_two_pow_sub_one_eq_mod] at this
  exact this
theorem or_high (a b s : Nat) (h : b < 2 ^ s) (hx : a * 2 ^ s < 18446744073709551616) (hb : b < 18446744073709551616) : bits .or .u64 ((a * 2 ^ s : Nat) : Int) (b : Int) = ((a * 2 ^ s + b : Nat) : Int) := by
  rw [(bits_nat .u64 64 (by decide) wrapsU64 (a * 2 ^ s) b hx hb).2]
  have := Nat.two_pow_add_eq_or_of_lt (i := s) (b := b) h a
  rw [Nat.mul_comm a, ← this]
/-- How far the divisor is shifted. -/
theorem lz_facts (y : Nat) (hy : 0 < y) (hyM : y ≤ 1125899906842624) : ∃ s : Nat, (64 - (Lib.bitLen y : Int)) = (s : Int) ∧ 13 ≤ s ∧ s < 64 ∧ 9223372036854775808 ≤ y * 2 ^ s ∧ y * 2 ^ s < 18446744073709551616 := by
  obtain ⟨h1, h2, h3⟩ := Lib.bitLenAux_bounds 64 y (by omega) (by omega)
  have h4 : Lib.bitLen y ≤ 51 := Lib.bitLen_le y 51 (by decide) (by omega)
  have e : Lib.bitLen y = Lib.bitLenAux 64 y := rfl
  rw [← e] at h1 h2 h3
  obtain ⟨L, hL⟩ : ∃ L, L = Lib.bitLen y := ⟨_, rfl⟩
  rw [← hL] at h1 h2 h3 h4 ⊢
  refine ⟨64 - L, by omega, by omega, by omega, ?_, ?_⟩
  · have h5 : 2 ^ (L - 1) * 2 ^ (64 - L) ≤ y * 2 ^ (64 - L) := Nat.mul_le_mul_right _ h2
    rw [← Nat.pow_add, show L - 1 + (64 - L) = 63 by omega] at h5
    exact h5
  · have h5 : y * 2 ^ (64 - L) < 2 ^ L * 2 ^ (64 - L) := Nat.mul_lt_mul_of_pos_right h3 (Nat.two_pow_pos _)
    rw [← Nat.pow_add, show L + (64 - L) = 64 by omega] at h5
    exact h5
theorem shift_sum (hi lo t t' M : Nat) (e : t' * t = M) (htp : 0 < t) : (hi * M + lo) * t = (hi * t + lo / t') * M + lo * t % M := by
  have h1 : lo * t / M = lo / t' := by rw [← e, Nat.mul_div_mul_right _ _ htp]
  have h2 := Nat.div_add_mod (lo * t) M
  rw [h1, Nat.mul_comm M] at h2
  rw [Nat.add_mul, Nat.add_mul, Nat.mul_right_comm hi M t]
  omega
/-- The dividend, shifted, in its parts. -/
theorem shift_parts (hi lo s : Nat) (hs : s < 64) (hlo : lo < 18446744073709551616) : lo / 2 ^ (64 - s) < 2 ^ s ∧ (hi * 18446744073709551616 + lo) * 2 ^ s = (hi * 2 ^ s + lo / 2 ^ (64 - s)) * 18446744073709551616 + lo * 2 ^ s % 18446744073709551616 := by
  have e : (2 : Nat) ^ (64 - s) * 2 ^ s = 18446744073709551616 := by rw [← Nat.pow_add, show 64 - s + s = 64 by omega]
  have hp : 0 < 2 ^ (64 - s) := Nat.two_pow_pos _
  have hps : 0 < 2 ^ s := Nat.two_pow_pos _
  refine ⟨?_, ?_⟩
  · apply Nat.div_lt_of_lt_mul
    rw [e]
    exact hlo
  · exact shift_sum hi lo (2 ^ s) (2 ^ (64 - s)) 18446744073709551616 e hps
theorem top_lt {hi y s a : Nat} (h : hi < y) (ha : a < 2 ^ s) : hi * 2 ^ s + a < y * 2 ^ s := by
  have : (hi + 1) * 2 ^ s ≤ y * 2 ^ s := Nat.mul_le_mul_right _ h
  rw [Nat.add_mul, Nat.one_mul] at this
  omega

set_option maxRecDepth 100000 in
set_option maxHeartbeats 1000000 in
theorem div64_small (lo y : Nat) (w : World) (hy : 0 < y) (hyM : y < 18446744073709551616) (hlo : lo < 18446744073709551616) :
    Calls Try.prog 77 #[.int .u64 ((0 : Nat) : Int), .int .u64 (lo : Int), .int .u64 (y : Int)] w fun e w' => e = .returned (.tuple #[.int .u64 ((lo / y : Nat) : Int), .int .u64 ((lo % y : Nat) : Int)]) ∧ Below w.heap.size w w' := by
  obtain ⟨Q, hQ⟩ : ∃ q, q = lo / y := ⟨_, rfl⟩
  obtain ⟨R, hR⟩ : ∃ q, q = lo % y := ⟨_, rfl⟩
  rw [← hQ, ← hR]
  have lQ : Q < 18446744073709551616 := by rw [hQ]; exact Nat.lt_of_le_of_lt (Nat.div_le_self _ _) hlo
  have lR : R < 18446744073709551616 := by rw [hR]; exact Nat.lt_of_le_of_lt (Nat.mod_le _ _) hlo
  have e1 : (lo : Int) / (y : Int) = (Q : Int) := by rw [hQ, Int.natCast_ediv]
  have e2 : (lo : Int) % (y : Int) = (R : Int) := by rw [hR, Int.natCast_emod]
  have e3 : (lo : Int).tdiv (y : Int) = (Q : Int) := by rw [Int.tdiv_eq_ediv_of_nonneg (by omega)]; exact e1
  have e4 : (lo : Int).tmod (y : Int) = (R : Int) := by rw [Int.tmod_eq_emod_of_nonneg (by omega)]; exact e2
  have vQ : IntKind.u64.wrap (Q : Int) = (Q : Int) := u64w _ _ (u64e _ lQ)
  have vR : IntKind.u64.wrap (R : Int) = (R : Int) := u64w _ _ (u64e _ lR)
  have hy0 : ((y : Int) == 0) = false := by simp; omega
  have hy1 : ¬ (y : Int) = 0 := by omega
  have hyp : (0 : Int) < (y : Int) := by omega
  have hy2 : decide ((y : Int) ≤ 0) = false := by simp; omega
  clear hQ hR lQ lR hyM hlo
  rw [show ((0 : Nat) : Int) = 0 from rfl]
  go_enter Try.func77, Try.ntmps77
  go_wp2_with fail
  refine wp_region_head 8 (fun w' => w' = w.drew) (by kernel_rfl) (by kernel_rfl) rfl ?_
  iterate 8 (refine chain_pure (by rfl) ?_; apply Exists.intro; apply And.intro; (case left => (intro w hSw; (try dsimp only at hSw); go_simp; try with_reducible rfl)); (try simp only [Act.put, List.setIfInBounds_toArray, List.set_cons_zero, List.set_cons_succ]))
  intro W hSW
  subst hSW
  go_wp2
  go_ret2
  exact ⟨rfl, (Below.refl _ _).drew⟩

set_option maxRecDepth 100000 in
set_option maxHeartbeats 4000000 in
theorem div64_big (hi lo y : Nat) (w : World) (hy : 0 < y) (hyM : y ≤ 1125899906842624) (hhi : hi < y) (hlo : lo < 18446744073709551616) (hh0 : 0 < hi) :
    Calls Try.prog 77 #[.int .u64 (hi : Int), .int .u64 (lo : Int), .int .u64 (y : Int)] w fun e w' => e = .returned (.tuple #[.int .u64 (((hi * 18446744073709551616 + lo) / y : Nat) : Int), .int .u64 (((hi * 18446744073709551616 + lo) % y : Nat) : Int)]) ∧ w = w' := by
  obtain ⟨s, hsL, hs1, hs2, hsY1, hsY2⟩ := lz_facts y hy hyM
  obtain ⟨hA2, hNN⟩ := shift_parts hi lo s hs2 hlo
  have htop := top_lt hhi hA2
  obtain ⟨Nn, hNn⟩ : ∃ N, N = hi * 18446744073709551616 + lo := ⟨_, rfl⟩
  rw [← hNn] at hNN ⊢
  obtain ⟨t, ht⟩ : ∃ t, t = 2 ^ s := ⟨_, rfl⟩
  have htp : 0 < t := by rw [ht]; exact Nat.two_pow_pos _
  have hti : (2 : Int) ^ s = (t : Int) := by rw [ht]; exact (Int.natCast_pow 2 s).symm
  obtain ⟨Y, hY⟩ : ∃ Y, Y = y * t := ⟨_, rfl⟩
  obtain ⟨a1, ha1⟩ : ∃ a, a = hi * t := ⟨_, rfl⟩
  obtain ⟨a2, ha2⟩ : ∃ a, a = lo / 2 ^ (64 - s) := ⟨_, rfl⟩
  obtain ⟨u, hu⟩ : ∃ u, u = a1 + a2 := ⟨_, rfl⟩
  obtain ⟨L, hL⟩ : ∃ L, L = lo * t % 18446744073709551616 := ⟨_, rfl⟩
  have hor := or_high hi a2 s (by rw [ha2]; exact hA2) (by omega) (by omega)
  rw [← ht, ← ha1, ← hu] at hor
  rw [← ht, ← hY] at hsY1 hsY2
  rw [← ht, ← ha1, ← ha2, ← hu, ← hL] at hNN
  rw [← ht, ← ha1, ← hY, ← ha2, ← hu] at htop
  have hLl : L < 18446744073709551616 := by rw [hL]; exact Nat.mod_lt _ (by decide)
  obtain ⟨yn1, hyn1⟩ : ∃ a, a = Y / 4294967296 := ⟨_, rfl⟩
  obtain ⟨yn0, hyn0⟩ : ∃ a, a = Y % 4294967296 := ⟨_, rfl⟩
  obtain ⟨un1, hun1⟩ : ∃ a, a = L / 4294967296 := ⟨_, rfl⟩
  obtain ⟨un0, hun0⟩ : ∃ a, a = L % 4294967296 := ⟨_, rfl⟩
  have hYY : Y = yn1 * 4294967296 + yn0 := by omega
  have hLL : L = un1 * 4294967296 + un0 := by omega
  have hNT : Nn * t = (u * 4294967296 + un1) * 4294967296 + un0 := by rw [hNN, hLL]; omega
  have y1a : 2147483648 ≤ yn1 := by omega
  have y1b : yn1 < 4294967296 := by omega
  have y0b : yn0 < 4294967296 := by omega
  have u1b : un1 < 4294967296 := by omega
  have u0b : un0 < 4294967296 := by omega
  have huY : u < yn1 * 4294967296 + yn0 := by omega
  have bY : (y : Int) * (t : Int) = (Y : Int) := by rw [hY]; exact (Int.natCast_mul _ _).symm
  have lY : Y < 18446744073709551616 := hsY2
  have ba1 : (hi : Int) * (t : Int) = (a1 : Int) := by rw [ha1]; exact (Int.natCast_mul _ _).symm
  have la1 : a1 < 18446744073709551616 := by omega
  have mL : ((lo : Int) * (t : Int)) % 18446744073709551616 = (L : Int) := by rw [hL, Int.natCast_emod, Int.natCast_mul]; rfl
  obtain ⟨s64, hs64⟩ : ∃ a, a = 64 - s := ⟨_, rfl⟩
  have bs64 : 64 - (s : Int) = (s64 : Int) := by omega
  have ls64 : s64 < 18446744073709551616 := by omega
  obtain ⟨t64, ht64⟩ : ∃ t, t = 2 ^ s64 := ⟨_, rfl⟩
  have hti64 : (2 : Int) ^ s64 = (t64 : Int) := by rw [ht64]; exact (Int.natCast_pow 2 s64).symm
  have ea2 : (lo : Int) / (t64 : Int) = (a2 : Int) := by rw [ha2, ht64, hs64, Int.natCast_ediv]
  have ey1 : (Y : Int) / 4294967296 = (yn1 : Int) := by omega
  have ey0 : bits .and .u64 (Y : Int) 4294967295 = (yn0 : Int) := by rw [and_mask Y hsY2, hyn0]
  have eu1 : (L : Int) / 4294967296 = (un1 : Int) := by omega
  have eu0 : bits .and .u64 (L : Int) 4294967295 = (un0 : Int) := by rw [and_mask L hLl, hun0]
  have mY : ((y : Int) * (t : Int)) % 18446744073709551616 = (Y : Int) := by rw [bY]; exact u64e _ lY
  have wY : IntKind.u64.wrap ((y : Int) * (t : Int)) = (Y : Int) := u64w _ _ mY
  have vY : IntKind.u64.wrap (Y : Int) = (Y : Int) := u64w _ _ (u64e _ lY)
  have xY : (Y : Int) % 18446744073709551616 = (Y : Int) := u64e _ lY
  have ma1 : ((hi : Int) * (t : Int)) % 18446744073709551616 = (a1 : Int) := by rw [ba1]; exact u64e _ la1
  have wa1 : IntKind.u64.wrap ((hi : Int) * (t : Int)) = (a1 : Int) := u64w _ _ ma1
  have va1 : IntKind.u64.wrap (a1 : Int) = (a1 : Int) := u64w _ _ (u64e _ la1)
  have xa1 : (a1 : Int) % 18446744073709551616 = (a1 : Int) := u64e _ la1
  have wL : IntKind.u64.wrap ((lo : Int) * (t : Int)) = (L : Int) := u64w _ _ mL
  have ms64 : (64 - (s : Int)) % 18446744073709551616 = (s64 : Int) := by rw [bs64]; exact u64e _ ls64
  have ws64 : IntKind.u64.wrap (64 - (s : Int)) = (s64 : Int) := u64w _ _ ms64
  have vs64 : IntKind.u64.wrap (s64 : Int) = (s64 : Int) := u64w _ _ (u64e _ ls64)
  have xs64 : (s64 : Int) % 18446744073709551616 = (s64 : Int) := u64e _ ls64
  have vs : IntKind.u64.wrap (s : Int) = (s : Int) := u64w _ _ (u64e _ (by omega))
  have hy0 : ((y : Int) == 0) = false := by simp; omega
  have hyhi : decide ((y : Int) ≤ (hi : Int)) = false := by simp; omega
  have hhi0 : ((hi : Int) == 0) = false := by simp; omega
  have cL := Try.bits_LeadingZeros64 (y : Int) w (by omega) (by omega)
  rw [Int.toNat_natCast, hsL] at cL
  have CL := Lib.hid cL
  obtain ⟨q, hq⟩ : ∃ q, q = u / yn1 := ⟨_, rfl⟩
  obtain ⟨r, hr⟩ : ∃ q, q = u % yn1 := ⟨_, rfl⟩
  have hI := KInv.start y1a y1b y0b huY u1b
  rw [← hq, ← hr] at hI
  have eq1 : (u : Int) / (yn1 : Int) = (q : Int) := by rw [hq, Int.natCast_ediv]
  obtain ⟨p, hp⟩ : ∃ p, p = q * yn1 := ⟨_, rfl⟩
  have bp : (q : Int) * (yn1 : Int) = (p : Int) := by rw [hp]; exact (Int.natCast_mul _ _).symm
  have hup : u = p + r := by rw [hp]; exact hI.eq
  have lp : p < 18446744073709551616 := by omega
  have br : (u : Int) - (p : Int) = (r : Int) := by omega
  have lr : r < 18446744073709551616 := by have := hI.rl; omega
  have mp : ((q : Int) * (yn1 : Int)) % 18446744073709551616 = (p : Int) := by rw [bp]; exact u64e _ lp
  have wp : IntKind.u64.wrap ((q : Int) * (yn1 : Int)) = (p : Int) := u64w _ _ mp
  have vp : IntKind.u64.wrap (p : Int) = (p : Int) := u64w _ _ (u64e _ lp)
  have xp : (p : Int) % 18446744073709551616 = (p : Int) := u64e _ lp
  have mr : ((u : Int) - (p : Int)) % 18446744073709551616 = (r : Int) := by rw [br]; exact u64e _ lr
  have wr : IntKind.u64.wrap ((u : Int) - (p : Int)) = (r : Int) := u64w _ _ mr
  have vr : IntKind.u64.wrap (r : Int) = (r : Int) := u64w _ _ (u64e _ lr)
  have xr : (r : Int) % 18446744073709551616 = (r : Int) := u64e _ lr
  have lq : q < 18446744073709551616 := by have := hI.ql; omega
  have vq : IntKind.u64.wrap (q : Int) = (q : Int) := u64w _ _ (u64e _ lq)
  have hy1z : ¬ (yn1 : Int) = 0 := by omega
  have hy1p : (0 : Int) < (yn1 : Int) := by omega
  have hy1e : ((yn1 : Int) == 0) = false := by simp; omega
  have HI := Lib.hid hI
  have HNT := Lib.hid hNT
  have HYY := Lib.hid hYY
  have HY := Lib.hid hY
  have HhY := Lib.hid huY
  have HY1a := Lib.hid y1a
  have HY1b := Lib.hid y1b
  have HY0b := Lib.hid y0b
  have HU1b := Lib.hid u1b
  have HU0b := Lib.hid u0b
  have HTP := Lib.hid htp
  have HYp := Lib.hid hy
  have HYl := Lib.hid hsY2
  have HYg := Lib.hid hsY1
  clear hsL hsY1 hsY2 hNN htop hNn ht hY ha1 ha2 hu hL hLl hyn1 hyn0 hun1 hun0 hYY hLL hNT y1a y1b y0b u1b u0b huY hs64 ht64 hq hr hI hp hup lp lr lq cL lY la1 ls64 hA2 hyM hlo htp
  go_enter Try.func77, Try.ntmps77
  go_wp2_with fail
  refine CL.out.mono ?_
  rintro e w' ⟨rfl, rfl⟩
  go_wp2_with fail
  go_loop [15, 16] (fun x y => ∃ a b : Nat, x = .int .u64 (a : Int) ∧ y = .int .u64 (b : Int) ∧ KInv yn1 yn0 u un1 a b) (fun x _ => (intOf x).toNat)
  case atStart => exact ⟨q, r, rfl, rfl, HI.out⟩
  case round =>
    obtain ⟨a, b, rfl, rfl, hK⟩ := hrel
    have HK := Lib.hid hK
    clear hK
    by_cases hq1 : 4294967296 ≤ a
    · have dq : decide (4294967296 ≤ (a : Int)) = true := by simp; omega
      have hcond : 4294967296 ≤ a ∨ 4294967296 * b + un1 < a * yn0 := .inl hq1
      have hge := (HK.out.next HY1b.out HhY.out HU1b.out hcond).1
      obtain ⟨a1, ha1⟩ : ∃ z, z = a - 1 := ⟨_, rfl⟩
      obtain ⟨b1, hb1⟩ : ∃ z, z = b + yn1 := ⟨_, rfl⟩
      have ba1 : (a : Int) - 1 = (a1 : Int) := by omega
      have la1 : a1 < 18446744073709551616 := by have := HK.out.ql; omega
      have bb1 : (b : Int) + (yn1 : Int) = (b1 : Int) := by omega
      have lb1 : b1 < 18446744073709551616 := by have := HK.out.rl; have := HY1b.out; omega
      have ma1 : ((a : Int) - 1) % 18446744073709551616 = (a1 : Int) := by rw [ba1]; exact u64e _ la1
      have wa1 : IntKind.u64.wrap ((a : Int) - 1) = (a1 : Int) := u64w _ _ ma1
      have va1 : IntKind.u64.wrap (a1 : Int) = (a1 : Int) := u64w _ _ (u64e _ la1)
      have xa1 : (a1 : Int) % 18446744073709551616 = (a1 : Int) := u64e _ la1
      have mb1 : ((b : Int) + (yn1 : Int)) % 18446744073709551616 = (b1 : Int) := by rw [bb1]; exact u64e _ lb1
      have wb1 : IntKind.u64.wrap ((b : Int) + (yn1 : Int)) = (b1 : Int) := u64w _ _ mb1
      have vb1 : IntKind.u64.wrap (b1 : Int) = (b1 : Int) := u64w _ _ (u64e _ lb1)
      have xb1 : (b1 : Int) % 18446744073709551616 = (b1 : Int) := u64e _ lb1
      by_cases hbr : 4294967296 ≤ b1
      · have HQ := Lib.hid (show a1 = (u * 4294967296 + un1) / (yn1 * 4294967296 + yn0) by rw [ha1]; exact HK.out.broke HY1b.out HY0b.out HhY.out HU1b.out hcond (by omega))
        have dbr : decide (4294967296 ≤ (b1 : Int)) = true := by simp; omega
        clear hcond hq1 hge ha1 hb1 la1 lb1 hbr
        have hYp : 0 < yn1 * 4294967296 + yn0 := by have := HYg.out; have := HYY.out; omega
        obtain ⟨u2, hu2⟩ : ∃ z, z = u * 4294967296 + un1 - a1 * Y := ⟨_, rfl⟩
        have hqY : a1 * Y ≤ u * 4294967296 + un1 := by rw [HQ.out, ← HYY.out]; exact Nat.div_mul_le_self _ _
        have hu2Y : u2 < Y := by
          have h1 : u2 = (u * 4294967296 + un1) % Y := by rw [hu2, HQ.out, ← HYY.out, Nat.mul_comm (_ / Y) Y, Nat.mod_eq_sub]
          rw [h1]
          exact Nat.mod_lt _ (by rw [HYY.out]; exact hYp)
        obtain ⟨W1, hW1⟩ : ∃ z, z = u * 4294967296 % 18446744073709551616 := ⟨_, rfl⟩
        obtain ⟨W2, hW2⟩ : ∃ z, z = (W1 + un1) % 18446744073709551616 := ⟨_, rfl⟩
        obtain ⟨pq, hpq⟩ : ∃ z, z = a1 * Y := ⟨_, rfl⟩
        obtain ⟨W3, hW3⟩ : ∃ z, z = pq % 18446744073709551616 := ⟨_, rfl⟩
        have mW1 : ((u : Int) * 4294967296) % 18446744073709551616 = (W1 : Int) := by omega
        have mW2 : ((W1 : Int) + (un1 : Int)) % 18446744073709551616 = (W2 : Int) := by omega
        have mW3 : ((a1 : Int) * (Y : Int)) % 18446744073709551616 = (W3 : Int) := by rw [hW3, hpq, Int.natCast_emod, Int.natCast_mul]; rfl
        rw [← hpq] at hu2 hqY
        have hYl := HYl.out
        have mu2 : ((W2 : Int) - (W3 : Int)) % 18446744073709551616 = (u2 : Int) := by omega
        have lu2 : u2 < 18446744073709551616 := by omega
        have wW1 : IntKind.u64.wrap ((u : Int) * 4294967296) = (W1 : Int) := u64w _ _ mW1
        have wW2 : IntKind.u64.wrap ((W1 : Int) + (un1 : Int)) = (W2 : Int) := u64w _ _ mW2
        have wW3 : IntKind.u64.wrap ((a1 : Int) * (Y : Int)) = (W3 : Int) := u64w _ _ mW3
        have wu2 : IntKind.u64.wrap ((W2 : Int) - (W3 : Int)) = (u2 : Int) := u64w _ _ mu2
        have vu2 : IntKind.u64.wrap (u2 : Int) = (u2 : Int) := u64w _ _ (u64e _ lu2)
        obtain ⟨g, hg⟩ : ∃ z, z = u2 / yn1 := ⟨_, rfl⟩
        obtain ⟨h, hh⟩ : ∃ z, z = u2 % yn1 := ⟨_, rfl⟩
        have hI2 := KInv.start HY1a.out HY1b.out HY0b.out (show u2 < yn1 * 4294967296 + yn0 by rw [← HYY.out]; exact hu2Y) HU0b.out
        rw [← hg, ← hh] at hI2
        have eg : (u2 : Int) / (yn1 : Int) = (g : Int) := by rw [hg, Int.natCast_ediv]
        obtain ⟨p2, hp2⟩ : ∃ z, z = g * yn1 := ⟨_, rfl⟩
        have bp2 : (g : Int) * (yn1 : Int) = (p2 : Int) := by rw [hp2]; exact (Int.natCast_mul _ _).symm
        have hup2 : u2 = p2 + h := by rw [hp2]; exact hI2.eq
        have lp2 : p2 < 18446744073709551616 := by omega
        have bh : (u2 : Int) - (p2 : Int) = (h : Int) := by omega
        have lh : h < 18446744073709551616 := by omega
        have lg : g < 18446744073709551616 := by have := hI2.ql; omega
        have vg : IntKind.u64.wrap (g : Int) = (g : Int) := u64w _ _ (u64e _ lg)
        have mp2 : ((g : Int) * (yn1 : Int)) % 18446744073709551616 = (p2 : Int) := by rw [bp2]; exact u64e _ lp2
        have wp2 : IntKind.u64.wrap ((g : Int) * (yn1 : Int)) = (p2 : Int) := u64w _ _ mp2
        have vp2 : IntKind.u64.wrap (p2 : Int) = (p2 : Int) := u64w _ _ (u64e _ lp2)
        have xp2 : (p2 : Int) % 18446744073709551616 = (p2 : Int) := u64e _ lp2
        have mh : ((u2 : Int) - (p2 : Int)) % 18446744073709551616 = (h : Int) := by rw [bh]; exact u64e _ lh
        have wh : IntKind.u64.wrap ((u2 : Int) - (p2 : Int)) = (h : Int) := u64w _ _ mh
        have vh : IntKind.u64.wrap (h : Int) = (h : Int) := u64w _ _ (u64e _ lh)
        have xh : (h : Int) % 18446744073709551616 = (h : Int) := u64e _ lh
        have HI2 := Lib.hid hI2
        have HhU2 := Lib.hid (show u2 < yn1 * 4294967296 + yn0 by rw [← HYY.out]; exact hu2Y)
        have HU2 := Lib.hid (show u2 = u * 4294967296 + un1 - a1 * Y by rw [← hpq]; exact hu2)
        have HQ1 := Lib.hid (show a1 = (u * 4294967296 + un1) / Y by rw [HYY.out]; exact HQ.out)
        have HQB := Lib.hid (show a1 < 4294967296 by
          rw [HQ1.out]
          apply Nat.div_lt_of_lt_mul
          have h1 := HhY.out
          have h2 := HU1b.out
          have h3 := HYY.out
          omega)
        clear hYp hu2 hqY hu2Y hW1 hW2 hpq hW3 hYl lu2 hg hh hI2 hp2 hup2 lp2 lh lg mW1 mW2 mW3 mu2 HQ
        go_wp2_with fail
        go_loop [18, 16] (fun x y => ∃ a b : Nat, x = .int .u64 (a : Int) ∧ y = .int .u64 (b : Int) ∧ KInv yn1 yn0 u2 un0 a b) (fun x _ => (intOf x).toNat)
        case atStart => exact ⟨g, h, rfl, rfl, HI2.out⟩
        case round =>
          obtain ⟨c, e, rfl, rfl, hK⟩ := hrel
          have HK := Lib.hid hK
          clear hK
          by_cases hq2 : 4294967296 ≤ c
          · have dq : decide (4294967296 ≤ (c : Int)) = true := by simp; omega
            have hcond : 4294967296 ≤ c ∨ 4294967296 * e + un0 < c * yn0 := .inl hq2
            have hge := (HK.out.next HY1b.out HhU2.out HU0b.out hcond).1
            obtain ⟨c1, hc1⟩ : ∃ z, z = c - 1 := ⟨_, rfl⟩
            obtain ⟨e1, he1⟩ : ∃ z, z = e + yn1 := ⟨_, rfl⟩
            have bc1 : (c : Int) - 1 = (c1 : Int) := by omega
            have lc1 : c1 < 18446744073709551616 := by have := HK.out.ql; omega
            have be1 : (e : Int) + (yn1 : Int) = (e1 : Int) := by omega
            have le1 : e1 < 18446744073709551616 := by have := HK.out.rl; have := HY1b.out; omega
            have mc1 : ((c : Int) - 1) % 18446744073709551616 = (c1 : Int) := by rw [bc1]; exact u64e _ lc1
            have wc1 : IntKind.u64.wrap ((c : Int) - 1) = (c1 : Int) := u64w _ _ mc1
            have vc1 : IntKind.u64.wrap (c1 : Int) = (c1 : Int) := u64w _ _ (u64e _ lc1)
            have xc1 : (c1 : Int) % 18446744073709551616 = (c1 : Int) := u64e _ lc1
            have me1 : ((e : Int) + (yn1 : Int)) % 18446744073709551616 = (e1 : Int) := by rw [be1]; exact u64e _ le1
            have we1 : IntKind.u64.wrap ((e : Int) + (yn1 : Int)) = (e1 : Int) := u64w _ _ me1
            have ve1 : IntKind.u64.wrap (e1 : Int) = (e1 : Int) := u64w _ _ (u64e _ le1)
            have xe1 : (e1 : Int) % 18446744073709551616 = (e1 : Int) := u64e _ le1
            by_cases hbr : 4294967296 ≤ e1
            · have HQ := Lib.hid (show c1 = (u2 * 4294967296 + un0) / (yn1 * 4294967296 + yn0) by rw [hc1]; exact HK.out.broke HY1b.out HY0b.out HhU2.out HU0b.out hcond (by omega))
              have dbr : decide (4294967296 ≤ (e1 : Int)) = true := by simp; omega
              clear hcond hq2 hge hc1 he1 lc1 le1 hbr
              obtain ⟨qd, hqd⟩ : ∃ z, z = c1 * Y := ⟨_, rfl⟩
              have HQ0 := Lib.hid (show c1 = (u2 * 4294967296 + un0) / Y by rw [HYY.out]; exact HQ.out)
              have hkn := knuth HYp.out HTP.out HY.out HNT.out HQ1.out HU2.out HQ0.out
              have hqdY : qd ≤ u2 * 4294967296 + un0 := by rw [hqd, HQ0.out]; exact Nat.div_mul_le_self _ _
              have hr0Y : u2 * 4294967296 + un0 - qd < Y := by
                rw [hqd, HQ0.out, Nat.mul_comm (_ / Y) Y, ← Nat.mod_eq_sub]
                exact Nat.mod_lt _ (by have := HYg.out; omega)
              have hq0B : c1 < 4294967296 := by
                rw [HQ0.out]
                apply Nat.div_lt_of_lt_mul
                have h1 := HhU2.out
                have h2 := HU0b.out
                have h3 := HYY.out
                omega
              have hq1B := HQB.out
              have hYl := HYl.out
              obtain ⟨r0, hr0⟩ : ∃ z, z = u2 * 4294967296 + un0 - qd := ⟨_, rfl⟩
              rw [← hqd, ← hr0] at hkn
              rw [← hr0] at hr0Y
              obtain ⟨Qr, hQr⟩ : ∃ z, z = Nn / y := ⟨_, rfl⟩
              obtain ⟨Rr, hRr⟩ : ∃ z, z = Nn % y := ⟨_, rfl⟩
              rw [← hQr, ← hRr] at hkn
              obtain ⟨V1, hV1⟩ : ∃ z, z = a1 * 4294967296 := ⟨_, rfl⟩
              obtain ⟨X1, hX1⟩ : ∃ z, z = u2 * 4294967296 % 18446744073709551616 := ⟨_, rfl⟩
              obtain ⟨X2, hX2⟩ : ∃ z, z = (X1 + un0) % 18446744073709551616 := ⟨_, rfl⟩
              obtain ⟨X3, hX3⟩ : ∃ z, z = qd % 18446744073709551616 := ⟨_, rfl⟩
              have hk1 := hkn.1
              have hk2 := hkn.2
              have bV1 : (a1 : Int) * 4294967296 = (V1 : Int) := by omega
              have lV1 : V1 < 18446744073709551616 := by omega
              have bQr : (V1 : Int) + (c1 : Int) = (Qr : Int) := by omega
              have lQr : Qr < 18446744073709551616 := by omega
              have mX1 : ((u2 : Int) * 4294967296) % 18446744073709551616 = (X1 : Int) := by omega
              have mX2 : ((X1 : Int) + (un0 : Int)) % 18446744073709551616 = (X2 : Int) := by omega
              have mX3 : ((c1 : Int) * (Y : Int)) % 18446744073709551616 = (X3 : Int) := by rw [hX3, hqd, Int.natCast_emod, Int.natCast_mul]; rfl
              have mr0 : ((X2 : Int) - (X3 : Int)) % 18446744073709551616 = (r0 : Int) := by omega
              have eRr : (r0 : Int) / (t : Int) = (Rr : Int) := by rw [hk2, Int.natCast_ediv]
              have mV1 : ((a1 : Int) * 4294967296) % 18446744073709551616 = (V1 : Int) := by rw [bV1]; exact u64e _ lV1
              have wV1 : IntKind.u64.wrap ((a1 : Int) * 4294967296) = (V1 : Int) := u64w _ _ mV1
              have vV1 : IntKind.u64.wrap (V1 : Int) = (V1 : Int) := u64w _ _ (u64e _ lV1)
              have xV1 : (V1 : Int) % 18446744073709551616 = (V1 : Int) := u64e _ lV1
              have mQr : ((V1 : Int) + (c1 : Int)) % 18446744073709551616 = (Qr : Int) := by rw [bQr]; exact u64e _ lQr
              have wQr : IntKind.u64.wrap ((V1 : Int) + (c1 : Int)) = (Qr : Int) := u64w _ _ mQr
              have vQr : IntKind.u64.wrap (Qr : Int) = (Qr : Int) := u64w _ _ (u64e _ lQr)
              have xQr : (Qr : Int) % 18446744073709551616 = (Qr : Int) := u64e _ lQr
              have wX1 : IntKind.u64.wrap ((u2 : Int) * 4294967296) = (X1 : Int) := u64w _ _ mX1
              have wX2 : IntKind.u64.wrap ((X1 : Int) + (un0 : Int)) = (X2 : Int) := u64w _ _ mX2
              have wX3 : IntKind.u64.wrap ((c1 : Int) * (Y : Int)) = (X3 : Int) := u64w _ _ mX3
              have wr0 : IntKind.u64.wrap ((X2 : Int) - (X3 : Int)) = (r0 : Int) := u64w _ _ mr0
              have vr0 : IntKind.u64.wrap (r0 : Int) = (r0 : Int) := u64w _ _ (u64e _ (by omega))
              have HQR := Lib.hid hQr
              have HRR := Lib.hid hRr
              clear hqd hkn hqdY hr0Y hq0B hq1B hYl hr0 hQr hRr hV1 hX1 hX2 hX3 hk1 hk2 lV1 lQr mX1 mX2 mX3 mr0
              go_wp2_with fail
              go_ret2
              exact ⟨by rw [show ((Nn : Int) / (y : Int)) = (Qr : Int) by rw [HQR.out, Int.natCast_ediv], show ((Nn : Int) % (y : Int)) = (Rr : Int) by rw [HRR.out, Int.natCast_emod]]; rfl, rfl⟩
            · have HKN := Lib.hid (show KInv yn1 yn0 u2 un0 c1 e1 by rw [hc1, he1]; exact HK.out.again HY1b.out HhU2.out HU0b.out hcond (by omega))
              have dbr : decide (4294967296 ≤ (e1 : Int)) = false := by simp; omega
              have HMS := Lib.hid (show c1 < c by omega)
              clear hcond hq2 hge hc1 he1 lc1 le1 hbr
              go_wp2_with fail
              go_round
              case rel => first | exact ⟨c1, e1, rfl, rfl, HKN.out⟩ | ((repeat apply Exists.intro); exact ⟨⟨c1, e1, rfl, rfl, HKN.out⟩, rfl⟩)
              case measure => (have := HMS.out; simp [intOf]; omega)
          · have dq : decide (4294967296 ≤ (c : Int)) = false := by simp; omega
            obtain ⟨P2, hP⟩ : ∃ z, z = c * yn0 := ⟨_, rfl⟩
            obtain ⟨R2, hR⟩ : ∃ z, z = 4294967296 * e := ⟨_, rfl⟩
            obtain ⟨S2, hS⟩ : ∃ z, z = R2 + un0 := ⟨_, rfl⟩
            have bP2 : (c : Int) * (yn0 : Int) = (P2 : Int) := by rw [hP]; exact (Int.natCast_mul _ _).symm
            have lP2 : P2 < 18446744073709551616 := by rw [hP]; exact Nat.lt_of_le_of_lt (Nat.mul_le_mul (show c ≤ 4294967295 by omega) (show yn0 ≤ 4294967295 by have := HY0b.out; omega)) (by decide)
            have bR2 : 4294967296 * (e : Int) = (R2 : Int) := by omega
            have lR2 : R2 < 18446744073709551616 := by have := HK.out.rl; omega
            have bS2 : (R2 : Int) + (un0 : Int) = (S2 : Int) := by omega
            have lS2 : S2 < 18446744073709551616 := by have := HK.out.rl; have := HU0b.out; omega
            have mP2 : ((c : Int) * (yn0 : Int)) % 18446744073709551616 = (P2 : Int) := by rw [bP2]; exact u64e _ lP2
            have wP2 : IntKind.u64.wrap ((c : Int) * (yn0 : Int)) = (P2 : Int) := u64w _ _ mP2
            have vP2 : IntKind.u64.wrap (P2 : Int) = (P2 : Int) := u64w _ _ (u64e _ lP2)
            have xP2 : (P2 : Int) % 18446744073709551616 = (P2 : Int) := u64e _ lP2
            have mR2 : (4294967296 * (e : Int)) % 18446744073709551616 = (R2 : Int) := by rw [bR2]; exact u64e _ lR2
            have wR2 : IntKind.u64.wrap (4294967296 * (e : Int)) = (R2 : Int) := u64w _ _ mR2
            have vR2 : IntKind.u64.wrap (R2 : Int) = (R2 : Int) := u64w _ _ (u64e _ lR2)
            have xR2 : (R2 : Int) % 18446744073709551616 = (R2 : Int) := u64e _ lR2
            have mS2 : ((R2 : Int) + (un0 : Int)) % 18446744073709551616 = (S2 : Int) := by rw [bS2]; exact u64e _ lS2
            have wS2 : IntKind.u64.wrap ((R2 : Int) + (un0 : Int)) = (S2 : Int) := u64w _ _ mS2
            have vS2 : IntKind.u64.wrap (S2 : Int) = (S2 : Int) := u64w _ _ (u64e _ lS2)
            have xS2 : (S2 : Int) % 18446744073709551616 = (S2 : Int) := u64e _ lS2
            by_cases hc2 : S2 < P2
            · have dc : decide ((S2 : Int) < (P2 : Int)) = true := by simp; omega
              have hcond : 4294967296 ≤ c ∨ 4294967296 * e + un0 < c * yn0 := .inr (by rw [← hP, ← hR, ← hS]; exact hc2)
              have hge := (HK.out.next HY1b.out HhU2.out HU0b.out hcond).1
              obtain ⟨c1, hc1⟩ : ∃ z, z = c - 1 := ⟨_, rfl⟩
              obtain ⟨e1, he1⟩ : ∃ z, z = e + yn1 := ⟨_, rfl⟩
              have bc1 : (c : Int) - 1 = (c1 : Int) := by omega
              have lc1 : c1 < 18446744073709551616 := by have := HK.out.ql; omega
              have be1 : (e : Int) + (yn1 : Int) = (e1 : Int) := by omega
              have le1 : e1 < 18446744073709551616 := by have := HK.out.rl; have := HY1b.out; omega
              have mc1 : ((c : Int) - 1) % 18446744073709551616 = (c1 : Int) := by rw [bc1]; exact u64e _ lc1
              have wc1 : IntKind.u64.wrap ((c : Int) - 1) = (c1 : Int) := u64w _ _ mc1
              have vc1 : IntKind.u64.wrap (c1 : Int) = (c1 : Int) := u64w _ _ (u64e _ lc1)
              have xc1 : (c1 : Int) % 18446744073709551616 = (c1 : Int) := u64e _ lc1
              have me1 : ((e : Int) + (yn1 : Int)) % 18446744073709551616 = (e1 : Int) := by rw [be1]; exact u64e _ le1
              have we1 : IntKind.u64.wrap ((e : Int) + (yn1 : Int)) = (e1 : Int) := u64w _ _ me1
              have ve1 : IntKind.u64.wrap (e1 : Int) = (e1 : Int) := u64w _ _ (u64e _ le1)
              have xe1 : (e1 : Int) % 18446744073709551616 = (e1 : Int) := u64e _ le1
              by_cases hbr : 4294967296 ≤ e1
              · have HQ := Lib.hid (show c1 = (u2 * 4294967296 + un0) / (yn1 * 4294967296 + yn0) by rw [hc1]; exact HK.out.broke HY1b.out HY0b.out HhU2.out HU0b.out hcond (by omega))
                have dbr : decide (4294967296 ≤ (e1 : Int)) = true := by simp; omega
                clear hcond hP hR hS hq2 lP2 lR2 lS2 hge hc1 he1 lc1 le1 hbr
                obtain ⟨qd, hqd⟩ : ∃ z, z = c1 * Y := ⟨_, rfl⟩
                have HQ0 := Lib.hid (show c1 = (u2 * 4294967296 + un0) / Y by rw [HYY.out]; exact HQ.out)
                have hkn := knuth HYp.out HTP.out HY.out HNT.out HQ1.out HU2.out HQ0.out
                have hqdY : qd ≤ u2 * 4294967296 + un0 := by rw [hqd, HQ0.out]; exact Nat.div_mul_le_self _ _
                have hr0Y : u2 * 4294967296 + un0 - qd < Y := by
                  rw [hqd, HQ0.out, Nat.mul_comm (_ / Y) Y, ← Nat.mod_eq_sub]
                  exact Nat.mod_lt _ (by have := HYg.out; omega)
                have hq0B : c1 < 4294967296 := by
                  rw [HQ0.out]
                  apply Nat.div_lt_of_lt_mul
                  have h1 := HhU2.out
                  have h2 := HU0b.out
                  have h3 := HYY.out
                  omega
                have hq1B := HQB.out
                have hYl := HYl.out
                obtain ⟨r0, hr0⟩ : ∃ z, z = u2 * 4294967296 + un0 - qd := ⟨_, rfl⟩
                rw [← hqd, ← hr0] at hkn
                rw [← hr0] at hr0Y
                obtain ⟨Qr, hQr⟩ : ∃ z, z = Nn / y := ⟨_, rfl⟩
                obtain ⟨Rr, hRr⟩ : ∃ z, z = Nn % y := ⟨_, rfl⟩
                rw [← hQr, ← hRr] at hkn
                obtain ⟨V1, hV1⟩ : ∃ z, z = a1 * 4294967296 := ⟨_, rfl⟩
                obtain ⟨X1, hX1⟩ : ∃ z, z = u2 * 4294967296 % 18446744073709551616 := ⟨_, rfl⟩
                obtain ⟨X2, hX2⟩ : ∃ z, z = (X1 + un0) % 18446744073709551616 := ⟨_, rfl⟩
                obtain ⟨X3, hX3⟩ : ∃ z, z = qd % 18446744073709551616 := ⟨_, rfl⟩
                have hk1 := hkn.1
                have hk2 := hkn.2
                have bV1 : (a1 : Int) * 4294967296 = (V1 : Int) := by omega
                have lV1 : V1 < 18446744073709551616 := by omega
                have bQr : (V1 : Int) + (c1 : Int) = (Qr : Int) := by omega
                have lQr : Qr < 18446744073709551616 := by omega
                have mX1 : ((u2 : Int) * 4294967296) % 18446744073709551616 = (X1 : Int) := by omega
                have mX2 : ((X1 : Int) + (un0 : Int)) % 18446744073709551616 = (X2 : Int) := by omega
                have mX3 : ((c1 : Int) * (Y : Int)) % 18446744073709551616 = (X3 : Int) := by rw [hX3, hqd, Int.natCast_emod, Int.natCast_mul]; rfl
                have mr0 : ((X2 : Int) - (X3 : Int)) % 18446744073709551616 = (r0 : Int) := by omega
                have eRr : (r0 : Int) / (t : Int) = (Rr : Int) := by rw [hk2, Int.natCast_ediv]
                have mV1 : ((a1 : Int) * 4294967296) % 18446744073709551616 = (V1 : Int) := by rw [bV1]; exact u64e _ lV1
                have wV1 : IntKind.u64.wrap ((a1 : Int) * 4294967296) = (V1 : Int) := u64w _ _ mV1
                have vV1 : IntKind.u64.wrap (V1 : Int) = (V1 : Int) := u64w _ _ (u64e _ lV1)
                have xV1 : (V1 : Int) % 18446744073709551616 = (V1 : Int) := u64e _ lV1
                have mQr : ((V1 : Int) + (c1 : Int)) % 18446744073709551616 = (Qr : Int) := by rw [bQr]; exact u64e _ lQr
                have wQr : IntKind.u64.wrap ((V1 : Int) + (c1 : Int)) = (Qr : Int) := u64w _ _ mQr
                have vQr : IntKind.u64.wrap (Qr : Int) = (Qr : Int) := u64w _ _ (u64e _ lQr)
                have xQr : (Qr : Int) % 18446744073709551616 = (Qr : Int) := u64e _ lQr
                have wX1 : IntKind.u64.wrap ((u2 : Int) * 4294967296) = (X1 : Int) := u64w _ _ mX1
                have wX2 : IntKind.u64.wrap ((X1 : Int) + (un0 : Int)) = (X2 : Int) := u64w _ _ mX2
                have wX3 : IntKind.u64.wrap ((c1 : Int) * (Y : Int)) = (X3 : Int) := u64w _ _ mX3
                have wr0 : IntKind.u64.wrap ((X2 : Int) - (X3 : Int)) = (r0 : Int) := u64w _ _ mr0
                have vr0 : IntKind.u64.wrap (r0 : Int) = (r0 : Int) := u64w _ _ (u64e _ (by omega))
                have HQR := Lib.hid hQr
                have HRR := Lib.hid hRr
                clear hqd hkn hqdY hr0Y hq0B hq1B hYl hr0 hQr hRr hV1 hX1 hX2 hX3 hk1 hk2 lV1 lQr mX1 mX2 mX3 mr0
                go_wp2_with fail
                go_ret2
                exact ⟨by rw [show ((Nn : Int) / (y : Int)) = (Qr : Int) by rw [HQR.out, Int.natCast_ediv], show ((Nn : Int) % (y : Int)) = (Rr : Int) by rw [HRR.out, Int.natCast_emod]]; rfl, rfl⟩
              · have HKN := Lib.hid (show KInv yn1 yn0 u2 un0 c1 e1 by rw [hc1, he1]; exact HK.out.again HY1b.out HhU2.out HU0b.out hcond (by omega))
                have dbr : decide (4294967296 ≤ (e1 : Int)) = false := by simp; omega
                have HMS := Lib.hid (show c1 < c by omega)
                clear hcond hP hR hS hq2 lP2 lR2 lS2 hge hc1 he1 lc1 le1 hbr
                go_wp2_with fail
                go_round
                case rel => first | exact ⟨c1, e1, rfl, rfl, HKN.out⟩ | ((repeat apply Exists.intro); exact ⟨⟨c1, e1, rfl, rfl, HKN.out⟩, rfl⟩)
                case measure => (have := HMS.out; simp [intOf]; omega)
            · have dc : decide ((S2 : Int) < (P2 : Int)) = false := by simp; omega
              have HQ := Lib.hid (show c = (u2 * 4294967296 + un0) / (yn1 * 4294967296 + yn0) from HK.out.done (by rw [← hP, ← hR, ← hS]; omega))
              clear hP hR hS lP2 lR2 lS2 hq2
              have vc : IntKind.u64.wrap (c : Int) = (c : Int) := u64w _ _ (u64e _ (by have := HK.out.ql; omega))
              obtain ⟨qd, hqd⟩ : ∃ z, z = c * Y := ⟨_, rfl⟩
              have HQ0 := Lib.hid (show c = (u2 * 4294967296 + un0) / Y by rw [HYY.out]; exact HQ.out)
              have hkn := knuth HYp.out HTP.out HY.out HNT.out HQ1.out HU2.out HQ0.out
              have hqdY : qd ≤ u2 * 4294967296 + un0 := by rw [hqd, HQ0.out]; exact Nat.div_mul_le_self _ _
              have hr0Y : u2 * 4294967296 + un0 - qd < Y := by
                rw [hqd, HQ0.out, Nat.mul_comm (_ / Y) Y, ← Nat.mod_eq_sub]
                exact Nat.mod_lt _ (by have := HYg.out; omega)
              have hq0B : c < 4294967296 := by
                rw [HQ0.out]
                apply Nat.div_lt_of_lt_mul
                have h1 := HhU2.out
                have h2 := HU0b.out
                have h3 := HYY.out
                omega
              have hq1B := HQB.out
              have hYl := HYl.out
              obtain ⟨r0, hr0⟩ : ∃ z, z = u2 * 4294967296 + un0 - qd := ⟨_, rfl⟩
              rw [← hqd, ← hr0] at hkn
              rw [← hr0] at hr0Y
              obtain ⟨Qr, hQr⟩ : ∃ z, z = Nn / y := ⟨_, rfl⟩
              obtain ⟨Rr, hRr⟩ : ∃ z, z = Nn % y := ⟨_, rfl⟩
              rw [← hQr, ← hRr] at hkn
              obtain ⟨V1, hV1⟩ : ∃ z, z = a1 * 4294967296 := ⟨_, rfl⟩
              obtain ⟨X1, hX1⟩ : ∃ z, z = u2 * 4294967296 % 18446744073709551616 := ⟨_, rfl⟩
              obtain ⟨X2, hX2⟩ : ∃ z, z = (X1 + un0) % 18446744073709551616 := ⟨_, rfl⟩
              obtain ⟨X3, hX3⟩ : ∃ z, z = qd % 18446744073709551616 := ⟨_, rfl⟩
              have hk1 := hkn.1
              have hk2 := hkn.2
              have bV1 : (a1 : Int) * 4294967296 = (V1 : Int) := by omega
              have lV1 : V1 < 18446744073709551616 := by omega
              have bQr : (V1 : Int) + (c : Int) = (Qr : Int) := by omega
              have lQr : Qr < 18446744073709551616 := by omega
              have mX1 : ((u2 : Int) * 4294967296) % 18446744073709551616 = (X1 : Int) := by omega
              have mX2 : ((X1 : Int) + (un0 : Int)) % 18446744073709551616 = (X2 : Int) := by omega
              have mX3 : ((c : Int) * (Y : Int)) % 18446744073709551616 = (X3 : Int) := by rw [hX3, hqd, Int.natCast_emod, Int.natCast_mul]; rfl
              have mr0 : ((X2 : Int) - (X3 : Int)) % 18446744073709551616 = (r0 : Int) := by omega
              have eRr : (r0 : Int) / (t : Int) = (Rr : Int) := by rw [hk2, Int.natCast_ediv]
              have mV1 : ((a1 : Int) * 4294967296) % 18446744073709551616 = (V1 : Int) := by rw [bV1]; exact u64e _ lV1
              have wV1 : IntKind.u64.wrap ((a1 : Int) * 4294967296) = (V1 : Int) := u64w _ _ mV1
              have vV1 : IntKind.u64.wrap (V1 : Int) = (V1 : Int) := u64w _ _ (u64e _ lV1)
              have xV1 : (V1 : Int) % 18446744073709551616 = (V1 : Int) := u64e _ lV1
              have mQr : ((V1 : Int) + (c : Int)) % 18446744073709551616 = (Qr : Int) := by rw [bQr]; exact u64e _ lQr
              have wQr : IntKind.u64.wrap ((V1 : Int) + (c : Int)) = (Qr : Int) := u64w _ _ mQr
              have vQr : IntKind.u64.wrap (Qr : Int) = (Qr : Int) := u64w _ _ (u64e _ lQr)
              have xQr : (Qr : Int) % 18446744073709551616 = (Qr : Int) := u64e _ lQr
              have wX1 : IntKind.u64.wrap ((u2 : Int) * 4294967296) = (X1 : Int) := u64w _ _ mX1
              have wX2 : IntKind.u64.wrap ((X1 : Int) + (un0 : Int)) = (X2 : Int) := u64w _ _ mX2
              have wX3 : IntKind.u64.wrap ((c : Int) * (Y : Int)) = (X3 : Int) := u64w _ _ mX3
              have wr0 : IntKind.u64.wrap ((X2 : Int) - (X3 : Int)) = (r0 : Int) := u64w _ _ mr0
              have vr0 : IntKind.u64.wrap (r0 : Int) = (r0 : Int) := u64w _ _ (u64e _ (by omega))
              have HQR := Lib.hid hQr
              have HRR := Lib.hid hRr
              clear hqd hkn hqdY hr0Y hq0B hq1B hYl hr0 hQr hRr hV1 hX1 hX2 hX3 hk1 hk2 lV1 lQr mX1 mX2 mX3 mr0
              go_wp2_with fail
              go_ret2
              exact ⟨by rw [show ((Nn : Int) / (y : Int)) = (Qr : Int) by rw [HQR.out, Int.natCast_ediv], show ((Nn : Int) % (y : Int)) = (Rr : Int) by rw [HRR.out, Int.natCast_emod]]; rfl, rfl⟩
      · have HKN := Lib.hid (show KInv yn1 yn0 u un1 a1 b1 by rw [ha1, hb1]; exact HK.out.again HY1b.out HhY.out HU1b.out hcond (by omega))
        have dbr : decide (4294967296 ≤ (b1 : Int)) = false := by simp; omega
        have HMS := Lib.hid (show a1 < a by omega)
        clear hcond hq1 hge ha1 hb1 la1 lb1 hbr
        go_wp2_with fail
        go_round
        case rel => first | exact ⟨a1, b1, rfl, rfl, HKN.out⟩ | ((repeat apply Exists.intro); exact ⟨⟨a1, b1, rfl, rfl, HKN.out⟩, rfl⟩)
        case measure => (have := HMS.out; simp [intOf]; omega)
    · have dq : decide (4294967296 ≤ (a : Int)) = false := by simp; omega
      obtain ⟨P1, hP⟩ : ∃ z, z = a * yn0 := ⟨_, rfl⟩
      obtain ⟨R1, hR⟩ : ∃ z, z = 4294967296 * b := ⟨_, rfl⟩
      obtain ⟨S1, hS⟩ : ∃ z, z = R1 + un1 := ⟨_, rfl⟩
      have bP1 : (a : Int) * (yn0 : Int) = (P1 : Int) := by rw [hP]; exact (Int.natCast_mul _ _).symm
      have lP1 : P1 < 18446744073709551616 := by rw [hP]; exact Nat.lt_of_le_of_lt (Nat.mul_le_mul (show a ≤ 4294967295 by omega) (show yn0 ≤ 4294967295 by have := HY0b.out; omega)) (by decide)
      have bR1 : 4294967296 * (b : Int) = (R1 : Int) := by omega
      have lR1 : R1 < 18446744073709551616 := by have := HK.out.rl; omega
      have bS1 : (R1 : Int) + (un1 : Int) = (S1 : Int) := by omega
      have lS1 : S1 < 18446744073709551616 := by have := HK.out.rl; have := HU1b.out; omega
      have mP1 : ((a : Int) * (yn0 : Int)) % 18446744073709551616 = (P1 : Int) := by rw [bP1]; exact u64e _ lP1
      have wP1 : IntKind.u64.wrap ((a : Int) * (yn0 : Int)) = (P1 : Int) := u64w _ _ mP1
      have vP1 : IntKind.u64.wrap (P1 : Int) = (P1 : Int) := u64w _ _ (u64e _ lP1)
      have xP1 : (P1 : Int) % 18446744073709551616 = (P1 : Int) := u64e _ lP1
      have mR1 : (4294967296 * (b : Int)) % 18446744073709551616 = (R1 : Int) := by rw [bR1]; exact u64e _ lR1
      have wR1 : IntKind.u64.wrap (4294967296 * (b : Int)) = (R1 : Int) := u64w _ _ mR1
      have vR1 : IntKind.u64.wrap (R1 : Int) = (R1 : Int) := u64w _ _ (u64e _ lR1)
      have xR1 : (R1 : Int) % 18446744073709551616 = (R1 : Int) := u64e _ lR1
      have mS1 : ((R1 : Int) + (un1 : Int)) % 18446744073709551616 = (S1 : Int) := by rw [bS1]; exact u64e _ lS1
      have wS1 : IntKind.u64.wrap ((R1 : Int) + (un1 : Int)) = (S1 : Int) := u64w _ _ mS1
      have vS1 : IntKind.u64.wrap (S1 : Int) = (S1 : Int) := u64w _ _ (u64e _ lS1)
      have xS1 : (S1 : Int) % 18446744073709551616 = (S1 : Int) := u64e _ lS1
      by_cases hc1 : S1 < P1
      · have dc : decide ((S1 : Int) < (P1 : Int)) = true := by simp; omega
        have hcond : 4294967296 ≤ a ∨ 4294967296 * b + un1 < a * yn0 := .inr (by rw [← hP, ← hR, ← hS]; exact hc1)
        have hge := (HK.out.next HY1b.out HhY.out HU1b.out hcond).1
        obtain ⟨a1, ha1⟩ : ∃ z, z = a - 1 := ⟨_, rfl⟩
        obtain ⟨b1, hb1⟩ : ∃ z, z = b + yn1 := ⟨_, rfl⟩
        have ba1 : (a : Int) - 1 = (a1 : Int) := by omega
        have la1 : a1 < 18446744073709551616 := by have := HK.out.ql; omega
        have bb1 : (b : Int) + (yn1 : Int) = (b1 : Int) := by omega
        have lb1 : b1 < 18446744073709551616 := by have := HK.out.rl; have := HY1b.out; omega
        have ma1 : ((a : Int) - 1) % 18446744073709551616 = (a1 : Int) := by rw [ba1]; exact u64e _ la1
        have wa1 : IntKind.u64.wrap ((a : Int) - 1) = (a1 : Int) := u64w _ _ ma1
        have va1 : IntKind.u64.wrap (a1 : Int) = (a1 : Int) := u64w _ _ (u64e _ la1)
        have xa1 : (a1 : Int) % 18446744073709551616 = (a1 : Int) := u64e _ la1
        have mb1 : ((b : Int) + (yn1 : Int)) % 18446744073709551616 = (b1 : Int) := by rw [bb1]; exact u64e _ lb1
        have wb1 : IntKind.u64.wrap ((b : Int) + (yn1 : Int)) = (b1 : Int) := u64w _ _ mb1
        have vb1 : IntKind.u64.wrap (b1 : Int) = (b1 : Int) := u64w _ _ (u64e _ lb1)
        have xb1 : (b1 : Int) % 18446744073709551616 = (b1 : Int) := u64e _ lb1
        by_cases hbr : 4294967296 ≤ b1
        · have HQ := Lib.hid (show a1 = (u * 4294967296 + un1) / (yn1 * 4294967296 + yn0) by rw [ha1]; exact HK.out.broke HY1b.out HY0b.out HhY.out HU1b.out hcond (by omega))
          have dbr : decide (4294967296 ≤ (b1 : Int)) = true := by simp; omega
          clear hcond hP hR hS hq1 lP1 lR1 lS1 hge ha1 hb1 la1 lb1 hbr
          have hYp : 0 < yn1 * 4294967296 + yn0 := by have := HYg.out; have := HYY.out; omega
          obtain ⟨u2, hu2⟩ : ∃ z, z = u * 4294967296 + un1 - a1 * Y := ⟨_, rfl⟩
          have hqY : a1 * Y ≤ u * 4294967296 + un1 := by rw [HQ.out, ← HYY.out]; exact Nat.div_mul_le_self _ _
          have hu2Y : u2 < Y := by
            have h1 : u2 = (u * 4294967296 + un1) % Y := by rw [hu2, HQ.out, ← HYY.out, Nat.mul_comm (_ / Y) Y, Nat.mod_eq_sub]
            rw [h1]
            exact Nat.mod_lt _ (by rw [HYY.out]; exact hYp)
          obtain ⟨W1, hW1⟩ : ∃ z, z = u * 4294967296 % 18446744073709551616 := ⟨_, rfl⟩
          obtain ⟨W2, hW2⟩ : ∃ z, z = (W1 + un1) % 18446744073709551616 := ⟨_, rfl⟩
          obtain ⟨pq, hpq⟩ : ∃ z, z = a1 * Y := ⟨_, rfl⟩
          obtain ⟨W3, hW3⟩ : ∃ z, z = pq % 18446744073709551616 := ⟨_, rfl⟩
          have mW1 : ((u : Int) * 4294967296) % 18446744073709551616 = (W1 : Int) := by omega
          have mW2 : ((W1 : Int) + (un1 : Int)) % 18446744073709551616 = (W2 : Int) := by omega
          have mW3 : ((a1 : Int) * (Y : Int)) % 18446744073709551616 = (W3 : Int) := by rw [hW3, hpq, Int.natCast_emod, Int.natCast_mul]; rfl
          rw [← hpq] at hu2 hqY
          have hYl := HYl.out
          have mu2 : ((W2 : Int) - (W3 : Int)) % 18446744073709551616 = (u2 : Int) := by omega
          have lu2 : u2 < 18446744073709551616 := by omega
          have wW1 : IntKind.u64.wrap ((u : Int) * 4294967296) = (W1 : Int) := u64w _ _ mW1
          have wW2 : IntKind.u64.wrap ((W1 : Int) + (un1 : Int)) = (W2 : Int) := u64w _ _ mW2
          have wW3 : IntKind.u64.wrap ((a1 : Int) * (Y : Int)) = (W3 : Int) := u64w _ _ mW3
          have wu2 : IntKind.u64.wrap ((W2 : Int) - (W3 : Int)) = (u2 : Int) := u64w _ _ mu2
          have vu2 : IntKind.u64.wrap (u2 : Int) = (u2 : Int) := u64w _ _ (u64e _ lu2)
          obtain ⟨g, hg⟩ : ∃ z, z = u2 / yn1 := ⟨_, rfl⟩
          obtain ⟨h, hh⟩ : ∃ z, z = u2 % yn1 := ⟨_, rfl⟩
          have hI2 := KInv.start HY1a.out HY1b.out HY0b.out (show u2 < yn1 * 4294967296 + yn0 by rw [← HYY.out]; exact hu2Y) HU0b.out
          rw [← hg, ← hh] at hI2
          have eg : (u2 : Int) / (yn1 : Int) = (g : Int) := by rw [hg, Int.natCast_ediv]
          obtain ⟨p2, hp2⟩ : ∃ z, z = g * yn1 := ⟨_, rfl⟩
          have bp2 : (g : Int) * (yn1 : Int) = (p2 : Int) := by rw [hp2]; exact (Int.natCast_mul _ _).symm
          have hup2 : u2 = p2 + h := by rw [hp2]; exact hI2.eq
          have lp2 : p2 < 18446744073709551616 := by omega
          have bh : (u2 : Int) - (p2 : Int) = (h : Int) := by omega
          have lh : h < 18446744073709551616 := by omega
          have lg : g < 18446744073709551616 := by have := hI2.ql; omega
          have vg : IntKind.u64.wrap (g : Int) = (g : Int) := u64w _ _ (u64e _ lg)
          have mp2 : ((g : Int) * (yn1 : Int)) % 18446744073709551616 = (p2 : Int) := by rw [bp2]; exact u64e _ lp2
          have wp2 : IntKind.u64.wrap ((g : Int) * (yn1 : Int)) = (p2 : Int) := u64w _ _ mp2
          have vp2 : IntKind.u64.wrap (p2 : Int) = (p2 : Int) := u64w _ _ (u64e _ lp2)
          have xp2 : (p2 : Int) % 18446744073709551616 = (p2 : Int) := u64e _ lp2
          have mh : ((u2 : Int) - (p2 : Int)) % 18446744073709551616 = (h : Int) := by rw [bh]; exact u64e _ lh
          have wh : IntKind.u64.wrap ((u2 : Int) - (p2 : Int)) = (h : Int) := u64w _ _ mh
          have vh : IntKind.u64.wrap (h : Int) = (h : Int) := u64w _ _ (u64e _ lh)
          have xh : (h : Int) % 18446744073709551616 = (h : Int) := u64e _ lh
          have HI2 := Lib.hid hI2
          have HhU2 := Lib.hid (show u2 < yn1 * 4294967296 + yn0 by rw [← HYY.out]; exact hu2Y)
          have HU2 := Lib.hid (show u2 = u * 4294967296 + un1 - a1 * Y by rw [← hpq]; exact hu2)
          have HQ1 := Lib.hid (show a1 = (u * 4294967296 + un1) / Y by rw [HYY.out]; exact HQ.out)
          have HQB := Lib.hid (show a1 < 4294967296 by
            rw [HQ1.out]
            apply Nat.div_lt_of_lt_mul
            have h1 := HhY.out
            have h2 := HU1b.out
            have h3 := HYY.out
            omega)
          clear hYp hu2 hqY hu2Y hW1 hW2 hpq hW3 hYl lu2 hg hh hI2 hp2 hup2 lp2 lh lg mW1 mW2 mW3 mu2 HQ
          go_wp2_with fail
          go_loop [18, 16] (fun x y => ∃ a b : Nat, x = .int .u64 (a : Int) ∧ y = .int .u64 (b : Int) ∧ KInv yn1 yn0 u2 un0 a b) (fun x _ => (intOf x).toNat)
          case atStart => exact ⟨g, h, rfl, rfl, HI2.out⟩
          case round =>
            obtain ⟨c, e, rfl, rfl, hK⟩ := hrel
            have HK := Lib.hid hK
            clear hK
            by_cases hq2 : 4294967296 ≤ c
            · have dq : decide (4294967296 ≤ (c : Int)) = true := by simp; omega
              have hcond : 4294967296 ≤ c ∨ 4294967296 * e + un0 < c * yn0 := .inl hq2
              have hge := (HK.out.next HY1b.out HhU2.out HU0b.out hcond).1
              obtain ⟨c1, hc1⟩ : ∃ z, z = c - 1 := ⟨_, rfl⟩
              obtain ⟨e1, he1⟩ : ∃ z, z = e + yn1 := ⟨_, rfl⟩
              have bc1 : (c : Int) - 1 = (c1 : Int) := by omega
              have lc1 : c1 < 18446744073709551616 := by have := HK.out.ql; omega
              have be1 : (e : Int) + (yn1 : Int) = (e1 : Int) := by omega
              have le1 : e1 < 18446744073709551616 := by have := HK.out.rl; have := HY1b.out; omega
              have mc1 : ((c : Int) - 1) % 18446744073709551616 = (c1 : Int) := by rw [bc1]; exact u64e _ lc1
              have wc1 : IntKind.u64.wrap ((c : Int) - 1) = (c1 : Int) := u64w _ _ mc1
              have vc1 : IntKind.u64.wrap (c1 : Int) = (c1 : Int) := u64w _ _ (u64e _ lc1)
              have xc1 : (c1 : Int) % 18446744073709551616 = (c1 : Int) := u64e _ lc1
              have me1 : ((e : Int) + (yn1 : Int)) % 18446744073709551616 = (e1 : Int) := by rw [be1]; exact u64e _ le1
              have we1 : IntKind.u64.wrap ((e : Int) + (yn1 : Int)) = (e1 : Int) := u64w _ _ me1
              have ve1 : IntKind.u64.wrap (e1 : Int) = (e1 : Int) := u64w _ _ (u64e _ le1)
              have xe1 : (e1 : Int) % 18446744073709551616 = (e1 : Int) := u64e _ le1
              by_cases hbr : 4294967296 ≤ e1
              · have HQ := Lib.hid (show c1 = (u2 * 4294967296 + un0) / (yn1 * 4294967296 + yn0) by rw [hc1]; exact HK.out.broke HY1b.out HY0b.out HhU2.out HU0b.out hcond (by omega))
                have dbr : decide (4294967296 ≤ (e1 : Int)) = true := by simp; omega
                clear hcond hq2 hge hc1 he1 lc1 le1 hbr
                obtain ⟨qd, hqd⟩ : ∃ z, z = c1 * Y := ⟨_, rfl⟩
                have HQ0 := Lib.hid (show c1 = (u2 * 4294967296 + un0) / Y by rw [HYY.out]; exact HQ.out)
                have hkn := knuth HYp.out HTP.out HY.out HNT.out HQ1.out HU2.out HQ0.out
                have hqdY : qd ≤ u2 * 4294967296 + un0 := by rw [hqd, HQ0.out]; exact Nat.div_mul_le_self _ _
                have hr0Y : u2 * 4294967296 + un0 - qd < Y := by
                  rw [hqd, HQ0.out, Nat.mul_comm (_ / Y) Y, ← Nat.mod_eq_sub]
                  exact Nat.mod_lt _ (by have := HYg.out; omega)
                have hq0B : c1 < 4294967296 := by
                  rw [HQ0.out]
                  apply Nat.div_lt_of_lt_mul
                  have h1 := HhU2.out
                  have h2 := HU0b.out
                  have h3 := HYY.out
                  omega
                have hq1B := HQB.out
                have hYl := HYl.out
                obtain ⟨r0, hr0⟩ : ∃ z, z = u2 * 4294967296 + un0 - qd := ⟨_, rfl⟩
                rw [← hqd, ← hr0] at hkn
                rw [← hr0] at hr0Y
                obtain ⟨Qr, hQr⟩ : ∃ z, z = Nn / y := ⟨_, rfl⟩
                obtain ⟨Rr, hRr⟩ : ∃ z, z = Nn % y := ⟨_, rfl⟩
                rw [← hQr, ← hRr] at hkn
                obtain ⟨V1, hV1⟩ : ∃ z, z = a1 * 4294967296 := ⟨_, rfl⟩
                obtain ⟨X1, hX1⟩ : ∃ z, z = u2 * 4294967296 % 18446744073709551616 := ⟨_, rfl⟩
                obtain ⟨X2, hX2⟩ : ∃ z, z = (X1 + un0) % 18446744073709551616 := ⟨_, rfl⟩
                obtain ⟨X3, hX3⟩ : ∃ z, z = qd % 18446744073709551616 := ⟨_, rfl⟩
                have hk1 := hkn.1
                have hk2 := hkn.2
                have bV1 : (a1 : Int) * 4294967296 = (V1 : Int) := by omega
                have lV1 : V1 < 18446744073709551616 := by omega
                have bQr : (V1 : Int) + (c1 : Int) = (Qr : Int) := by omega
                have lQr : Qr < 18446744073709551616 := by omega
                have mX1 : ((u2 : Int) * 4294967296) % 18446744073709551616 = (X1 : Int) := by omega
                have mX2 : ((X1 : Int) + (un0 : Int)) % 18446744073709551616 = (X2 : Int) := by omega
                have mX3 : ((c1 : Int) * (Y : Int)) % 18446744073709551616 = (X3 : Int) := by rw [hX3, hqd, Int.natCast_emod, Int.natCast_mul]; rfl
                have mr0 : ((X2 : Int) - (X3 : Int)) % 18446744073709551616 = (r0 : Int) := by omega
                have eRr : (r0 : Int) / (t : Int) = (Rr : Int) := by rw [hk2, Int.natCast_ediv]
                have mV1 : ((a1 : Int) * 4294967296) % 18446744073709551616 = (V1 : Int) := by rw [bV1]; exact u64e _ lV1
                have wV1 : IntKind.u64.wrap ((a1 : Int) * 4294967296) = (V1 : Int) := u64w _ _ mV1
                have vV1 : IntKind.u64.wrap (V1 : Int) = (V1 : Int) := u64w _ _ (u64e _ lV1)
                have xV1 : (V1 : Int) % 18446744073709551616 = (V1 : Int) := u64e _ lV1
                have mQr : ((V1 : Int) + (c1 : Int)) % 18446744073709551616 = (Qr : Int) := by rw [bQr]; exact u64e _ lQr
                have wQr : IntKind.u64.wrap ((V1 : Int) + (c1 : Int)) = (Qr : Int) := u64w _ _ mQr
                have vQr : IntKind.u64.wrap (Qr : Int) = (Qr : Int) := u64w _ _ (u64e _ lQr)
                have xQr : (Qr : Int) % 18446744073709551616 = (Qr : Int) := u64e _ lQr
                have wX1 : IntKind.u64.wrap ((u2 : Int) * 4294967296) = (X1 : Int) := u64w _ _ mX1
                have wX2 : IntKind.u64.wrap ((X1 : Int) + (un0 : Int)) = (X2 : Int) := u64w _ _ mX2
                have wX3 : IntKind.u64.wrap ((c1 : Int) * (Y : Int)) = (X3 : Int) := u64w _ _ mX3
                have wr0 : IntKind.u64.wrap ((X2 : Int) - (X3 : Int)) = (r0 : Int) := u64w _ _ mr0
                have vr0 : IntKind.u64.wrap (r0 : Int) = (r0 : Int) := u64w _ _ (u64e _ (by omega))
                have HQR := Lib.hid hQr
                have HRR := Lib.hid hRr
                clear hqd hkn hqdY hr0Y hq0B hq1B hYl hr0 hQr hRr hV1 hX1 hX2 hX3 hk1 hk2 lV1 lQr mX1 mX2 mX3 mr0
                go_wp2_with fail
                go_ret2
                exact ⟨by rw [show ((Nn : Int) / (y : Int)) = (Qr : Int) by rw [HQR.out, Int.natCast_ediv], show ((Nn : Int) % (y : Int)) = (Rr : Int) by rw [HRR.out, Int.natCast_emod]]; rfl, rfl⟩
              · have HKN := Lib.hid (show KInv yn1 yn0 u2 un0 c1 e1 by rw [hc1, he1]; exact HK.out.again HY1b.out HhU2.out HU0b.out hcond (by omega))
                have dbr : decide (4294967296 ≤ (e1 : Int)) = false := by simp; omega
                have HMS := Lib.hid (show c1 < c by omega)
                clear hcond hq2 hge hc1 he1 lc1 le1 hbr
                go_wp2_with fail
                go_round
                case rel => first | exact ⟨c1, e1, rfl, rfl, HKN.out⟩ | ((repeat apply Exists.intro); exact ⟨⟨c1, e1, rfl, rfl, HKN.out⟩, rfl⟩)
                case measure => (have := HMS.out; simp [intOf]; omega)
            · have dq : decide (4294967296 ≤ (c : Int)) = false := by simp; omega
              obtain ⟨P2, hP⟩ : ∃ z, z = c * yn0 := ⟨_, rfl⟩
              obtain ⟨R2, hR⟩ : ∃ z, z = 4294967296 * e := ⟨_, rfl⟩
              obtain ⟨S2, hS⟩ : ∃ z, z = R2 + un0 := ⟨_, rfl⟩
              have bP2 : (c : Int) * (yn0 : Int) = (P2 : Int) := by rw [hP]; exact (Int.natCast_mul _ _).symm
              have lP2 : P2 < 18446744073709551616 := by rw [hP]; exact Nat.lt_of_le_of_lt (Nat.mul_le_mul (show c ≤ 4294967295 by omega) (show yn0 ≤ 4294967295 by have := HY0b.out; omega)) (by decide)
              have bR2 : 4294967296 * (e : Int) = (R2 : Int) := by omega
              have lR2 : R2 < 18446744073709551616 := by have := HK.out.rl; omega
              have bS2 : (R2 : Int) + (un0 : Int) = (S2 : Int) := by omega
              have lS2 : S2 < 18446744073709551616 := by have := HK.out.rl; have := HU0b.out; omega
              have mP2 : ((c : Int) * (yn0 : Int)) % 18446744073709551616 = (P2 : Int) := by rw [bP2]; exact u64e _ lP2
              have wP2 : IntKind.u64.wrap ((c : Int) * (yn0 : Int)) = (P2 : Int) := u64w _ _ mP2
              have vP2 : IntKind.u64.wrap (P2 : Int) = (P2 : Int) := u64w _ _ (u64e _ lP2)
              have xP2 : (P2 : Int) % 18446744073709551616 = (P2 : Int) := u64e _ lP2
              have mR2 : (4294967296 * (e : Int)) % 18446744073709551616 = (R2 : Int) := by rw [bR2]; exact u64e _ lR2
              have wR2 : IntKind.u64.wrap (4294967296 * (e : Int)) = (R2 : Int) := u64w _ _ mR2
              have vR2 : IntKind.u64.wrap (R2 : Int) = (R2 : Int) := u64w _ _ (u64e _ lR2)
              have xR2 : (R2 : Int) % 18446744073709551616 = (R2 : Int) := u64e _ lR2
              have mS2 : ((R2 : Int) + (un0 : Int)) % 18446744073709551616 = (S2 : Int) := by rw [bS2]; exact u64e _ lS2
              have wS2 : IntKind.u64.wrap ((R2 : Int) + (un0 : Int)) = (S2 : Int) := u64w _ _ mS2
              have vS2 : IntKind.u64.wrap (S2 : Int) = (S2 : Int) := u64w _ _ (u64e _ lS2)
              have xS2 : (S2 : Int) % 18446744073709551616 = (S2 : Int) := u64e _ lS2
              by_cases hc2 : S2 < P2
              · have dc : decide ((S2 : Int) < (P2 : Int)) = true := by simp; omega
                have hcond : 4294967296 ≤ c ∨ 4294967296 * e + un0 < c * yn0 := .inr (by rw [← hP, ← hR, ← hS]; exact hc2)
                have hge := (HK.out.next HY1b.out HhU2.out HU0b.out hcond).1
                obtain ⟨c1, hc1⟩ : ∃ z, z = c - 1 := ⟨_, rfl⟩
                obtain ⟨e1, he1⟩ : ∃ z, z = e + yn1 := ⟨_, rfl⟩
                have bc1 : (c : Int) - 1 = (c1 : Int) := by omega
                have lc1 : c1 < 18446744073709551616 := by have := HK.out.ql; omega
                have be1 : (e : Int) + (yn1 : Int) = (e1 : Int) := by omega
                have le1 : e1 < 18446744073709551616 := by have := HK.out.rl; have := HY1b.out; omega
                have mc1 : ((c : Int) - 1) % 18446744073709551616 = (c1 : Int) := by rw [bc1]; exact u64e _ lc1
                have wc1 : IntKind.u64.wrap ((c : Int) - 1) = (c1 : Int) := u64w _ _ mc1
                have vc1 : IntKind.u64.wrap (c1 : Int) = (c1 : Int) := u64w _ _ (u64e _ lc1)
                have xc1 : (c1 : Int) % 18446744073709551616 = (c1 : Int) := u64e _ lc1
                have me1 : ((e : Int) + (yn1 : Int)) % 18446744073709551616 = (e1 : Int) := by rw [be1]; exact u64e _ le1
                have we1 : IntKind.u64.wrap ((e : Int) + (yn1 : Int)) = (e1 : Int) := u64w _ _ me1
                have ve1 : IntKind.u64.wrap (e1 : Int) = (e1 : Int) := u64w _ _ (u64e _ le1)
                have xe1 : (e1 : Int) % 18446744073709551616 = (e1 : Int) := u64e _ le1
                by_cases hbr : 4294967296 ≤ e1
                · have HQ := Lib.hid (show c1 = (u2 * 4294967296 + un0) / (yn1 * 4294967296 + yn0) by rw [hc1]; exact HK.out.broke HY1b.out HY0b.out HhU2.out HU0b.out hcond (by omega))
                  have dbr : decide (4294967296 ≤ (e1 : Int)) = true := by simp; omega
                  clear hcond hP hR hS hq2 lP2 lR2 lS2 hge hc1 he1 lc1 le1 hbr
                  obtain ⟨qd, hqd⟩ : ∃ z, z = c1 * Y := ⟨_, rfl⟩
                  have HQ0 := Lib.hid (show c1 = (u2 * 4294967296 + un0) / Y by rw [HYY.out]; exact HQ.out)
                  have hkn := knuth HYp.out HTP.out HY.out HNT.out HQ1.out HU2.out HQ0.out
                  have hqdY : qd ≤ u2 * 4294967296 + un0 := by rw [hqd, HQ0.out]; exact Nat.div_mul_le_self _ _
                  have hr0Y : u2 * 4294967296 + un0 - qd < Y := by
                    rw [hqd, HQ0.out, Nat.mul_comm (_ / Y) Y, ← Nat.mod_eq_sub]
                    exact Nat.mod_lt _ (by have := HYg.out; omega)
                  have hq0B : c1 < 4294967296 := by
                    rw [HQ0.out]
                    apply Nat.div_lt_of_lt_mul
                    have h1 := HhU2.out
                    have h2 := HU0b.out
                    have h3 := HYY.out
                    omega
                  have hq1B := HQB.out
                  have hYl := HYl.out
                  obtain ⟨r0, hr0⟩ : ∃ z, z = u2 * 4294967296 + un0 - qd := ⟨_, rfl⟩
                  rw [← hqd, ← hr0] at hkn
                  rw [← hr0] at hr0Y
                  obtain ⟨Qr, hQr⟩ : ∃ z, z = Nn / y := ⟨_, rfl⟩
                  obtain ⟨Rr, hRr⟩ : ∃ z, z = Nn % y := ⟨_, rfl⟩
                  rw [← hQr, ← hRr] at hkn
                  obtain ⟨V1, hV1⟩ : ∃ z, z = a1 * 4294967296 := ⟨_, rfl⟩
                  obtain ⟨X1, hX1⟩ : ∃ z, z = u2 * 4294967296 % 18446744073709551616 := ⟨_, rfl⟩
                  obtain ⟨X2, hX2⟩ : ∃ z, z = (X1 + un0) % 18446744073709551616 := ⟨_, rfl⟩
                  obtain ⟨X3, hX3⟩ : ∃ z, z = qd % 18446744073709551616 := ⟨_, rfl⟩
                  have hk1 := hkn.1
                  have hk2 := hkn.2
                  have bV1 : (a1 : Int) * 4294967296 = (V1 : Int) := by omega
                  have lV1 : V1 < 18446744073709551616 := by omega
                  have bQr : (V1 : Int) + (c1 : Int) = (Qr : Int) := by omega
                  have lQr : Qr < 18446744073709551616 := by omega
                  have mX1 : ((u2 : Int) * 4294967296) % 18446744073709551616 = (X1 : Int) := by omega
                  have mX2 : ((X1 : Int) + (un0 : Int)) % 18446744073709551616 = (X2 : Int) := by omega
                  have mX3 : ((c1 : Int) * (Y : Int)) % 18446744073709551616 = (X3 : Int) := by rw [hX3, hqd, Int.natCast_emod, Int.natCast_mul]; rfl
                  have mr0 : ((X2 : Int) - (X3 : Int)) % 18446744073709551616 = (r0 : Int) := by omega
                  have eRr : (r0 : Int) / (t : Int) = (Rr : Int) := by rw [hk2, Int.natCast_ediv]
                  have mV1 : ((a1 : Int) * 4294967296) % 18446744073709551616 = (V1 : Int) := by rw [bV1]; exact u64e _ lV1
                  have wV1 : IntKind.u64.wrap ((a1 : Int) * 4294967296) = (V1 : Int) := u64w _ _ mV1
                  have vV1 : IntKind.u64.wrap (V1 : Int) = (V1 : Int) := u64w _ _ (u64e _ lV1)
                  have xV1 : (V1 : Int) % 18446744073709551616 = (V1 : Int) := u64e _ lV1
                  have mQr : ((V1 : Int) + (c1 : Int)) % 18446744073709551616 = (Qr : Int) := by rw [bQr]; exact u64e _ lQr
                  have wQr : IntKind.u64.wrap ((V1 : Int) + (c1 : Int)) = (Qr : Int) := u64w _ _ mQr
                  have vQr : IntKind.u64.wrap (Qr : Int) = (Qr : Int) := u64w _ _ (u64e _ lQr)
                  have xQr : (Qr : Int) % 18446744073709551616 = (Qr : Int) := u64e _ lQr
                  have wX1 : IntKind.u64.wrap ((u2 : Int) * 4294967296) = (X1 : Int) := u64w _ _ mX1
                  have wX2 : IntKind.u64.wrap ((X1 : Int) + (un0 : Int)) = (X2 : Int) := u64w _ _ mX2
                  have wX3 : IntKind.u64.wrap ((c1 : Int) * (Y : Int)) = (X3 : Int) := u64w _ _ mX3
                  have wr0 : IntKind.u64.wrap ((X2 : Int) - (X3 : Int)) = (r0 : Int) := u64w _ _ mr0
                  have vr0 : IntKind.u64.wrap (r0 : Int) = (r0 : Int) := u64w _ _ (u64e _ (by omega))
                  have HQR := Lib.hid hQr
                  have HRR := Lib.hid hRr
                  clear hqd hkn hqdY hr0Y hq0B hq1B hYl hr0 hQr hRr hV1 hX1 hX2 hX3 hk1 hk2 lV1 lQr mX1 mX2 mX3 mr0
                  go_wp2_with fail
                  go_ret2
                  exact ⟨by rw [show ((Nn : Int) / (y : Int)) = (Qr : Int) by rw [HQR.out, Int.natCast_ediv], show ((Nn : Int) % (y : Int)) = (Rr : Int) by rw [HRR.out, Int.natCast_emod]]; rfl, rfl⟩
                · have HKN := Lib.hid (show KInv yn1 yn0 u2 un0 c1 e1 by rw [hc1, he1]; exact HK.out.again HY1b.out HhU2.out HU0b.out hcond (by omega))
                  have dbr : decide (4294967296 ≤ (e1 : Int)) = false := by simp; omega
                  have HMS := Lib.hid (show c1 < c by omega)
                  clear hcond hP hR hS hq2 lP2 lR2 lS2 hge hc1 he1 lc1 le1 hbr
                  go_wp2_with fail
                  go_round
                  case rel => first | exact ⟨c1, e1, rfl, rfl, HKN.out⟩ | ((repeat apply Exists.intro); exact ⟨⟨c1, e1, rfl, rfl, HKN.out⟩, rfl⟩)
                  case measure => (have := HMS.out; simp [intOf]; omega)
              · have dc : decide ((S2 : Int) < (P2 : Int)) = false := by simp; omega
                have HQ := Lib.hid (show c = (u2 * 4294967296 + un0) / (yn1 * 4294967296 + yn0) from HK.out.done (by rw [← hP, ← hR, ← hS]; omega))
                clear hP hR hS lP2 lR2 lS2 hq2
                have vc : IntKind.u64.wrap (c : Int) = (c : Int) := u64w _ _ (u64e _ (by have := HK.out.ql; omega))
                obtain ⟨qd, hqd⟩ : ∃ z, z = c * Y := ⟨_, rfl⟩
                have HQ0 := Lib.hid (show c = (u2 * 4294967296 + un0) / Y by rw [HYY.out]; exact HQ.out)
                have hkn := knuth HYp.out HTP.out HY.out HNT.out HQ1.out HU2.out HQ0.out
                have hqdY : qd ≤ u2 * 4294967296 + un0 := by rw [hqd, HQ0.out]; exact Nat.div_mul_le_self _ _
                have hr0Y : u2 * 4294967296 + un0 - qd < Y := by
                  rw [hqd, HQ0.out, Nat.mul_comm (_ / Y) Y, ← Nat.mod_eq_sub]
                  exact Nat.mod_lt _ (by have := HYg.out; omega)
                have hq0B : c < 4294967296 := by
                  rw [HQ0.out]
                  apply Nat.div_lt_of_lt_mul
                  have h1 := HhU2.out
                  have h2 := HU0b.out
                  have h3 := HYY.out
                  omega
                have hq1B := HQB.out
                have hYl := HYl.out
                obtain ⟨r0, hr0⟩ : ∃ z, z = u2 * 4294967296 + un0 - qd := ⟨_, rfl⟩
                rw [← hqd, ← hr0] at hkn
                rw [← hr0] at hr0Y
                obtain ⟨Qr, hQr⟩ : ∃ z, z = Nn / y := ⟨_, rfl⟩
                obtain ⟨Rr, hRr⟩ : ∃ z, z = Nn % y := ⟨_, rfl⟩
                rw [← hQr, ← hRr] at hkn
                obtain ⟨V1, hV1⟩ : ∃ z, z = a1 * 4294967296 := ⟨_, rfl⟩
                obtain ⟨X1, hX1⟩ : ∃ z, z = u2 * 4294967296 % 18446744073709551616 := ⟨_, rfl⟩
                obtain ⟨X2, hX2⟩ : ∃ z, z = (X1 + un0) % 18446744073709551616 := ⟨_, rfl⟩
                obtain ⟨X3, hX3⟩ : ∃ z, z = qd % 18446744073709551616 := ⟨_, rfl⟩
                have hk1 := hkn.1
                have hk2 := hkn.2
                have bV1 : (a1 : Int) * 4294967296 = (V1 : Int) := by omega
                have lV1 : V1 < 18446744073709551616 := by omega
                have bQr : (V1 : Int) + (c : Int) = (Qr : Int) := by omega
                have lQr : Qr < 18446744073709551616 := by omega
                have mX1 : ((u2 : Int) * 4294967296) % 18446744073709551616 = (X1 : Int) := by omega
                have mX2 : ((X1 : Int) + (un0 : Int)) % 18446744073709551616 = (X2 : Int) := by omega
                have mX3 : ((c : Int) * (Y : Int)) % 18446744073709551616 = (X3 : Int) := by rw [hX3, hqd, Int.natCast_emod, Int.natCast_mul]; rfl
                have mr0 : ((X2 : Int) - (X3 : Int)) % 18446744073709551616 = (r0 : Int) := by omega
                have eRr : (r0 : Int) / (t : Int) = (Rr : Int) := by rw [hk2, Int.natCast_ediv]
                have mV1 : ((a1 : Int) * 4294967296) % 18446744073709551616 = (V1 : Int) := by rw [bV1]; exact u64e _ lV1
                have wV1 : IntKind.u64.wrap ((a1 : Int) * 4294967296) = (V1 : Int) := u64w _ _ mV1
                have vV1 : IntKind.u64.wrap (V1 : Int) = (V1 : Int) := u64w _ _ (u64e _ lV1)
                have xV1 : (V1 : Int) % 18446744073709551616 = (V1 : Int) := u64e _ lV1
                have mQr : ((V1 : Int) + (c : Int)) % 18446744073709551616 = (Qr : Int) := by rw [bQr]; exact u64e _ lQr
                have wQr : IntKind.u64.wrap ((V1 : Int) + (c : Int)) = (Qr : Int) := u64w _ _ mQr
                have vQr : IntKind.u64.wrap (Qr : Int) = (Qr : Int) := u64w _ _ (u64e _ lQr)
                have xQr : (Qr : Int) % 18446744073709551616 = (Qr : Int) := u64e _ lQr
                have wX1 : IntKind.u64.wrap ((u2 : Int) * 4294967296) = (X1 : Int) := u64w _ _ mX1
                have wX2 : IntKind.u64.wrap ((X1 : Int) + (un0 : Int)) = (X2 : Int) := u64w _ _ mX2
                have wX3 : IntKind.u64.wrap ((c : Int) * (Y : Int)) = (X3 : Int) := u64w _ _ mX3
                have wr0 : IntKind.u64.wrap ((X2 : Int) - (X3 : Int)) = (r0 : Int) := u64w _ _ mr0
                have vr0 : IntKind.u64.wrap (r0 : Int) = (r0 : Int) := u64w _ _ (u64e _ (by omega))
                have HQR := Lib.hid hQr
                have HRR := Lib.hid hRr
                clear hqd hkn hqdY hr0Y hq0B hq1B hYl hr0 hQr hRr hV1 hX1 hX2 hX3 hk1 hk2 lV1 lQr mX1 mX2 mX3 mr0
                go_wp2_with fail
                go_ret2
                exact ⟨by rw [show ((Nn : Int) / (y : Int)) = (Qr : Int) by rw [HQR.out, Int.natCast_ediv], show ((Nn : Int) % (y : Int)) = (Rr : Int) by rw [HRR.out, Int.natCast_emod]]; rfl, rfl⟩
        · have HKN := Lib.hid (show KInv yn1 yn0 u un1 a1 b1 by rw [ha1, hb1]; exact HK.out.again HY1b.out HhY.out HU1b.out hcond (by omega))
          have dbr : decide (4294967296 ≤ (b1 : Int)) = false := by simp; omega
          have HMS := Lib.hid (show a1 < a by omega)
          clear hcond hP hR hS hq1 lP1 lR1 lS1 hge ha1 hb1 la1 lb1 hbr
          go_wp2_with fail
          go_round
          case rel => first | exact ⟨a1, b1, rfl, rfl, HKN.out⟩ | ((repeat apply Exists.intro); exact ⟨⟨a1, b1, rfl, rfl, HKN.out⟩, rfl⟩)
          case measure => (have := HMS.out; simp [intOf]; omega)
      · have dc : decide ((S1 : Int) < (P1 : Int)) = false := by simp; omega
        have HQ := Lib.hid (show a = (u * 4294967296 + un1) / (yn1 * 4294967296 + yn0) from HK.out.done (by rw [← hP, ← hR, ← hS]; omega))
        clear hP hR hS lP1 lR1 lS1 hq1
        have va : IntKind.u64.wrap (a : Int) = (a : Int) := u64w _ _ (u64e _ (by have := HK.out.ql; omega))
        have hYp : 0 < yn1 * 4294967296 + yn0 := by have := HYg.out; have := HYY.out; omega
        obtain ⟨u2, hu2⟩ : ∃ z, z = u * 4294967296 + un1 - a * Y := ⟨_, rfl⟩
        have hqY : a * Y ≤ u * 4294967296 + un1 := by rw [HQ.out, ← HYY.out]; exact Nat.div_mul_le_self _ _
        have hu2Y : u2 < Y := by
          have h1 : u2 = (u * 4294967296 + un1) % Y := by rw [hu2, HQ.out, ← HYY.out, Nat.mul_comm (_ / Y) Y, Nat.mod_eq_sub]
          rw [h1]
          exact Nat.mod_lt _ (by rw [HYY.out]; exact hYp)
        obtain ⟨W1, hW1⟩ : ∃ z, z = u * 4294967296 % 18446744073709551616 := ⟨_, rfl⟩
        obtain ⟨W2, hW2⟩ : ∃ z, z = (W1 + un1) % 18446744073709551616 := ⟨_, rfl⟩
        obtain ⟨pq, hpq⟩ : ∃ z, z = a * Y := ⟨_, rfl⟩
        obtain ⟨W3, hW3⟩ : ∃ z, z = pq % 18446744073709551616 := ⟨_, rfl⟩
        have mW1 : ((u : Int) * 4294967296) % 18446744073709551616 = (W1 : Int) := by omega
        have mW2 : ((W1 : Int) + (un1 : Int)) % 18446744073709551616 = (W2 : Int) := by omega
        have mW3 : ((a : Int) * (Y : Int)) % 18446744073709551616 = (W3 : Int) := by rw [hW3, hpq, Int.natCast_emod, Int.natCast_mul]; rfl
        rw [← hpq] at hu2 hqY
        have hYl := HYl.out
        have mu2 : ((W2 : Int) - (W3 : Int)) % 18446744073709551616 = (u2 : Int) := by omega
        have lu2 : u2 < 18446744073709551616 := by omega
        have wW1 : IntKind.u64.wrap ((u : Int) * 4294967296) = (W1 : Int) := u64w _ _ mW1
        have wW2 : IntKind.u64.wrap ((W1 : Int) + (un1 : Int)) = (W2 : Int) := u64w _ _ mW2
        have wW3 : IntKind.u64.wrap ((a : Int) * (Y : Int)) = (W3 : Int) := u64w _ _ mW3
        have wu2 : IntKind.u64.wrap ((W2 : Int) - (W3 : Int)) = (u2 : Int) := u64w _ _ mu2
        have vu2 : IntKind.u64.wrap (u2 : Int) = (u2 : Int) := u64w _ _ (u64e _ lu2)
        obtain ⟨g, hg⟩ : ∃ z, z = u2 / yn1 := ⟨_, rfl⟩
        obtain ⟨h, hh⟩ : ∃ z, z = u2 % yn1 := ⟨_, rfl⟩
        have hI2 := KInv.start HY1a.out HY1b.out HY0b.out (show u2 < yn1 * 4294967296 + yn0 by rw [← HYY.out]; exact hu2Y) HU0b.out
        rw [← hg, ← hh] at hI2
        have eg : (u2 : Int) / (yn1 : Int) = (g : Int) := by rw [hg, Int.natCast_ediv]
        obtain ⟨p2, hp2⟩ : ∃ z, z = g * yn1 := ⟨_, rfl⟩
        have bp2 : (g : Int) * (yn1 : Int) = (p2 : Int) := by rw [hp2]; exact (Int.natCast_mul _ _).symm
        have hup2 : u2 = p2 + h := by rw [hp2]; exact hI2.eq
        have lp2 : p2 < 18446744073709551616 := by omega
        have bh : (u2 : Int) - (p2 : Int) = (h : Int) := by omega
        have lh : h < 18446744073709551616 := by omega
        have lg : g < 18446744073709551616 := by have := hI2.ql; omega
        have vg : IntKind.u64.wrap (g : Int) = (g : Int) := u64w _ _ (u64e _ lg)
        have mp2 : ((g : Int) * (yn1 : Int)) % 18446744073709551616 = (p2 : Int) := by rw [bp2]; exact u64e _ lp2
        have wp2 : IntKind.u64.wrap ((g : Int) * (yn1 : Int)) = (p2 : Int) := u64w _ _ mp2
        have vp2 : IntKind.u64.wrap (p2 : Int) = (p2 : Int) := u64w _ _ (u64e _ lp2)
        have xp2 : (p2 : Int) % 18446744073709551616 = (p2 : Int) := u64e _ lp2
        have mh : ((u2 : Int) - (p2 : Int)) % 18446744073709551616 = (h : Int) := by rw [bh]; exact u64e _ lh
        have wh : IntKind.u64.wrap ((u2 : Int) - (p2 : Int)) = (h : Int) := u64w _ _ mh
        have vh : IntKind.u64.wrap (h : Int) = (h : Int) := u64w _ _ (u64e _ lh)
        have xh : (h : Int) % 18446744073709551616 = (h : Int) := u64e _ lh
        have HI2 := Lib.hid hI2
        have HhU2 := Lib.hid (show u2 < yn1 * 4294967296 + yn0 by rw [← HYY.out]; exact hu2Y)
        have HU2 := Lib.hid (show u2 = u * 4294967296 + un1 - a * Y by rw [← hpq]; exact hu2)
        have HQ1 := Lib.hid (show a = (u * 4294967296 + un1) / Y by rw [HYY.out]; exact HQ.out)
        have HQB := Lib.hid (show a < 4294967296 by
          rw [HQ1.out]
          apply Nat.div_lt_of_lt_mul
          have h1 := HhY.out
          have h2 := HU1b.out
          have h3 := HYY.out
          omega)
        clear hYp hu2 hqY hu2Y hW1 hW2 hpq hW3 hYl lu2 hg hh hI2 hp2 hup2 lp2 lh lg mW1 mW2 mW3 mu2 HQ
        go_wp2_with fail
        go_loop [18, 16] (fun x y => ∃ a b : Nat, x = .int .u64 (a : Int) ∧ y = .int .u64 (b : Int) ∧ KInv yn1 yn0 u2 un0 a b) (fun x _ => (intOf x).toNat)
        case atStart => exact ⟨g, h, rfl, rfl, HI2.out⟩
        case round =>
          obtain ⟨c, e, rfl, rfl, hK⟩ := hrel
          have HK := Lib.hid hK
          clear hK
          by_cases hq2 : 4294967296 ≤ c
          · have dq : decide (4294967296 ≤ (c : Int)) = true := by simp; omega
            have hcond : 4294967296 ≤ c ∨ 4294967296 * e + un0 < c * yn0 := .inl hq2
            have hge := (HK.out.next HY1b.out HhU2.out HU0b.out hcond).1
            obtain ⟨c1, hc1⟩ : ∃ z, z = c - 1 := ⟨_, rfl⟩
            obtain ⟨e1, he1⟩ : ∃ z, z = e + yn1 := ⟨_, rfl⟩
            have bc1 : (c : Int) - 1 = (c1 : Int) := by omega
            have lc1 : c1 < 18446744073709551616 := by have := HK.out.ql; omega
            have be1 : (e : Int) + (yn1 : Int) = (e1 : Int) := by omega
            have le1 : e1 < 18446744073709551616 := by have := HK.out.rl; have := HY1b.out; omega
            have mc1 : ((c : Int) - 1) % 18446744073709551616 = (c1 : Int) := by rw [bc1]; exact u64e _ lc1
            have wc1 : IntKind.u64.wrap ((c : Int) - 1) = (c1 : Int) := u64w _ _ mc1
            have vc1 : IntKind.u64.wrap (c1 : Int) = (c1 : Int) := u64w _ _ (u64e _ lc1)
            have xc1 : (c1 : Int) % 18446744073709551616 = (c1 : Int) := u64e _ lc1
            have me1 : ((e : Int) + (yn1 : Int)) % 18446744073709551616 = (e1 : Int) := by rw [be1]; exact u64e _ le1
            have we1 : IntKind.u64.wrap ((e : Int) + (yn1 : Int)) = (e1 : Int) := u64w _ _ me1
            have ve1 : IntKind.u64.wrap (e1 : Int) = (e1 : Int) := u64w _ _ (u64e _ le1)
            have xe1 : (e1 : Int) % 18446744073709551616 = (e1 : Int) := u64e _ le1
            by_cases hbr : 4294967296 ≤ e1
            · have HQ := Lib.hid (show c1 = (u2 * 4294967296 + un0) / (yn1 * 4294967296 + yn0) by rw [hc1]; exact HK.out.broke HY1b.out HY0b.out HhU2.out HU0b.out hcond (by omega))
              have dbr : decide (4294967296 ≤ (e1 : Int)) = true := by simp; omega
              clear hcond hq2 hge hc1 he1 lc1 le1 hbr
              obtain ⟨qd, hqd⟩ : ∃ z, z = c1 * Y := ⟨_, rfl⟩
              have HQ0 := Lib.hid (show c1 = (u2 * 4294967296 + un0) / Y by rw [HYY.out]; exact HQ.out)
              have hkn := knuth HYp.out HTP.out HY.out HNT.out HQ1.out HU2.out HQ0.out
              have hqdY : qd ≤ u2 * 4294967296 + un0 := by rw [hqd, HQ0.out]; exact Nat.div_mul_le_self _ _
              have hr0Y : u2 * 4294967296 + un0 - qd < Y := by
                rw [hqd, HQ0.out, Nat.mul_comm (_ / Y) Y, ← Nat.mod_eq_sub]
                exact Nat.mod_lt _ (by have := HYg.out; omega)
              have hq0B : c1 < 4294967296 := by
                rw [HQ0.out]
                apply Nat.div_lt_of_lt_mul
                have h1 := HhU2.out
                have h2 := HU0b.out
                have h3 := HYY.out
                omega
              have hq1B := HQB.out
              have hYl := HYl.out
              obtain ⟨r0, hr0⟩ : ∃ z, z = u2 * 4294967296 + un0 - qd := ⟨_, rfl⟩
              rw [← hqd, ← hr0] at hkn
              rw [← hr0] at hr0Y
              obtain ⟨Qr, hQr⟩ : ∃ z, z = Nn / y := ⟨_, rfl⟩
              obtain ⟨Rr, hRr⟩ : ∃ z, z = Nn % y := ⟨_, rfl⟩
              rw [← hQr, ← hRr] at hkn
              obtain ⟨V1, hV1⟩ : ∃ z, z = a * 4294967296 := ⟨_, rfl⟩
              obtain ⟨X1, hX1⟩ : ∃ z, z = u2 * 4294967296 % 18446744073709551616 := ⟨_, rfl⟩
              obtain ⟨X2, hX2⟩ : ∃ z, z = (X1 + un0) % 18446744073709551616 := ⟨_, rfl⟩
              obtain ⟨X3, hX3⟩ : ∃ z, z = qd % 18446744073709551616 := ⟨_, rfl⟩
              have hk1 := hkn.1
              have hk2 := hkn.2
              have bV1 : (a : Int) * 4294967296 = (V1 : Int) := by omega
              have lV1 : V1 < 18446744073709551616 := by omega
              have bQr : (V1 : Int) + (c1 : Int) = (Qr : Int) := by omega
              have lQr : Qr < 18446744073709551616 := by omega
              have mX1 : ((u2 : Int) * 4294967296) % 18446744073709551616 = (X1 : Int) := by omega
              have mX2 : ((X1 : Int) + (un0 : Int)) % 18446744073709551616 = (X2 : Int) := by omega
              have mX3 : ((c1 : Int) * (Y : Int)) % 18446744073709551616 = (X3 : Int) := by rw [hX3, hqd, Int.natCast_emod, Int.natCast_mul]; rfl
              have mr0 : ((X2 : Int) - (X3 : Int)) % 18446744073709551616 = (r0 : Int) := by omega
              have eRr : (r0 : Int) / (t : Int) = (Rr : Int) := by rw [hk2, Int.natCast_ediv]
              have mV1 : ((a : Int) * 4294967296) % 18446744073709551616 = (V1 : Int) := by rw [bV1]; exact u64e _ lV1
              have wV1 : IntKind.u64.wrap ((a : Int) * 4294967296) = (V1 : Int) := u64w _ _ mV1
              have vV1 : IntKind.u64.wrap (V1 : Int) = (V1 : Int) := u64w _ _ (u64e _ lV1)
              have xV1 : (V1 : Int) % 18446744073709551616 = (V1 : Int) := u64e _ lV1
              have mQr : ((V1 : Int) + (c1 : Int)) % 18446744073709551616 = (Qr : Int) := by rw [bQr]; exact u64e _ lQr
              have wQr : IntKind.u64.wrap ((V1 : Int) + (c1 : Int)) = (Qr : Int) := u64w _ _ mQr
              have vQr : IntKind.u64.wrap (Qr : Int) = (Qr : Int) := u64w _ _ (u64e _ lQr)
              have xQr : (Qr : Int) % 18446744073709551616 = (Qr : Int) := u64e _ lQr
              have wX1 : IntKind.u64.wrap ((u2 : Int) * 4294967296) = (X1 : Int) := u64w _ _ mX1
              have wX2 : IntKind.u64.wrap ((X1 : Int) + (un0 : Int)) = (X2 : Int) := u64w _ _ mX2
              have wX3 : IntKind.u64.wrap ((c1 : Int) * (Y : Int)) = (X3 : Int) := u64w _ _ mX3
              have wr0 : IntKind.u64.wrap ((X2 : Int) - (X3 : Int)) = (r0 : Int) := u64w _ _ mr0
              have vr0 : IntKind.u64.wrap (r0 : Int) = (r0 : Int) := u64w _ _ (u64e _ (by omega))
              have HQR := Lib.hid hQr
              have HRR := Lib.hid hRr
              clear hqd hkn hqdY hr0Y hq0B hq1B hYl hr0 hQr hRr hV1 hX1 hX2 hX3 hk1 hk2 lV1 lQr mX1 mX2 mX3 mr0
              go_wp2_with fail
              go_ret2
              exact ⟨by rw [show ((Nn : Int) / (y : Int)) = (Qr : Int) by rw [HQR.out, Int.natCast_ediv], show ((Nn : Int) % (y : Int)) = (Rr : Int) by rw [HRR.out, Int.natCast_emod]]; rfl, rfl⟩
            · have HKN := Lib.hid (show KInv yn1 yn0 u2 un0 c1 e1 by rw [hc1, he1]; exact HK.out.again HY1b.out HhU2.out HU0b.out hcond (by omega))
              have dbr : decide (4294967296 ≤ (e1 : Int)) = false := by simp; omega
              have HMS := Lib.hid (show c1 < c by omega)
              clear hcond hq2 hge hc1 he1 lc1 le1 hbr
              go_wp2_with fail
              go_round
              case rel => first | exact ⟨c1, e1, rfl, rfl, HKN.out⟩ | ((repeat apply Exists.intro); exact ⟨⟨c1, e1, rfl, rfl, HKN.out⟩, rfl⟩)
              case measure => (have := HMS.out; simp [intOf]; omega)
          · have dq : decide (4294967296 ≤ (c : Int)) = false := by simp; omega
            obtain ⟨P2, hP⟩ : ∃ z, z = c * yn0 := ⟨_, rfl⟩
            obtain ⟨R2, hR⟩ : ∃ z, z = 4294967296 * e := ⟨_, rfl⟩
            obtain ⟨S2, hS⟩ : ∃ z, z = R2 + un0 := ⟨_, rfl⟩
            have bP2 : (c : Int) * (yn0 : Int) = (P2 : Int) := by rw [hP]; exact (Int.natCast_mul _ _).symm
            have lP2 : P2 < 18446744073709551616 := by rw [hP]; exact Nat.lt_of_le_of_lt (Nat.mul_le_mul (show c ≤ 4294967295 by omega) (show yn0 ≤ 4294967295 by have := HY0b.out; omega)) (by decide)
            have bR2 : 4294967296 * (e : Int) = (R2 : Int) := by omega
            have lR2 : R2 < 18446744073709551616 := by have := HK.out.rl; omega
            have bS2 : (R2 : Int) + (un0 : Int) = (S2 : Int) := by omega
            have lS2 : S2 < 18446744073709551616 := by have := HK.out.rl; have := HU0b.out; omega
            have mP2 : ((c : Int) * (yn0 : Int)) % 18446744073709551616 = (P2 : Int) := by rw [bP2]; exact u64e _ lP2
            have wP2 : IntKind.u64.wrap ((c : Int) * (yn0 : Int)) = (P2 : Int) := u64w _ _ mP2
            have vP2 : IntKind.u64.wrap (P2 : Int) = (P2 : Int) := u64w _ _ (u64e _ lP2)
            have xP2 : (P2 : Int) % 18446744073709551616 = (P2 : Int) := u64e _ lP2
            have mR2 : (4294967296 * (e : Int)) % 18446744073709551616 = (R2 : Int) := by rw [bR2]; exact u64e _ lR2
            have wR2 : IntKind.u64.wrap (4294967296 * (e : Int)) = (R2 : Int) := u64w _ _ mR2
            have vR2 : IntKind.u64.wrap (R2 : Int) = (R2 : Int) := u64w _ _ (u64e _ lR2)
            have xR2 : (R2 : Int) % 18446744073709551616 = (R2 : Int) := u64e _ lR2
            have mS2 : ((R2 : Int) + (un0 : Int)) % 18446744073709551616 = (S2 : Int) := by rw [bS2]; exact u64e _ lS2
            have wS2 : IntKind.u64.wrap ((R2 : Int) + (un0 : Int)) = (S2 : Int) := u64w _ _ mS2
            have vS2 : IntKind.u64.wrap (S2 : Int) = (S2 : Int) := u64w _ _ (u64e _ lS2)
            have xS2 : (S2 : Int) % 18446744073709551616 = (S2 : Int) := u64e _ lS2
            by_cases hc2 : S2 < P2
            · have dc : decide ((S2 : Int) < (P2 : Int)) = true := by simp; omega
              have hcond : 4294967296 ≤ c ∨ 4294967296 * e + un0 < c * yn0 := .inr (by rw [← hP, ← hR, ← hS]; exact hc2)
              have hge := (HK.out.next HY1b.out HhU2.out HU0b.out hcond).1
              obtain ⟨c1, hc1⟩ : ∃ z, z = c - 1 := ⟨_, rfl⟩
              obtain ⟨e1, he1⟩ : ∃ z, z = e + yn1 := ⟨_, rfl⟩
              have bc1 : (c : Int) - 1 = (c1 : Int) := by omega
              have lc1 : c1 < 18446744073709551616 := by have := HK.out.ql; omega
              have be1 : (e : Int) + (yn1 : Int) = (e1 : Int) := by omega
              have le1 : e1 < 18446744073709551616 := by have := HK.out.rl; have := HY1b.out; omega
              have mc1 : ((c : Int) - 1) % 18446744073709551616 = (c1 : Int) := by rw [bc1]; exact u64e _ lc1
              have wc1 : IntKind.u64.wrap ((c : Int) - 1) = (c1 : Int) := u64w _ _ mc1
              have vc1 : IntKind.u64.wrap (c1 : Int) = (c1 : Int) := u64w _ _ (u64e _ lc1)
              have xc1 : (c1 : Int) % 18446744073709551616 = (c1 : Int) := u64e _ lc1
              have me1 : ((e : Int) + (yn1 : Int)) % 18446744073709551616 = (e1 : Int) := by rw [be1]; exact u64e _ le1
              have we1 : IntKind.u64.wrap ((e : Int) + (yn1 : Int)) = (e1 : Int) := u64w _ _ me1
              have ve1 : IntKind.u64.wrap (e1 : Int) = (e1 : Int) := u64w _ _ (u64e _ le1)
              have xe1 : (e1 : Int) % 18446744073709551616 = (e1 : Int) := u64e _ le1
              by_cases hbr : 4294967296 ≤ e1
              · have HQ := Lib.hid (show c1 = (u2 * 4294967296 + un0) / (yn1 * 4294967296 + yn0) by rw [hc1]; exact HK.out.broke HY1b.out HY0b.out HhU2.out HU0b.out hcond (by omega))
                have dbr : decide (4294967296 ≤ (e1 : Int)) = true := by simp; omega
                clear hcond hP hR hS hq2 lP2 lR2 lS2 hge hc1 he1 lc1 le1 hbr
                obtain ⟨qd, hqd⟩ : ∃ z, z = c1 * Y := ⟨_, rfl⟩
                have HQ0 := Lib.hid (show c1 = (u2 * 4294967296 + un0) / Y by rw [HYY.out]; exact HQ.out)
                have hkn := knuth HYp.out HTP.out HY.out HNT.out HQ1.out HU2.out HQ0.out
                have hqdY : qd ≤ u2 * 4294967296 + un0 := by rw [hqd, HQ0.out]; exact Nat.div_mul_le_self _ _
                have hr0Y : u2 * 4294967296 + un0 - qd < Y := by
                  rw [hqd, HQ0.out, Nat.mul_comm (_ / Y) Y, ← Nat.mod_eq_sub]
                  exact Nat.mod_lt _ (by have := HYg.out; omega)
                have hq0B : c1 < 4294967296 := by
                  rw [HQ0.out]
                  apply Nat.div_lt_of_lt_mul
                  have h1 := HhU2.out
                  have h2 := HU0b.out
                  have h3 := HYY.out
                  omega
                have hq1B := HQB.out
                have hYl := HYl.out
                obtain ⟨r0, hr0⟩ : ∃ z, z = u2 * 4294967296 + un0 - qd := ⟨_, rfl⟩
                rw [← hqd, ← hr0] at hkn
                rw [← hr0] at hr0Y
                obtain ⟨Qr, hQr⟩ : ∃ z, z = Nn / y := ⟨_, rfl⟩
                obtain ⟨Rr, hRr⟩ : ∃ z, z = Nn % y := ⟨_, rfl⟩
                rw [← hQr, ← hRr] at hkn
                obtain ⟨V1, hV1⟩ : ∃ z, z = a * 4294967296 := ⟨_, rfl⟩
                obtain ⟨X1, hX1⟩ : ∃ z, z = u2 * 4294967296 % 18446744073709551616 := ⟨_, rfl⟩
                obtain ⟨X2, hX2⟩ : ∃ z, z = (X1 + un0) % 18446744073709551616 := ⟨_, rfl⟩
                obtain ⟨X3, hX3⟩ : ∃ z, z = qd % 18446744073709551616 := ⟨_, rfl⟩
                have hk1 := hkn.1
                have hk2 := hkn.2
                have bV1 : (a : Int) * 4294967296 = (V1 : Int) := by omega
                have lV1 : V1 < 18446744073709551616 := by omega
                have bQr : (V1 : Int) + (c1 : Int) = (Qr : Int) := by omega
                have lQr : Qr < 18446744073709551616 := by omega
                have mX1 : ((u2 : Int) * 4294967296) % 18446744073709551616 = (X1 : Int) := by omega
                have mX2 : ((X1 : Int) + (un0 : Int)) % 18446744073709551616 = (X2 : Int) := by omega
                have mX3 : ((c1 : Int) * (Y : Int)) % 18446744073709551616 = (X3 : Int) := by rw [hX3, hqd, Int.natCast_emod, Int.natCast_mul]; rfl
                have mr0 : ((X2 : Int) - (X3 : Int)) % 18446744073709551616 = (r0 : Int) := by omega
                have eRr : (r0 : Int) / (t : Int) = (Rr : Int) := by rw [hk2, Int.natCast_ediv]
                have mV1 : ((a : Int) * 4294967296) % 18446744073709551616 = (V1 : Int) := by rw [bV1]; exact u64e _ lV1
                have wV1 : IntKind.u64.wrap ((a : Int) * 4294967296) = (V1 : Int) := u64w _ _ mV1
                have vV1 : IntKind.u64.wrap (V1 : Int) = (V1 : Int) := u64w _ _ (u64e _ lV1)
                have xV1 : (V1 : Int) % 18446744073709551616 = (V1 : Int) := u64e _ lV1
                have mQr : ((V1 : Int) + (c1 : Int)) % 18446744073709551616 = (Qr : Int) := by rw [bQr]; exact u64e _ lQr
                have wQr : IntKind.u64.wrap ((V1 : Int) + (c1 : Int)) = (Qr : Int) := u64w _ _ mQr
                have vQr : IntKind.u64.wrap (Qr : Int) = (Qr : Int) := u64w _ _ (u64e _ lQr)
                have xQr : (Qr : Int) % 18446744073709551616 = (Qr : Int) := u64e _ lQr
                have wX1 : IntKind.u64.wrap ((u2 : Int) * 4294967296) = (X1 : Int) := u64w _ _ mX1
                have wX2 : IntKind.u64.wrap ((X1 : Int) + (un0 : Int)) = (X2 : Int) := u64w _ _ mX2
                have wX3 : IntKind.u64.wrap ((c1 : Int) * (Y : Int)) = (X3 : Int) := u64w _ _ mX3
                have wr0 : IntKind.u64.wrap ((X2 : Int) - (X3 : Int)) = (r0 : Int) := u64w _ _ mr0
                have vr0 : IntKind.u64.wrap (r0 : Int) = (r0 : Int) := u64w _ _ (u64e _ (by omega))
                have HQR := Lib.hid hQr
                have HRR := Lib.hid hRr
                clear hqd hkn hqdY hr0Y hq0B hq1B hYl hr0 hQr hRr hV1 hX1 hX2 hX3 hk1 hk2 lV1 lQr mX1 mX2 mX3 mr0
                go_wp2_with fail
                go_ret2
                exact ⟨by rw [show ((Nn : Int) / (y : Int)) = (Qr : Int) by rw [HQR.out, Int.natCast_ediv], show ((Nn : Int) % (y : Int)) = (Rr : Int) by rw [HRR.out, Int.natCast_emod]]; rfl, rfl⟩
              · have HKN := Lib.hid (show KInv yn1 yn0 u2 un0 c1 e1 by rw [hc1, he1]; exact HK.out.again HY1b.out HhU2.out HU0b.out hcond (by omega))
                have dbr : decide (4294967296 ≤ (e1 : Int)) = false := by simp; omega
                have HMS := Lib.hid (show c1 < c by omega)
                clear hcond hP hR hS hq2 lP2 lR2 lS2 hge hc1 he1 lc1 le1 hbr
                go_wp2_with fail
                go_round
                case rel => first | exact ⟨c1, e1, rfl, rfl, HKN.out⟩ | ((repeat apply Exists.intro); exact ⟨⟨c1, e1, rfl, rfl, HKN.out⟩, rfl⟩)
                case measure => (have := HMS.out; simp [intOf]; omega)
            · have dc : decide ((S2 : Int) < (P2 : Int)) = false := by simp; omega
              have HQ := Lib.hid (show c = (u2 * 4294967296 + un0) / (yn1 * 4294967296 + yn0) from HK.out.done (by rw [← hP, ← hR, ← hS]; omega))
              clear hP hR hS lP2 lR2 lS2 hq2
              have vc : IntKind.u64.wrap (c : Int) = (c : Int) := u64w _ _ (u64e _ (by have := HK.out.ql; omega))
              obtain ⟨qd, hqd⟩ : ∃ z, z = c * Y := ⟨_, rfl⟩
              have HQ0 := Lib.hid (show c = (u2 * 4294967296 + un0) / Y by rw [HYY.out]; exact HQ.out)
              have hkn := knuth HYp.out HTP.out HY.out HNT.out HQ1.out HU2.out HQ0.out
              have hqdY : qd ≤ u2 * 4294967296 + un0 := by rw [hqd, HQ0.out]; exact Nat.div_mul_le_self _ _
              have hr0Y : u2 * 4294967296 + un0 - qd < Y := by
                rw [hqd, HQ0.out, Nat.mul_comm (_ / Y) Y, ← Nat.mod_eq_sub]
                exact Nat.mod_lt _ (by have := HYg.out; omega)
              have hq0B : c < 4294967296 := by
                rw [HQ0.out]
                apply Nat.div_lt_of_lt_mul
                have h1 := HhU2.out
                have h2 := HU0b.out
                have h3 := HYY.out
                omega
              have hq1B := HQB.out
              have hYl := HYl.out
              obtain ⟨r0, hr0⟩ : ∃ z, z = u2 * 4294967296 + un0 - qd := ⟨_, rfl⟩
              rw [← hqd, ← hr0] at hkn
              rw [← hr0] at hr0Y
              obtain ⟨Qr, hQr⟩ : ∃ z, z = Nn / y := ⟨_, rfl⟩
              obtain ⟨Rr, hRr⟩ : ∃ z, z = Nn % y := ⟨_, rfl⟩
              rw [← hQr, ← hRr] at hkn
              obtain ⟨V1, hV1⟩ : ∃ z, z = a * 4294967296 := ⟨_, rfl⟩
              obtain ⟨X1, hX1⟩ : ∃ z, z = u2 * 4294967296 % 18446744073709551616 := ⟨_, rfl⟩
              obtain ⟨X2, hX2⟩ : ∃ z, z = (X1 + un0) % 18446744073709551616 := ⟨_, rfl⟩
              obtain ⟨X3, hX3⟩ : ∃ z, z = qd % 18446744073709551616 := ⟨_, rfl⟩
              have hk1 := hkn.1
              have hk2 := hkn.2
              have bV1 : (a : Int) * 4294967296 = (V1 : Int) := by omega
              have lV1 : V1 < 18446744073709551616 := by omega
              have bQr : (V1 : Int) + (c : Int) = (Qr : Int) := by omega
              have lQr : Qr < 18446744073709551616 := by omega
              have mX1 : ((u2 : Int) * 4294967296) % 18446744073709551616 = (X1 : Int) := by omega
              have mX2 : ((X1 : Int) + (un0 : Int)) % 18446744073709551616 = (X2 : Int) := by omega
              have mX3 : ((c : Int) * (Y : Int)) % 18446744073709551616 = (X3 : Int) := by rw [hX3, hqd, Int.natCast_emod, Int.natCast_mul]; rfl
              have mr0 : ((X2 : Int) - (X3 : Int)) % 18446744073709551616 = (r0 : Int) := by omega
              have eRr : (r0 : Int) / (t : Int) = (Rr : Int) := by rw [hk2, Int.natCast_ediv]
              have mV1 : ((a : Int) * 4294967296) % 18446744073709551616 = (V1 : Int) := by rw [bV1]; exact u64e _ lV1
              have wV1 : IntKind.u64.wrap ((a : Int) * 4294967296) = (V1 : Int) := u64w _ _ mV1
              have vV1 : IntKind.u64.wrap (V1 : Int) = (V1 : Int) := u64w _ _ (u64e _ lV1)
              have xV1 : (V1 : Int) % 18446744073709551616 = (V1 : Int) := u64e _ lV1
              have mQr : ((V1 : Int) + (c : Int)) % 18446744073709551616 = (Qr : Int) := by rw [bQr]; exact u64e _ lQr
              have wQr : IntKind.u64.wrap ((V1 : Int) + (c : Int)) = (Qr : Int) := u64w _ _ mQr
              have vQr : IntKind.u64.wrap (Qr : Int) = (Qr : Int) := u64w _ _ (u64e _ lQr)
              have xQr : (Qr : Int) % 18446744073709551616 = (Qr : Int) := u64e _ lQr
              have wX1 : IntKind.u64.wrap ((u2 : Int) * 4294967296) = (X1 : Int) := u64w _ _ mX1
              have wX2 : IntKind.u64.wrap ((X1 : Int) + (un0 : Int)) = (X2 : Int) := u64w _ _ mX2
              have wX3 : IntKind.u64.wrap ((c : Int) * (Y : Int)) = (X3 : Int) := u64w _ _ mX3
              have wr0 : IntKind.u64.wrap ((X2 : Int) - (X3 : Int)) = (r0 : Int) := u64w _ _ mr0
              have vr0 : IntKind.u64.wrap (r0 : Int) = (r0 : Int) := u64w _ _ (u64e _ (by omega))
              have HQR := Lib.hid hQr
              have HRR := Lib.hid hRr
              clear hqd hkn hqdY hr0Y hq0B hq1B hYl hr0 hQr hRr hV1 hX1 hX2 hX3 hk1 hk2 lV1 lQr mX1 mX2 mX3 mr0
              go_wp2_with fail
              go_ret2
              exact ⟨by rw [show ((Nn : Int) / (y : Int)) = (Qr : Int) by rw [HQR.out, Int.natCast_ediv], show ((Nn : Int) % (y : Int)) = (Rr : Int) by rw [HRR.out, Int.natCast_emod]]; rfl, rfl⟩

end Go.Proofs.Ytmkbojhnbkdalaa
