/- The walks of digest: Short. -/
import Derived.Test.YtnfpahanbnidpaaDoorDigJ
import Derived.Laws.IdiomStrings
set_option linter.unusedSimpArgs false
set_option linter.unusedVariables false
namespace Go.Proofs.YtnfpahanbnidpaaDoor
open Go.RowKit

def valN (l : List UInt8) : Nat := l.foldl (fun n c => n * 256 + c.toNat) 0
theorem valN_snoc (l : List UInt8) (c : UInt8) : valN (l ++ [c]) = valN l * 256 + c.toNat := by
  unfold valN
  rw [List.foldl_append]
  rfl
theorem valN_take {l : List UInt8} {k : Nat} (h : k < l.length) : valN (l.take (k + 1)) = valN (l.take k) * 256 + l[k].toNat := by
  rw [List.take_succ_eq_append_getElem h, valN_snoc]
theorem valN_lt (l : List UInt8) : ∀ k, k ≤ l.length → valN (l.take k) < 256 ^ k
  | 0, _ => by simp [valN]
  | k + 1, h => by
    rw [valN_take (by omega), Nat.pow_succ]
    have := valN_lt l k (by omega)
    have := l[k].toNat_lt
    omega
def shortN (l : List UInt8) : Nat := valN ((sumN l).take 8) / 16
theorem shl8 (x : Nat) (hx : x < 256 ^ 7) : Op.shift BinOp.shl IntKind.u64 (x : Int) IntKind.u64 8 = pure (.int .u64 ((x * 256 : Nat) : Int)) := by
  rw [shift_shl .u64 .u64 _ _ (by decide) (by decide), IntKind.wrap_u64]
  congr 2
  have : (2 : Int) ^ (8 : Int).toNat = 256 := rfl
  rw [this]
  omega
theorem shr4 (x : Nat) : Op.shift BinOp.shr IntKind.u64 (x : Int) IntKind.u64 4 = pure (.int .u64 ((x / 16 : Nat) : Int)) := by
  rw [shift_shr .u64 .u64 _ _ (by decide) (by decide)]
  congr 2
theorem wraps_u64 (n : Int) (h₀ : 0 ≤ n) (h₁ : n < 2 ^ 64) : IntKind.u64.wrap n = n := by rw [IntKind.wrap_u64]; omega
theorem or8 (x c : Nat) (hx : x < 256 ^ 7) (hc : c < 256) : bits .or .u64 ((x * 256 : Nat) : Int) (c : Int) = ((x * 256 + c : Nat) : Int) := by
  rw [(bits_nat .u64 64 (by decide) wraps_u64 (x * 256) c (by omega) (by omega)).2]
  have := Nat.two_pow_add_eq_or_of_lt (i := 8) (b := c) (by omega) x
  rw [Nat.mul_comm, show (256 : Nat) = 2 ^ 8 from rfl, ← this]

set_option maxHeartbeats 1000000 in
set_option maxRecDepth 100000 in
theorem short_any (s : ByteArray) (w : World) (hs : s.size < 500000) (hL : LaidAt w) :
    Calls Tryd.prog 17 #[.string s] w fun e w' => e = .returned (.int .i64 (shortN s.data.toList : Nat)) ∧ Below w.heap.size w w' := by
  have HL := Lib.hid hL
  clear hL
  have hlen := sumN_len s.data.toList (by simp; omega)
  obtain ⟨X, hX⟩ : ∃ X : ByteArray, X = ⟨(sumN s.data.toList).toArray⟩ := ⟨_, rfl⟩
  have hXs : X.size = 32 := by rw [hX]; show (sumN s.data.toList).toArray.size = 32; simpa using hlen
  obtain ⟨Y, hY⟩ : ∃ Y : ByteArray, Y = X.extract 0 8 := ⟨_, rfl⟩
  have hYs : Y.size = 8 := by rw [hY, ByteArray.size_extract]; omega
  have HY := Lib.hid (show Y.data.toList = (sumN s.data.toList).take 8 by rw [hY, hX]; simp)
  have HX := Lib.hid hX
  have hcv := fun w => run_bytes_of_string (P := Tryd.prog) w 9 30 5 Y Tryd.underlying9 Tryd.underlying30 Tryd.underlying5
  simp only [hYs] at hcv
  have hXY := hY.symm
  have hX8 : (8 : Int) ≤ (X.size : Int) := by omega
  clear hY hX hlen
  go_enter Tryd.func17, Tryd.ntmps17
  go_wp2_with fail
  refine (sum_any s w hs HL.out).mono ?_
  rintro e w1 ⟨rfl, hb1⟩
  have B1 := Lib.hid hb1
  rw [← HX.out]
  clear hb1
  go_wp2_with fail
  have HC := Lib.hid (show ∀ k (hk : k < Y.size), ((w1.alloc (.cells (bytesRow Y (grownCap w1 8 0 5)) 5 ((bytesRow Y (grownCap w1 8 0 5)).size, (bytesRow Y (grownCap w1 8 0 5)).size + 1))).drew).cell? ⟨w1.heap.size, k, none⟩ = some (.int .u8 ((Y[k]'hk).toNat : Int)) by
    intro k hk
    show (w1.alloc _).cell? _ = _
    rw [World.cell?_alloc_mark]
    exact bytesRow_at Y _ k hk)
  have HB := Lib.hid (show Below w.heap.size w (w1.alloc (.cells (bytesRow Y (grownCap w1 8 0 5)) 5 ((bytesRow Y (grownCap w1 8 0 5)).size, (bytesRow Y (grownCap w1 8 0 5)).size + 1))).drew from (B1.out.alloc B1.out.size _).drew)
  generalize (w1.alloc (.cells (bytesRow Y (grownCap w1 8 0 5)) 5 ((bytesRow Y (grownCap w1 8 0 5)).size, (bytesRow Y (grownCap w1 8 0 5)).size + 1))).drew = W at HC HB ⊢
  generalize grownCap w1 8 0 5 = cap
  clear hcv hXY hX8 hXs
  go_loop [3, 11] (fun n i => ∃ k : Nat, k ≤ 8 ∧ i = .int .i64 k ∧ n = .int .u64 (valN (Y.data.toList.take k) : Nat)) (fun _ i => 8 - (intOf i).toNat)
  case atStart => exact ⟨0, Nat.zero_le _, rfl, rfl⟩
  case round =>
    obtain ⟨k, hk, rfl, rfl⟩ := hrel
    by_cases hlt : k < 8
    · have hk0 : (0 : Int) ≤ (k : Int) := by omega
      have hki : (k : Int) < 8 := by omega
      have hcell := HC.out k (by omega)
      have hll : k < Y.data.toList.length := by simpa [hYs] using hlt
      have hvt := valN_take hll
      have hvl := valN_lt Y.data.toList k (by omega)
      have h256 : 256 ^ k ≤ 256 ^ 7 := Nat.pow_le_pow_right (by decide) (by omega)
      have hcl := (Y[k]'(by omega)).toNat_lt
      have hgk : Y.data.toList[k]'hll = Y[k]'(by omega) := rfl
      rw [hgk] at hvt
      obtain ⟨c, hc⟩ : ∃ c, c = (Y[k]'(by omega)).toNat := ⟨_, rfl⟩
      obtain ⟨x, hx⟩ : ∃ x, x = valN (Y.data.toList.take k) := ⟨_, rfl⟩
      rw [← hx] at hvl hvt
      rw [← hc] at hvt hcl hcell
      have h1 := shl8 x (by omega)
      have h2 := or8 x c (by omega) (by omega)
      have h3 : IntKind.u64.wrap (c : Int) = (c : Int) := by rw [IntKind.wrap_u64]; omega
      have h4 : IntKind.i64.wrap ((k : Int) + 1) = (k : Int) + 1 := by rw [IntKind.wrap_i64]; omega
      have HV := Lib.hid hvt
      obtain ⟨y, hy⟩ : ∃ y, y = x * 256 := ⟨_, rfl⟩
      obtain ⟨z, hz⟩ : ∃ z, z = x * 256 + c := ⟨_, rfl⟩
      rw [← hy] at h1
      rw [← hz] at h2
      rw [← hy] at h2
      have HZ := Lib.hid hz
      rw [← hx]
      clear hvt hgk hx hc hvl h256 hy hz hcl
      go_wp2_with fail
      go_round
      case rel => exact ⟨k + 1, by omega, by go_num, by rw [HV.out, ← HZ.out]⟩
      case measure => simp [intOf]; omega
    · obtain rfl : k = 8 := by omega
      obtain ⟨x, hx⟩ : ∃ x, x = valN (Y.data.toList.take 8) := ⟨_, rfl⟩
      have hvl := valN_lt Y.data.toList 8 (by simp [hYs])
      rw [← hx] at hvl
      have h1 := shr4 x
      obtain ⟨m, hm⟩ : ∃ m, m = x / 16 := ⟨_, rfl⟩
      rw [← hm] at h1
      have h2 : IntKind.i64.wrap (m : Int) = (m : Int) := by rw [IntKind.wrap_i64]; omega
      have HM := Lib.hid (show shortN s.data.toList = m by
        unfold shortN
        rw [hm, hx, HY.out, List.take_take, Nat.min_self])
      rw [← hx]
      clear hx hm hvl
      go_wp2_with fail
      go_ret
      exact ⟨by rw [HM.out]; rfl, HB.out⟩

end Go.Proofs.YtnfpahanbnidpaaDoor
