/- DigestShorts: the walk and the plain law. -/
import Derived.Test.YtnfpahanbnidpaaDoorDigK
set_option linter.unusedSimpArgs false
set_option linter.unusedVariables false
namespace Go.Proofs.YtnfpahanbnidpaaDoor
open Go.RowKit

def shortAt (l : List UInt8) (k : Nat) : Nat := if k = 8 then shortN l else valN ((sumN l).take k)
theorem shortAt_lt (l : List UInt8) (hl : l.length < 1000000) (k : Nat) (hk : k ≤ 8) : shortAt l k < 256 ^ 8 := by
  have h1 := sumN_len l hl
  unfold shortAt shortN
  split
  · have := valN_lt (sumN l) 8 (by omega)
    omega
  · have := valN_lt (sumN l) k (by omega)
    have h256 : 256 ^ k ≤ 256 ^ 8 := Nat.pow_le_pow_right (by decide) (by omega)
    omega
theorem shortAt_top (l : List UInt8) (hl : l.length < 1000000) (h : 7 < (sumN l).length) : shortAt l 8 % 16 = (sumN l)[7].toNat / 16 ∧ shortAt l 8 / 16 = shortAt l 7 := by
  have h1 := sumN_len l hl
  have h2 := valN_take h
  have h3 := (sumN l)[7].toNat_lt
  unfold shortAt shortN
  rw [if_pos rfl, if_neg (by decide), show (8 : Nat) = 7 + 1 from rfl, h2]
  omega
theorem shortAt_low (l : List UInt8) (hl : l.length < 1000000) (k : Nat) (hk : k < 7) (h : k < (sumN l).length) : shortAt l (k + 1) % 256 = (sumN l)[k].toNat ∧ shortAt l (k + 1) / 256 = shortAt l k := by
  have h1 := sumN_len l hl
  have h2 := valN_take h
  have h3 := (sumN l)[k].toNat_lt
  unfold shortAt
  rw [if_neg (by omega), if_neg (by omega), h2]
  omega

set_option maxHeartbeats 1500000 in
set_option maxRecDepth 100000 in
theorem shorts_any (s : ByteArray) (w : World) (hL : LaidAt w) : Calls Tryd.prog 8 #[.string s] w fun e w' => e = .returned (.bool true) ∧ Below w.heap.size w w' := by
  have HL := Lib.hid hL
  have hsz := hL.2.2
  clear hL
  go_enter Tryd.func8, Tryd.ntmps8
  go_wp2_with fail
  refine (small_any w HL.out).mono ?_
  rintro e w1 ⟨rfl, hb1⟩
  have B1 := Lib.hid hb1
  clear hb1
  by_cases hs : 2000 < s.size
  · have hsi : (2000 : Int) < (s.size : Int) := by omega
    go_wp2
    go_ret
    exact ⟨rfl, B1.out⟩
  have hsi : ¬ (2000 : Int) < (s.size : Int) := by omega
  have hln : s.data.toList.length < 1000000 := by simp; omega
  have hlen := sumN_len s.data.toList hln
  obtain ⟨X, hX⟩ : ∃ X : ByteArray, X = ⟨(sumN s.data.toList).toArray⟩ := ⟨_, rfl⟩
  have hXs : X.size = 32 := by rw [hX]; show (sumN s.data.toList).toArray.size = 32; simpa using hlen
  have HXX := Lib.hid hX
  have HLN := Lib.hid hln
  clear hX hlen hln
  go_wp2_with fail
  refine (sum_any s w1 (by omega) (HL.out.below B1.out hsz)).mono ?_
  rintro e w2 ⟨rfl, hb2⟩
  have B2 := Lib.hid (B1.out.trans (hb2.mono B1.out.size))
  rw [← HXX.out]
  clear hb2
  go_wp2_with fail
  refine (short_any s w2 (by omega) (HL.out.below B2.out hsz)).mono ?_
  rintro e w3 ⟨rfl, hb3⟩
  have B3 := Lib.hid (B2.out.trans (hb3.mono B2.out.size))
  clear hb3
  obtain ⟨n0, hn0⟩ : ∃ n0, n0 = shortN s.data.toList := ⟨_, rfl⟩
  rw [← hn0]
  have HN0 := Lib.hid (show shortAt s.data.toList 8 = n0 from hn0.symm)
  clear hn0
  go_wp2_with fail
  go_loop [5, 6] (fun n i => ∃ k : Nat, k ≤ 8 ∧ i = .int .i64 ((k : Int) - 1) ∧ n = .int .i64 (shortAt s.data.toList k : Nat)) (fun _ i => ((intOf i) + 1).toNat)
  case atStart => exact ⟨8, by decide, rfl, by rw [HN0.out]⟩
  case round =>
    obtain ⟨k, hk, rfl, rfl⟩ := hrel
    match k, hk with
    | 0, hk =>
      rw [show shortAt s.data.toList 0 = 0 from rfl]
      go_wp2
      go_ret
      exact ⟨rfl, B3.out⟩
    | j + 1, hk =>
      have hj0 : (0 : Int) ≤ (j : Int) := by omega
      have hji : (j : Int) < 32 := by omega
      have hjx : (j : Int) < (X.size : Int) := by omega
      have hjj : j < X.size := by omega
      have hj1 : ((j + 1 : Nat) : Int) - 1 = (j : Int) := by omega
      have hjs : j < (sumN s.data.toList).length := by rw [sumN_len _ HLN.out]; omega
      have hxc : (sumN s.data.toList)[j]'hjs = X[j]'hjj := by
        have h1 := HXX.out
        subst h1
        rfl
      rw [hj1]
      obtain ⟨c, hc⟩ : ∃ c, c = (X[j]'hjj).toNat := ⟨_, rfl⟩
      have hcl := (X[j]'hjj).toNat_lt
      have hcw : IntKind.i64.wrap ((X[j]'hjj).toNat : Int) = (c : Int) := by rw [hc, IntKind.wrap_i64]; omega
      have hnl := shortAt_lt s.data.toList HLN.out (j + 1) hk
      obtain ⟨n, hn⟩ : ∃ n, n = shortAt s.data.toList (j + 1) := ⟨_, rfl⟩
      rw [← hn] at hnl
      rw [← hn]
      have hn0 : (0 : Int) ≤ (n : Int) := by omega
      by_cases h7 : j = 7
      · subst h7
        obtain ⟨a1, a2⟩ := shortAt_top s.data.toList HLN.out hjs
        rw [hxc, ← hc, show (8 : Nat) = 7 + 1 from rfl, ← hn] at a1
        rw [show (8 : Nat) = 7 + 1 from rfl, ← hn] at a2
        obtain ⟨q, hq⟩ : ∃ q, q = c / 16 := ⟨_, rfl⟩
        obtain ⟨m, hm⟩ : ∃ m, m = n / 16 := ⟨_, rfl⟩
        have e1 : (c : Int) / 16 = (q : Int) := by omega
        have e2 : (n : Int) % 16 = (q : Int) := by omega
        have e3 : (n : Int) / 16 = (m : Int) := by omega
        have hc0 : (0 : Int) ≤ (c : Int) := by omega
        have HM := Lib.hid (show shortAt s.data.toList 7 = m by rw [← a2, hm])
        have HMB := Lib.hid (show (m : Int) ≤ 9223372036854775807 by omega)
        clear a1 a2 hq hm hn hnl hxc hjs hcl hc hj1
        go_wp2_with fail
        go_round
        case rel => exact ⟨7, by omega, by go_num, by rw [HM.out, IntWalk.wrap64_in (m : Int) ⟨by omega, by have := HMB.out; omega⟩]⟩
        case measure => simp [intOf]
      · obtain ⟨a1, a2⟩ := shortAt_low s.data.toList HLN.out j (by omega) hjs
        rw [hxc, ← hc, ← hn] at a1
        rw [← hn] at a2
        obtain ⟨m, hm⟩ : ∃ m, m = n / 256 := ⟨_, rfl⟩
        have e2 : (n : Int) % 256 = (c : Int) := by omega
        have e3 : (n : Int) / 256 = (m : Int) := by omega
        have h7i : ((j : Int) == 7) = false := by simp; omega
        have HM := Lib.hid (show shortAt s.data.toList j = m by rw [← a2, hm])
        have HMB := Lib.hid (show (m : Int) ≤ 9223372036854775807 by omega)
        clear a1 a2 hm hn hnl hxc hjs hcl hc hj1
        go_wp2_with fail
        go_round
        case rel => exact ⟨j, by omega, by go_num, by rw [HM.out, IntWalk.wrap64_in (m : Int) ⟨by omega, by have := HMB.out; omega⟩]⟩
        case measure => simp [intOf]

end Go.Proofs.YtnfpahanbnidpaaDoor
