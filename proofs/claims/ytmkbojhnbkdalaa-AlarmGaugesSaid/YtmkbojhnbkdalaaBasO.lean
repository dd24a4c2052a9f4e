/- The walk of exact.Sum. -/
import Derived.Test.YtmkbojhnbkdalaaBasN
import Derived.Test.YtmkbojhnbkdalaaBasA
import Derived.Test.YtmkbojhnbkdalaaExact
set_option linter.unusedSimpArgs false
set_option linter.unusedVariables false
namespace Go.Proofs.Ytmkbojhnbkdalaa
open Go.RowKit

def lowN (S : Int) : Nat := (S % 18446744073709551616).toNat
def highN (S : Int) : Nat := (S / 18446744073709551616 % 18446744073709551616).toNat
theorem lowN_lt (S : Int) : lowN S < 18446744073709551616 := by unfold lowN; omega

theorem sum_step (S x : Int) (h1 : -9223372036854775808 ≤ x) (h2 : x ≤ 9223372036854775807) : ∃ m c l d e f : Nat, m < 18446744073709551616 ∧ c = (lowN S + m + 0) / 18446744073709551616 ∧ l = (lowN S + m + 0) % 18446744073709551616 ∧
    IntKind.u64.wrap x = (m : Int) ∧ IntKind.u64.wrap (x / 9223372036854775808) = (d : Int) ∧ IntKind.u64.wrap ((d : Int) + (c : Int)) = (e : Int) ∧ IntKind.u64.wrap ((highN S : Int) + (e : Int)) = (f : Int) ∧ f = highN (S + x) ∧ l = lowN (S + x) := by
  obtain ⟨q, hq⟩ : ∃ q, q = S / 18446744073709551616 := ⟨_, rfl⟩
  obtain ⟨r, hr⟩ : ∃ r : Nat, (r : Int) = S % 18446744073709551616 := ⟨(S % 18446744073709551616).toNat, by omega⟩
  have hS : S = 18446744073709551616 * q + r := by omega
  have hrl : r < 18446744073709551616 := by omega
  have hl : lowN S = r := by unfold lowN; omega
  have hh : (highN S : Int) = q % 18446744073709551616 := by unfold highN; omega
  obtain ⟨m, t, ht, hx, hm, hd⟩ : ∃ (m : Nat) (t : Int), (t = 0 ∨ t = -1) ∧ x = 18446744073709551616 * t + m ∧ m < 18446744073709551616 ∧ x / 9223372036854775808 = t := by
    by_cases h : 0 ≤ x
    · exact ⟨x.toNat, 0, Or.inl rfl, by omega, by omega, by omega⟩
    · exact ⟨(x + 18446744073709551616).toNat, -1, Or.inr rfl, by omega, by omega, by omega⟩
  obtain ⟨c, hc⟩ : ∃ c, c = (r + m + 0) / 18446744073709551616 := ⟨_, rfl⟩
  obtain ⟨l, hl2⟩ : ∃ l, l = (r + m + 0) % 18446744073709551616 := ⟨_, rfl⟩
  have hsum : S + x = 18446744073709551616 * (q + t + c) + l := by omega
  have hll : l < 18446744073709551616 := by omega
  have hlow : lowN (S + x) = l := by unfold lowN; rw [hsum]; omega
  have hhigh : (highN (S + x) : Int) = (q + t + c) % 18446744073709551616 := by unfold highN; rw [hsum]; omega
  obtain ⟨d, hd2⟩ : ∃ d : Nat, (d : Int) = t % 18446744073709551616 := ⟨(t % 18446744073709551616).toNat, by omega⟩
  obtain ⟨e, he⟩ : ∃ e : Nat, (e : Int) = ((d : Int) + c) % 18446744073709551616 := ⟨(((d : Int) + c) % 18446744073709551616).toNat, by omega⟩
  refine ⟨m, c, l, d, e, highN (S + x), hm, by rw [hl]; exact hc, by rw [hl]; exact hl2, ?_, ?_, ?_, ?_, rfl, hlow.symm⟩
  · rw [IntKind.wrap_u64, hx]; omega
  · rw [IntKind.wrap_u64, hd]; exact hd2.symm
  · rw [IntKind.wrap_u64]; exact he.symm
  · rw [IntKind.wrap_u64, hh, hhigh, he, hd2]; omega
def fitsB (S : Int) : Bool := decide (-9223372036854775808 ≤ S) && decide (S ≤ 9223372036854775807)
theorem sum_bounds : ∀ l : List Int, (∀ x ∈ l, -9223372036854775808 ≤ x ∧ x ≤ 9223372036854775807) → -9223372036854775808 * (l.length : Int) ≤ l.sum ∧ l.sum ≤ 9223372036854775808 * (l.length : Int)
  | [], _ => by simp
  | a :: r, h => by
    have h1 := h a (List.mem_cons.2 (Or.inl rfl))
    have h2 := sum_bounds r (fun x hx => h x (List.mem_cons.2 (Or.inr hx)))
    rw [List.sum_cons, List.length_cons]
    omega
theorem sum_end (S : Int) (h1 : -9223372036854775808 * 100000 ≤ S) (h2 : S ≤ 9223372036854775808 * 100000) : ∃ v : Int, wrap64 (lowN S : Int) = v ∧ ((highN S : Int) == IntKind.u64.wrap (v / 9223372036854775808)) = fitsB S ∧ (fitsB S = true → v = S) := by
  obtain ⟨q, hq⟩ : ∃ q, q = S / 18446744073709551616 := ⟨_, rfl⟩
  obtain ⟨r, hr⟩ : ∃ r : Nat, (r : Int) = S % 18446744073709551616 := ⟨(S % 18446744073709551616).toNat, by omega⟩
  have hS : S = 18446744073709551616 * q + r := by omega
  have hrl : r < 18446744073709551616 := by omega
  have hl : lowN S = r := by unfold lowN; omega
  have hh : (highN S : Int) = q % 18446744073709551616 := by unfold highN; omega
  have hq1 : -100000 ≤ q := by omega
  have hq2 : q ≤ 100000 := by omega
  rw [hl, hh]
  by_cases h : r < 9223372036854775808
  · refine ⟨r, by unfold wrap64; omega, ?_, ?_⟩
    · have hd : (r : Int) / 9223372036854775808 = 0 := by omega
      rw [hd, show IntKind.u64.wrap 0 = 0 from by rw [IntKind.wrap_u64]; rfl]
      unfold fitsB
      by_cases h0 : q = 0
      · have e1 : (q % 18446744073709551616 == 0) = true := by rw [h0]; rfl
        rw [e1, decide_eq_true (show -9223372036854775808 ≤ S by omega), decide_eq_true (show S ≤ 9223372036854775807 by omega)]; rfl
      · have e1 : (q % 18446744073709551616 == 0) = false := beq_eq_false_iff_ne.2 (by omega)
        rw [e1]
        by_cases h3 : 0 < q
        · rw [decide_eq_false (show ¬ S ≤ 9223372036854775807 by omega), Bool.and_false]
        · rw [decide_eq_false (show ¬ -9223372036854775808 ≤ S by omega), Bool.false_and]
    · intro hf
      unfold fitsB at hf
      simp only [Bool.and_eq_true, decide_eq_true_eq] at hf
      omega
  · refine ⟨(r : Int) - 18446744073709551616, by unfold wrap64; omega, ?_, ?_⟩
    · have hd : ((r : Int) - 18446744073709551616) / 9223372036854775808 = -1 := by omega
      rw [hd, show IntKind.u64.wrap (-1) = 18446744073709551615 from by rw [IntKind.wrap_u64]; rfl]
      unfold fitsB
      by_cases h0 : q = -1
      · have e1 : (q % 18446744073709551616 == 18446744073709551615) = true := by rw [h0]; rfl
        rw [e1, decide_eq_true (show -9223372036854775808 ≤ S by omega), decide_eq_true (show S ≤ 9223372036854775807 by omega)]; rfl
      · have e1 : (q % 18446744073709551616 == 18446744073709551615) = false := beq_eq_false_iff_ne.2 (by omega)
        rw [e1]
        by_cases h3 : -1 < q
        · rw [decide_eq_false (show ¬ S ≤ 9223372036854775807 by omega), Bool.and_false]
        · rw [decide_eq_false (show ¬ -9223372036854775808 ≤ S by omega), Bool.false_and]
    · intro hf
      unfold fitsB at hf
      simp only [Bool.and_eq_true, decide_eq_true_eq] at hf
      omega

set_option maxRecDepth 100000 in
set_option maxHeartbeats 1000000 in
theorem sum_any (s : SlR Int) (w w0 : World) (B : Nat) (hM : SlR.Mem (Rw intC mem0) 1 w0 B s) (hw : Below B w0 w) (hB : B ≤ w.heap.size) (hs : s.n ≤ 100000) (hi64 : ∀ x ∈ s.l, -9223372036854775808 ≤ x ∧ x ≤ 9223372036854775807) :
    Calls Try.prog 17 #[.slice s.a s.n s.c] w fun e w' => e = .returned (.tuple #[.int .i64 (if fitsB s.l.sum then s.l.sum else 0), .bool (fitsB s.l.sum)]) ∧ Below w.heap.size w w' := by
  have HLEN := Lib.hid hM.len
  have HMM := Lib.hid hM
  have HW := Lib.hid hw
  have HI := Lib.hid hi64
  obtain ⟨A, hA⟩ : ∃ A, s.a = A := ⟨_, rfl⟩
  obtain ⟨n, hn'⟩ : ∃ n, s.n = n := ⟨_, rfl⟩
  rw [hA, hn']
  rw [hn'] at hs
  have HA := Lib.hid hA
  have HN := Lib.hid hn'
  clear hM hw hA hn' hi64
  go_enter Try.func17, Try.ntmps17
  go_wp2
  go_loopw [4, 5, 12] (fun hi lo i wr => ∃ k : Nat, k ≤ n ∧ i = .int .i64 (k : Int) ∧ hi = .int .u64 (highN (s.l.take k).sum : Int) ∧ lo = .int .u64 (lowN (s.l.take k).sum : Int) ∧ Below w.heap.size w wr) (fun _ _ i _ => n - (intOf i).toNat)
  case atStart => exact ⟨0, by omega, rfl, rfl, rfl, Below.refl _ _⟩
  case round =>
    obtain ⟨k, hk, rfl, rfl, rfl, hb⟩ := hrel
    obtain ⟨lo, hlo⟩ : ∃ lo, lowN (s.l.take k).sum = lo := ⟨_, rfl⟩
    obtain ⟨hi, hhi⟩ : ∃ hi, highN (s.l.take k).sum = hi := ⟨_, rfl⟩
    rw [hlo, hhi]
    have HLO := Lib.hid hlo
    have HHI := Lib.hid hhi
    have HB := Lib.hid hb
    have hsz := hb.size
    clear hb hlo hhi
    by_cases hlt : k < n
    · have hk0 : (0 : Int) ≤ (k : Int) := by omega
      have hki : (k : Int) < (n : Int) := by omega
      obtain ⟨pb, po, x, hpa, hpb, hx, hmx, hc⟩ := HMM.out.at_ (k := k) (by rw [HN.out]; exact hlt)
      obtain rfl : A = some ⟨pb, po, none⟩ := HA.out.symm.trans hpa
      have hbw := HW.out.trans (HB.out.mono hB)
      have e0 := hc wr hbw 0 _ rfl
      simp only [Nat.add_zero, Nat.mul_one] at e0
      obtain ⟨hx1, hx2⟩ := HI.out x (List.mem_iff_getElem?.2 ⟨k, hx⟩)
      obtain ⟨m, c, l, d, e, f, hm, hc2, hl2, w1, w2, w3, w4, hf, hl3⟩ := sum_step (s.l.take k).sum x hx1 hx2
      have hsum : (s.l.take (k + 1)).sum = (s.l.take k).sum + x := by
        rw [List.take_succ_eq_append_getElem (List.getElem?_eq_some_iff.1 hx).1, (List.getElem?_eq_some_iff.1 hx).2]
        simp
      have HF := Lib.hid (show highN (s.l.take (k + 1)).sum = f by rw [hsum]; exact hf.symm)
      have HL3 := Lib.hid (show lowN (s.l.take (k + 1)).sum = l by rw [hsum]; exact hl3.symm)
      have HADD := Lib.hid (add64_run (lowN (s.l.take k).sum) m 0 (lowN_lt _) hm (by decide) wr)
      rw [← hc2, ← hl2, HLO.out] at HADD
      rw [HHI.out] at w4
      have hadd : (callFunc 49 #[.int .u64 (lo : Int), .int .u64 (m : Int), .int .u64 0]).run Try.prog wr = .ok (.value (.tuple #[.int .u64 (l : Int), .int .u64 (c : Int)])) wr := HADD.out
      clear hpa hbw hx hc hmx hx1 hx2 hm hc2 hl2 hf hl3 hsum
      go_wp2_with fail
      go_roundw
      case rel => exact ⟨k + 1, by omega, by go_num, by rw [HF.out], by rw [HL3.out], HB.out⟩
      case measure => simp [intOf]; omega
    · obtain rfl : k = n := by omega
      have hfull : s.l.take k = s.l := List.take_of_length_le (by rw [HLEN.out, HN.out]; exact Nat.le_refl _)
      have hbd := sum_bounds s.l HI.out
      have hlen : (s.l.length : Int) ≤ 100000 := by rw [HLEN.out, HN.out]; omega
      obtain ⟨v, hv, hg, hf⟩ := sum_end s.l.sum (by omega) (by omega)
      have HLO2 := HLO.out
      have HHI2 := HHI.out
      rw [hfull] at HLO2 HHI2
      rw [HLO2] at hv
      rw [HHI2] at hg
      obtain ⟨b, hb⟩ : ∃ b, fitsB s.l.sum = b := ⟨_, rfl⟩
      rw [hb] at hg hf
      have HBB := Lib.hid hb
      have HFV := Lib.hid hf
      clear hfull hbd hlen HLO2 HHI2 hf hb
      cases b with
      | true =>
        go_wp2_with fail
        all_goals (go_ret2; exact ⟨by first | rfl | (rw [← HFV.out trivial]; rfl), HB.out⟩)
      | false =>
        go_wp2_with fail
        all_goals first
          | (go_ret2; exact ⟨rfl, HB.out⟩)
          | (exfalso; simp_all [HBB.out]; done)
          | (exfalso; have h9 := HBB.out; simp_all; done)
          | (exfalso; rename_i hq; exact absurd (hq.symm.trans HBB.out) (by decide))

end Go.Proofs.Ytmkbojhnbkdalaa
