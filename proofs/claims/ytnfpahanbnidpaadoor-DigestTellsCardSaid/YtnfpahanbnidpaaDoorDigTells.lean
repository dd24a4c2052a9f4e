/- DigestTells: the walk. -/
import Derived.Test.YtnfpahanbnidpaaDoorDigRE
set_option linter.unusedSimpArgs false
set_option linter.unusedVariables false
namespace Go.Proofs.YtnfpahanbnidpaaDoor
open Go.RowKit

set_option maxHeartbeats 1500000 in
set_option maxRecDepth 100000 in
theorem tells_any (s h : ByteArray) (w : World) (hL : LaidAt w) : Calls Tryd.prog 7 #[.string s, .string h] w fun e w' => e = .returned (.bool true) ∧ Below w.heap.size w w' := by
  have HL := Lib.hid hL
  have hsz := hL.2.2
  clear hL
  go_enter Tryd.func7, Tryd.ntmps7
  go_wp2_with fail
  refine (small_any w HL.out).mono ?_
  rintro e w1 ⟨rfl, hb1⟩
  have B1 := Lib.hid hb1
  clear hb1
  by_cases hs : 2000 < s.size
  · have hsi : (2000 : Int) < (s.size : Int) := by omega
    go_wp2
    go_ret
    exact ⟨rfl, B1.out⟩
  by_cases hh : 2000 < h.size
  · have hsi : ¬ (2000 : Int) < (s.size : Int) := by omega
    have hhi : (2000 : Int) < (h.size : Int) := by omega
    go_wp2
    go_ret
    exact ⟨rfl, B1.out⟩
  have hsi : ¬ (2000 : Int) < (s.size : Int) := by omega
  have hhi : ¬ (2000 : Int) < (h.size : Int) := by omega
  have hss : s.size ≤ 2000 := by omega
  have hhs : h.size ≤ 2000 := by omega
  obtain ⟨U, hU⟩ : ∃ U : ByteArray, U = ⟨(unhexR h.data.toList).1.toArray⟩ := ⟨_, rfl⟩
  obtain ⟨ub, hub⟩ : ∃ b, b = (unhexR h.data.toList).2 := ⟨_, rfl⟩
  obtain ⟨X, hX⟩ : ∃ X : ByteArray, X = ⟨(sumN s.data.toList).toArray⟩ := ⟨_, rfl⟩
  obtain ⟨Y, hY⟩ : ∃ Y : ByteArray, Y = ⟨(hexL s.data.toList).toArray⟩ := ⟨_, rfl⟩
  obtain ⟨n1, hn1⟩ : ∃ n, n = shortN s.data.toList := ⟨_, rfl⟩
  obtain ⟨n2, hn2⟩ : ∃ n, n = crcN s.data.toList := ⟨_, rfl⟩
  have c1 := unhex_any h
  have c2 := refunhex_any h
  have c3 := sum_any s
  have c4 := refsum_any s
  have c5 := short_any s
  have c6 := refshort_any s
  have c7 := crc_any s
  have c8 := refcrc_any s
  have c9 := hex_any s
  have c10 := refhex_any s
  rw [← hU, ← hub] at c1 c2
  rw [← hX] at c3 c4
  rw [← hn1] at c5 c6
  rw [← hn2] at c7 c8
  rw [← hY] at c9 c10
  have C1 := Lib.hid c1
  have C2 := Lib.hid c2
  have C3 := Lib.hid c3
  have C4 := Lib.hid c4
  have C5 := Lib.hid c5
  have C6 := Lib.hid c6
  have C7 := Lib.hid c7
  have C8 := Lib.hid c8
  have C9 := Lib.hid c9
  have C10 := Lib.hid c10
  clear hU hub hX hY hn1 hn2 c1 c2 c3 c4 c5 c6 c7 c8 c9 c10
  go_wp2_with fail
  refine (C1.out w1 (by omega)).mono ?_
  rintro e w2 ⟨rfl, hb⟩
  have B2 := Lib.hid (B1.out.trans (hb.mono B1.out.size))
  clear hb
  go_wp2_with fail
  refine (C2.out w2 (by omega)).mono ?_
  rintro e w3 ⟨rfl, hb⟩
  have B3 := Lib.hid (B2.out.trans (hb.mono B2.out.size))
  clear hb
  go_wp2_with fail
  refine (C3.out w3 (by omega) (HL.out.below B3.out hsz)).mono ?_
  rintro e w4 ⟨rfl, hb⟩
  have B4 := Lib.hid (B3.out.trans (hb.mono B3.out.size))
  clear hb
  go_wp2_with fail
  refine (C4.out w4 (by omega)).mono ?_
  rintro e w5 ⟨rfl, hb⟩
  have B5 := Lib.hid (B4.out.trans (hb.mono B4.out.size))
  clear hb
  go_wp2_with fail
  refine (C5.out w5 (by omega) (HL.out.below B5.out hsz)).mono ?_
  rintro e w6 ⟨rfl, hb⟩
  have B6 := Lib.hid (B5.out.trans (hb.mono B5.out.size))
  clear hb
  go_wp2_with fail
  refine (C6.out w6 (by omega)).mono ?_
  rintro e w7 ⟨rfl, hb⟩
  have B7 := Lib.hid (B6.out.trans (hb.mono B6.out.size))
  clear hb
  go_wp2_with fail
  refine (C7.out w7 (by omega)).mono ?_
  rintro e w8 ⟨rfl, hb⟩
  have B8 := Lib.hid (B7.out.trans (hb.mono B7.out.size))
  clear hb
  go_wp2_with fail
  refine (C8.out w8 (by omega)).mono ?_
  rintro e w9 ⟨rfl, hb⟩
  have hbb : Below w.heap.size w w9 := by rw [hb]; exact B8.out
  have B9 := Lib.hid hbb
  clear hb hbb
  go_wp2_with fail
  refine (C9.out w9 (by omega)).mono ?_
  rintro e w10 ⟨rfl, hb⟩
  have B10 := Lib.hid (B9.out.trans (hb.mono B9.out.size))
  clear hb
  go_wp2_with fail
  refine (C10.out w10 (by omega)).mono ?_
  rintro e w11 ⟨rfl, hb⟩
  have B11 := Lib.hid (B10.out.trans (hb.mono B10.out.size))
  clear hb
  go_wp2
  go_ret
  exact ⟨by simp, B11.out⟩

end Go.Proofs.YtnfpahanbnidpaaDoor
