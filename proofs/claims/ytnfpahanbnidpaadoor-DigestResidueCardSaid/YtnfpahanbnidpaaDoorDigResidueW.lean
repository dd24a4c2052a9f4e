/- DigestResidue: the walk. -/
import Derived.Test.YtnfpahanbnidpaaDoorDigResidue
import Derived.Laws.IdiomStrings
import Derived.Deep.DeepCutAuto
import Derived.Outline
set_option linter.unusedSimpArgs false
set_option linter.unusedVariables false
namespace Go.Proofs.YtnfpahanbnidpaaDoor
open Go.RowKit

theorem crcR_any (s t : ByteArray) (n : Nat) (hn : n = crcN s.data.toList) (ht : t.data.toList = [UInt8.ofNat (n % 256), UInt8.ofNat (n / 256)]) (w : World) (hs : s.size ≤ 2000) :
    Calls Tryd.prog 13 #[.string (s ++ t)] w fun e w' => e = .returned (.int .i64 3911) ∧ Below w.heap.size w w' := by
  have hz : t.size = 2 := by
    have : t.data.toList.length = 2 := by rw [ht]; rfl
    simpa using this
  have he : (s ++ t).data.toList = s.data.toList ++ t.data.toList := by simp
  refine (crc_any (s ++ t) w (by rw [ByteArray.size_append]; omega)).mono fun e w' ⟨h1, h2⟩ => ⟨?_, h2⟩
  rw [h1, he, ht, hn, residue_law]
  rfl

set_option maxHeartbeats 1500000 in
set_option maxRecDepth 100000 in
theorem residue_any (s : ByteArray) (w : World) (hL : LaidAt w) : Calls Tryd.prog 5 #[.string s] w fun e w' => e = .returned (.bool true) ∧ Below w.heap.size w w' := by
  have HL := Lib.hid hL
  clear hL
  go_enter Tryd.func5, Tryd.ntmps5
  go_wp2_with fail
  refine (small_any w HL.out).mono ?_
  rintro e w1 ⟨rfl, hb1⟩
  have B1 := Lib.hid hb1
  clear hb1
  by_cases hs : 2000 < s.size
  · have hsi : (2000 : Int) < (s.size : Int) := by omega
    go_wp2
    go_ret
    exact ⟨rfl, B1.out⟩
  have hsi : ¬ (2000 : Int) < (s.size : Int) := by omega
  go_wp2_with fail
  refine (crc_any s w1 (by omega)).mono ?_
  rintro e w2 ⟨rfl, hb2⟩
  have B2 := Lib.hid (B1.out.trans (hb2.mono B1.out.size))
  clear hb2
  have hx := crcL_lt s.data.toList
  obtain ⟨n, hn⟩ : ∃ n, n = crcN s.data.toList := ⟨_, rfl⟩
  have hnl : n < 65536 := by rw [hn]; unfold crcN; omega
  rw [← hn]
  have HN := Lib.hid hn
  have hn0 : ¬ (n : Int) < 0 := by omega
  have hn00 : (0 : Int) ≤ (n : Int) := by omega
  have hni : (n : Int) < 65536 := by omega
  have hn1 : ¬ (65535 : Int) < (n : Int) := by omega
  obtain ⟨a, ha⟩ : ∃ a, a = n % 256 := ⟨_, rfl⟩
  obtain ⟨b, hb⟩ : ∃ b, b = n / 256 := ⟨_, rfl⟩
  have hwa : IntKind.u8.wrap ((n : Int) % 256) = (a : Int) := by rw [IntKind.wrap_u8]; omega
  have hwb : IntKind.u8.wrap ((n : Int) / 256) = (b : Int) := by rw [IntKind.wrap_u8]; omega
  have hcb := run_convert_bytes_back (P := Tryd.prog) (w2.alloc (.cells #[.int .u8 (a : Int), .int .u8 (b : Int)] 5)) 30 9 5 ⟨w2.heap.size, 0, none⟩ 2 [UInt8.ofNat a, UInt8.ofNat b] Tryd.underlying30 Tryd.underlying5 Tryd.underlying9 (by
    have ta : (UInt8.ofNat a).toNat = a := by simp; omega
    have tb : (UInt8.ofNat b).toNat = b := by simp; omega
    intro j hj
    have : j = 0 ∨ j = 1 := by simp at hj; omega
    rcases this with rfl | rfl <;> simp [Addr.add, -UInt8.toNat_ofNat', ta, tb])
  simp only [List.length_cons, List.length_nil] at hcb
  obtain ⟨tt, htt⟩ : ∃ tt : ByteArray, tt = ⟨[UInt8.ofNat a, UInt8.ofNat b].toArray⟩ := ⟨_, rfl⟩
  have hts : tt.size = 2 := by rw [htt]; rfl
  rw [← htt] at hcb
  have HT := Lib.hid (show tt.data.toList = [UInt8.ofNat (n % 256), UInt8.ofNat (n / 256)] by rw [htt, ha, hb])
  clear hn hx ha hb htt
  have hbd : decide ((65535 : Int) < (n : Int)) = false := by simp; omega
  clear hn1 hni
  go_wp2_with fail
  refine (crcR_any s tt n HN.out HT.out _ (by omega)).mono ?_
  rintro e w3 ⟨rfl, hb3⟩
  have B3 := Lib.hid ((B2.out.alloc B2.out.size _).trans (hb3.mono (by have := B2.out.size; simp; omega)))
  clear hb3
  go_wp2
  go_ret
  exact ⟨rfl, B3.out⟩

end Go.Proofs.YtnfpahanbnidpaaDoor
