/- The walks of digest: the examples (small). -/
import Derived.Test.YtnfpahanbnidpaaDoorDigH
import Derived.Test.YtnfpahanbnidpaaDoorDigI
set_option linter.unusedSimpArgs false
set_option linter.unusedVariables false
namespace Go.Proofs.YtnfpahanbnidpaaDoor
open Go.RowKit

def sumA : ByteArray := ⟨(sumN [97, 98, 99]).toArray⟩
def sumB : ByteArray := ⟨(sumN []).toArray⟩
theorem sumA_any (w : World) (hL : LaidAt w) : Calls Tryd.prog 15 #[.string { data := #[97, 98, 99] }] w fun e w' => e = .returned (.string sumA) ∧ Below w.heap.size w w' := sum_any _ w (by decide) hL
theorem sumB_any (w : World) (hL : LaidAt w) : Calls Tryd.prog 15 #[.string { data := #[] }] w fun e w' => e = .returned (.string sumB) ∧ Below w.heap.size w w' := sum_any _ w (by decide) hL
theorem hexA_any (w : World) : Calls Tryd.prog 10 #[.string sumA] w fun e w' => e = .returned (.string { data := #[53, 48, 56, 99, 53, 101, 56, 99, 51, 50, 55, 99, 49, 52, 101, 50, 101, 49, 97, 55, 50, 98, 97, 51, 52, 101, 101, 98, 52, 53, 50, 102, 51, 55, 52, 53, 56, 98, 50, 48, 57, 101, 100, 54, 51, 97, 50, 57, 52, 100, 57, 57, 57, 98, 52, 99, 56, 54, 54, 55, 53, 57, 56, 50] }) ∧ Below w.heap.size w w' :=
  (hex_any sumA w (by show (sumN [97, 98, 99]).toArray.size ≤ _; rw [sum_abc]; decide)).mono fun e w' ⟨he, hb⟩ => ⟨by rw [he, ← hex_abc]; rfl, hb⟩
theorem hexB_any (w : World) : Calls Tryd.prog 10 #[.string sumB] w fun e w' => e = .returned (.string { data := #[54, 57, 50, 49, 55, 97, 51, 48, 55, 57, 57, 48, 56, 48, 57, 52, 101, 49, 49, 49, 50, 49, 100, 48, 52, 50, 51, 53, 52, 97, 55, 99, 49, 102, 53, 53, 98, 54, 52, 56, 50, 99, 97, 49, 97, 53, 49, 101, 49, 98, 50, 53, 48, 100, 102, 100, 49, 101, 100, 48, 101, 101, 102, 57] }) ∧ Below w.heap.size w w' :=
  (hex_any sumB w (by show (sumN []).toArray.size ≤ _; rw [sum_nil]; decide)).mono fun e w' ⟨he, hb⟩ => ⟨by rw [he, ← hex_nil]; rfl, hb⟩
theorem crcA_any (w : World) : Calls Tryd.prog 13 #[.string { data := #[49, 50, 51, 52, 53, 54, 55, 56, 57] }] w fun e w' => e = .returned (.int .i64 36974) ∧ Below w.heap.size w w' :=
  (crc_any { data := #[49, 50, 51, 52, 53, 54, 55, 56, 57] } w (by decide)).mono fun e w' ⟨he, hb⟩ => ⟨by rw [he]; exact congrArg (fun n : Nat => Ending.returned (.int .i64 (n : Int))) crc_digits, hb⟩
theorem crcB_any (w : World) : Calls Tryd.prog 13 #[.string { data := #[] }] w fun e w' => e = .returned (.int .i64 0) ∧ Below w.heap.size w w' :=
  (crc_any { data := #[] } w (by decide)).mono fun e w' ⟨he, hb⟩ => ⟨by rw [he]; exact congrArg (fun n : Nat => Ending.returned (.int .i64 (n : Int))) crc_nil, hb⟩
theorem unhex_bad : unhexR [48, 65] = ([], false) := by decide +kernel
theorem unhex_good : unhexR [48, 97] = ([10], true) := by decide +kernel
theorem unhexA_any (w : World) : Calls Tryd.prog 11 #[.string { data := #[48, 65] }] w fun e w' => e = .returned (.tuple #[.string { data := #[] }, .bool false]) ∧ Below w.heap.size w w' :=
  (unhex_any { data := #[48, 65] } w (by decide)).mono fun e w' ⟨he, hb⟩ => ⟨by rw [he]; exact congrArg (fun r : List UInt8 × Bool => Ending.returned (.tuple #[.string ⟨r.1.toArray⟩, .bool r.2])) unhex_bad, hb⟩
theorem unhexB_any (w : World) : Calls Tryd.prog 11 #[.string { data := #[48, 97] }] w fun e w' => e = .returned (.tuple #[.string { data := #[10] }, .bool true]) ∧ Below w.heap.size w w' :=
  (unhex_any { data := #[48, 97] } w (by decide)).mono fun e w' ⟨he, hb⟩ => ⟨by rw [he]; exact congrArg (fun r : List UInt8 × Bool => Ending.returned (.tuple #[.string ⟨r.1.toArray⟩, .bool r.2])) unhex_good, hb⟩

set_option maxHeartbeats 1500000 in
set_option maxRecDepth 100000 in
theorem small_any (w : World) (hL : LaidAt w) : Calls Tryd.prog 9 #[] w fun e w' => e = .returned (.bool true) ∧ Below w.heap.size w w' := by
  have HL := Lib.hid hL
  have hsz := hL.2.2
  clear hL
  go_enter Tryd.func9, Tryd.ntmps9
  go_wp2_with fail
  refine (unhexA_any w).mono ?_
  rintro e w1 ⟨rfl, hb1⟩
  have B1 := Lib.hid hb1
  clear hb1
  go_wp2_with fail
  refine (unhexB_any w1).mono ?_
  rintro e w2 ⟨rfl, hb2⟩
  have B2 := Lib.hid (B1.out.trans (hb2.mono B1.out.size))
  clear hb2
  go_wp2_with fail
  refine (sumA_any w2 (HL.out.below B2.out hsz)).mono ?_
  rintro e w3 ⟨rfl, hb3⟩
  have B3 := Lib.hid (B2.out.trans (hb3.mono B2.out.size))
  clear hb3
  go_wp2_with fail
  refine (hexA_any w3).mono ?_
  rintro e w4 ⟨rfl, hb4⟩
  have B4 := Lib.hid (B3.out.trans (hb4.mono B3.out.size))
  clear hb4
  go_wp2_with fail
  refine (sumB_any w4 (HL.out.below B4.out hsz)).mono ?_
  rintro e w5 ⟨rfl, hb5⟩
  have B5 := Lib.hid (B4.out.trans (hb5.mono B4.out.size))
  clear hb5
  go_wp2_with fail
  refine (hexB_any w5).mono ?_
  rintro e w6 ⟨rfl, hb6⟩
  have B6 := Lib.hid (B5.out.trans (hb6.mono B5.out.size))
  clear hb6
  go_wp2_with fail
  refine (crcA_any w6).mono ?_
  rintro e w7 ⟨rfl, hb7⟩
  have B7 := Lib.hid (B6.out.trans (hb7.mono B6.out.size))
  clear hb7
  go_wp2_with fail
  refine (crcB_any w7).mono ?_
  rintro e w8 ⟨rfl, hb8⟩
  have B8 := Lib.hid (B7.out.trans (hb8.mono B7.out.size))
  clear hb8
  go_wp2
  go_ret
  exact ⟨rfl, B8.out⟩

end Go.Proofs.YtnfpahanbnidpaaDoor
