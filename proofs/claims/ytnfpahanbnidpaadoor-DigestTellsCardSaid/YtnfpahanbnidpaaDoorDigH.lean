/- Digest: the sums of the documentation's examples. -/
import Derived.Test.YtnfpahanbnidpaaDoorDigG
import Derived.Test.YtnfpahanbnidpaaDoorDigF
namespace Go.Proofs.YtnfpahanbnidpaaDoor
open Go.RowKit

set_option maxRecDepth 100000 in
theorem sum_abc : sumN [97, 98, 99] = [80, 140, 94, 140, 50, 124, 20, 226, 225, 167, 43, 163, 78, 235, 69, 47, 55, 69, 139, 32, 158, 214, 58, 41, 77, 153, 155, 76, 134, 103, 89, 130] := by decide +kernel
set_option maxRecDepth 100000 in
theorem sum_nil : sumN [] = [105, 33, 122, 48, 121, 144, 128, 148, 225, 17, 33, 208, 66, 53, 74, 124, 31, 85, 182, 72, 44, 161, 165, 30, 27, 37, 13, 253, 30, 208, 238, 249] := by decide +kernel
set_option maxRecDepth 100000 in
theorem hex_abc : (⟨(hexL (sumN [97, 98, 99])).toArray⟩ : ByteArray) = { data := #[53, 48, 56, 99, 53, 101, 56, 99, 51, 50, 55, 99, 49, 52, 101, 50, 101, 49, 97, 55, 50, 98, 97, 51, 52, 101, 101, 98, 52, 53, 50, 102, 51, 55, 52, 53, 56, 98, 50, 48, 57, 101, 100, 54, 51, 97, 50, 57, 52, 100, 57, 57, 57, 98, 52, 99, 56, 54, 54, 55, 53, 57, 56, 50] } := by rw [sum_abc]; decide +kernel
set_option maxRecDepth 100000 in
theorem hex_nil : (⟨(hexL (sumN [])).toArray⟩ : ByteArray) = { data := #[54, 57, 50, 49, 55, 97, 51, 48, 55, 57, 57, 48, 56, 48, 57, 52, 101, 49, 49, 49, 50, 49, 100, 48, 52, 50, 51, 53, 52, 97, 55, 99, 49, 102, 53, 53, 98, 54, 52, 56, 50, 99, 97, 49, 97, 53, 49, 101, 49, 98, 50, 53, 48, 100, 102, 100, 49, 101, 100, 48, 101, 101, 102, 57] } := by rw [sum_nil]; decide +kernel
set_option maxRecDepth 100000 in
theorem crc_digits : crcN [49, 50, 51, 52, 53, 54, 55, 56, 57] = 36974 := by decide +kernel
theorem crc_nil : crcN [] = 0 := by decide +kernel

end Go.Proofs.YtnfpahanbnidpaaDoor
