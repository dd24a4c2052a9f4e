/-
  NARROWER THAN 'FOR EVERY INPUT', by the rows' own cells (each row's printed sentence says how): DigestHexes: laid · DigestDetects: laid · DigestResidue: laid · DigestXors: laid · DigestTells: laid · DigestShorts: laid.
  DERIVED. THE GIVEN ROWS OF THIS SEAT. 6 by the template 'for every input the law returns true; each argument reads behind the call as it read before'; 0 by the template 'total and deterministic' (their statements: YtnfpahanbnidpaaDoorTotals.lean).
  GIVEN WITH THE SEED: the statements are not yours to turn. If you find one false, say at which input.
  Laid BY PROGRAM, IN A SANDBOX (cutbox-rows.mjs): the forced cells as the released guide's own fill.sh prints them over the translation 4acd0c889c43de13… (all of the seat's roots in one cut). By AI agents, Wed Nov 11 2026. No macro, syntax, notation, axiom, sorry.
-/
import Derived.Test.YtnfpahanbnidpaaDoorChecked
import GoSem.Claim
import GoSem.ClaimJoined
import GoSem.ClaimMapViews
import Derived.JoinedTies
import Derived.KernelRfl
namespace Go.Proofs.YtnfpahanbnidpaaDoor
/- THE CELL 'sum', in the pinned program and in every row, IS THE sha256 OF THE DUMP (.gsa) THAT YtnfpahanbnidpaaDoorProg.lean LOADS. Nothing in Lean hashes anything: it is a label: what it is worth is what the hold of that sum in a sandbox is worth. -/
noncomputable def Tryd.pinned : Pinned := { name := "ytnfpahanbnidpaadoor", sum := "4acd0c889c43de1355be81a5de1ce5cc4d743ded92b045c939a8fae5318a6b36", checked := Tryd.checked }
namespace Rows
def none {H : Type} : Left H := { results := [], args := [] }

/- WHAT THE LISTED PACKAGE-LEVEL VARIABLES READ AS WHEN THE CALL BEGINS. Each datum BY PROGRAM (the guide's laid-datum.mjs) off the statement by which the dump's own 'gosem.cut.vars' lays the variable. In a bare row this is a premise. The card (YtnfpahanbnidpaaDoorCards.lean) ties it to the program's text. -/
def laid_bourne_digest_first {H : Type} : DataW H := .agg [.lit (.int .u32 1779033703), .lit (.int .u32 3144134277), .lit (.int .u32 1013904242), .lit (.int .u32 2773480762), .lit (.int .u32 1359893119), .lit (.int .u32 2600822924), .lit (.int .u32 528734635), .lit (.int .u32 1541459225)]
def laid_bourne_digest_orders {H : Type} : DataW H := .agg [.agg [.lit (.int .u8 0), .lit (.int .u8 1), .lit (.int .u8 2), .lit (.int .u8 3), .lit (.int .u8 4), .lit (.int .u8 5), .lit (.int .u8 6), .lit (.int .u8 7), .lit (.int .u8 8), .lit (.int .u8 9), .lit (.int .u8 10), .lit (.int .u8 11), .lit (.int .u8 12), .lit (.int .u8 13), .lit (.int .u8 14), .lit (.int .u8 15)], .agg [.lit (.int .u8 14), .lit (.int .u8 10), .lit (.int .u8 4), .lit (.int .u8 8), .lit (.int .u8 9), .lit (.int .u8 15), .lit (.int .u8 13), .lit (.int .u8 6), .lit (.int .u8 1), .lit (.int .u8 12), .lit (.int .u8 0), .lit (.int .u8 2), .lit (.int .u8 11), .lit (.int .u8 7), .lit (.int .u8 5), .lit (.int .u8 3)], .agg [.lit (.int .u8 11), .lit (.int .u8 8), .lit (.int .u8 12), .lit (.int .u8 0), .lit (.int .u8 5), .lit (.int .u8 2), .lit (.int .u8 15), .lit (.int .u8 13), .lit (.int .u8 10), .lit (.int .u8 14), .lit (.int .u8 3), .lit (.int .u8 6), .lit (.int .u8 7), .lit (.int .u8 1), .lit (.int .u8 9), .lit (.int .u8 4)], .agg [.lit (.int .u8 7), .lit (.int .u8 9), .lit (.int .u8 3), .lit (.int .u8 1), .lit (.int .u8 13), .lit (.int .u8 12), .lit (.int .u8 11), .lit (.int .u8 14), .lit (.int .u8 2), .lit (.int .u8 6), .lit (.int .u8 5), .lit (.int .u8 10), .lit (.int .u8 4), .lit (.int .u8 0), .lit (.int .u8 15), .lit (.int .u8 8)], .agg [.lit (.int .u8 9), .lit (.int .u8 0), .lit (.int .u8 5), .lit (.int .u8 7), .lit (.int .u8 2), .lit (.int .u8 4), .lit (.int .u8 10), .lit (.int .u8 15), .lit (.int .u8 14), .lit (.int .u8 1), .lit (.int .u8 11), .lit (.int .u8 12), .lit (.int .u8 6), .lit (.int .u8 8), .lit (.int .u8 3), .lit (.int .u8 13)], .agg [.lit (.int .u8 2), .lit (.int .u8 12), .lit (.int .u8 6), .lit (.int .u8 10), .lit (.int .u8 0), .lit (.int .u8 11), .lit (.int .u8 8), .lit (.int .u8 3), .lit (.int .u8 4), .lit (.int .u8 13), .lit (.int .u8 7), .lit (.int .u8 5), .lit (.int .u8 15), .lit (.int .u8 14), .lit (.int .u8 1), .lit (.int .u8 9)], .agg [.lit (.int .u8 12), .lit (.int .u8 5), .lit (.int .u8 1), .lit (.int .u8 15), .lit (.int .u8 14), .lit (.int .u8 13), .lit (.int .u8 4), .lit (.int .u8 10), .lit (.int .u8 0), .lit (.int .u8 7), .lit (.int .u8 6), .lit (.int .u8 3), .lit (.int .u8 9), .lit (.int .u8 2), .lit (.int .u8 8), .lit (.int .u8 11)], .agg [.lit (.int .u8 13), .lit (.int .u8 11), .lit (.int .u8 7), .lit (.int .u8 14), .lit (.int .u8 12), .lit (.int .u8 1), .lit (.int .u8 3), .lit (.int .u8 9), .lit (.int .u8 5), .lit (.int .u8 0), .lit (.int .u8 15), .lit (.int .u8 4), .lit (.int .u8 8), .lit (.int .u8 6), .lit (.int .u8 2), .lit (.int .u8 10)], .agg [.lit (.int .u8 6), .lit (.int .u8 15), .lit (.int .u8 14), .lit (.int .u8 9), .lit (.int .u8 11), .lit (.int .u8 3), .lit (.int .u8 0), .lit (.int .u8 8), .lit (.int .u8 12), .lit (.int .u8 2), .lit (.int .u8 13), .lit (.int .u8 7), .lit (.int .u8 1), .lit (.int .u8 4), .lit (.int .u8 10), .lit (.int .u8 5)], .agg [.lit (.int .u8 10), .lit (.int .u8 2), .lit (.int .u8 8), .lit (.int .u8 4), .lit (.int .u8 7), .lit (.int .u8 6), .lit (.int .u8 1), .lit (.int .u8 5), .lit (.int .u8 15), .lit (.int .u8 11), .lit (.int .u8 9), .lit (.int .u8 14), .lit (.int .u8 3), .lit (.int .u8 12), .lit (.int .u8 13), .lit (.int .u8 0)]]

/-- 'bournelaw03.DigestHexes': WHATEVER THE INPUT: true; the input reads as it did. -/
def digestHexesSpec : ChangeSpec := { name := "digestHexes", fn := fun _ => fun
  | [d1, d2] => { results := [.lit (.bool true)], args := [d1, d2] }
  | _ => none }
def digestHexesRow : OpenClaim := { program := "ytnfpahanbnidpaadoor", sum := "4acd0c889c43de1355be81a5de1ce5cc4d743ded92b045c939a8fae5318a6b36", func := "bourne/bournelaw03.DigestHexes", spec := "digestHexes", inPlace := ["internal/bytealg.IndexByteString", "internal/abi.NoEscape"], named := ["bourne/digest.first", "bourne/digest.orders"], apart := false, laid := [("bourne/digest.first", laid_bourne_digest_first), ("bourne/digest.orders", laid_bourne_digest_orders)] }
def DigestHexesSaid : Prop := digestHexesRow.holds Tryd.pinned (OpenSpec.ofChange digestHexesSpec)

/-- ITS FALSE NEIGHBOUR: 'it returns false'. Refute it at one input. -/
def digestHexesWrong : ChangeSpec := { name := "digestHexes", fn := fun _ => fun
  | [d1, d2] => { results := [.lit (.bool false)], args := [d1, d2] }
  | _ => none }
def DigestHexesWrongFalsely : Prop := digestHexesRow.holds Tryd.pinned (OpenSpec.ofChange digestHexesWrong)

/-- 'bournelaw03.DigestDetects': WHATEVER THE INPUT: true; the input reads as it did. -/
def digestDetectsSpec : ChangeSpec := { name := "digestDetects", fn := fun _ => fun
  | [d1, d2, d3] => { results := [.lit (.bool true)], args := [d1, d2, d3] }
  | _ => none }
def digestDetectsRow : OpenClaim := { program := "ytnfpahanbnidpaadoor", sum := "4acd0c889c43de1355be81a5de1ce5cc4d743ded92b045c939a8fae5318a6b36", func := "bourne/bournelaw03.DigestDetects", spec := "digestDetects", inPlace := ["internal/bytealg.IndexByteString", "internal/abi.NoEscape"], named := ["bourne/digest.first", "bourne/digest.orders"], apart := false, laid := [("bourne/digest.first", laid_bourne_digest_first), ("bourne/digest.orders", laid_bourne_digest_orders)] }
def DigestDetectsSaid : Prop := digestDetectsRow.holds Tryd.pinned (OpenSpec.ofChange digestDetectsSpec)

/-- ITS FALSE NEIGHBOUR: 'it returns false'. Refute it at one input. -/
def digestDetectsWrong : ChangeSpec := { name := "digestDetects", fn := fun _ => fun
  | [d1, d2, d3] => { results := [.lit (.bool false)], args := [d1, d2, d3] }
  | _ => none }
def DigestDetectsWrongFalsely : Prop := digestDetectsRow.holds Tryd.pinned (OpenSpec.ofChange digestDetectsWrong)

/-- 'bournelaw03.DigestResidue': WHATEVER THE INPUT: true; the input reads as it did. -/
def digestResidueSpec : ChangeSpec := { name := "digestResidue", fn := fun _ => fun
  | [d] => { results := [.lit (.bool true)], args := [d] }
  | _ => none }
def digestResidueRow : OpenClaim := { program := "ytnfpahanbnidpaadoor", sum := "4acd0c889c43de1355be81a5de1ce5cc4d743ded92b045c939a8fae5318a6b36", func := "bourne/bournelaw03.DigestResidue", spec := "digestResidue", inPlace := ["internal/bytealg.IndexByteString", "internal/abi.NoEscape"], named := ["bourne/digest.first", "bourne/digest.orders"], apart := false, laid := [("bourne/digest.first", laid_bourne_digest_first), ("bourne/digest.orders", laid_bourne_digest_orders)] }
def DigestResidueSaid : Prop := digestResidueRow.holds Tryd.pinned (OpenSpec.ofChange digestResidueSpec)

/-- ITS FALSE NEIGHBOUR: 'it returns false'. Refute it at one input. -/
def digestResidueWrong : ChangeSpec := { name := "digestResidue", fn := fun _ => fun
  | [d] => { results := [.lit (.bool false)], args := [d] }
  | _ => none }
def DigestResidueWrongFalsely : Prop := digestResidueRow.holds Tryd.pinned (OpenSpec.ofChange digestResidueWrong)

/-- 'bournelaw03.DigestXors': WHATEVER THE INPUT: true; the input reads as it did. -/
def digestXorsSpec : ChangeSpec := { name := "digestXors", fn := fun _ => fun
  | [d1, d2, d3] => { results := [.lit (.bool true)], args := [d1, d2, d3] }
  | _ => none }
def digestXorsRow : OpenClaim := { program := "ytnfpahanbnidpaadoor", sum := "4acd0c889c43de1355be81a5de1ce5cc4d743ded92b045c939a8fae5318a6b36", func := "bourne/bournelaw03.DigestXors", spec := "digestXors", inPlace := ["internal/bytealg.IndexByteString", "internal/abi.NoEscape"], named := ["bourne/digest.first", "bourne/digest.orders"], apart := false, laid := [("bourne/digest.first", laid_bourne_digest_first), ("bourne/digest.orders", laid_bourne_digest_orders)] }
def DigestXorsSaid : Prop := digestXorsRow.holds Tryd.pinned (OpenSpec.ofChange digestXorsSpec)

/-- ITS FALSE NEIGHBOUR: 'it returns false'. Refute it at one input. -/
def digestXorsWrong : ChangeSpec := { name := "digestXors", fn := fun _ => fun
  | [d1, d2, d3] => { results := [.lit (.bool false)], args := [d1, d2, d3] }
  | _ => none }
def DigestXorsWrongFalsely : Prop := digestXorsRow.holds Tryd.pinned (OpenSpec.ofChange digestXorsWrong)

/-- 'bournelaw03.DigestTells': WHATEVER THE INPUT: true; the input reads as it did. -/
def digestTellsSpec : ChangeSpec := { name := "digestTells", fn := fun _ => fun
  | [d1, d2] => { results := [.lit (.bool true)], args := [d1, d2] }
  | _ => none }
def digestTellsRow : OpenClaim := { program := "ytnfpahanbnidpaadoor", sum := "4acd0c889c43de1355be81a5de1ce5cc4d743ded92b045c939a8fae5318a6b36", func := "bourne/bournelaw03.DigestTells", spec := "digestTells", inPlace := ["internal/bytealg.IndexByteString", "internal/abi.NoEscape"], named := ["bourne/digest.first", "bourne/digest.orders"], apart := false, laid := [("bourne/digest.first", laid_bourne_digest_first), ("bourne/digest.orders", laid_bourne_digest_orders)] }
def DigestTellsSaid : Prop := digestTellsRow.holds Tryd.pinned (OpenSpec.ofChange digestTellsSpec)

/-- ITS FALSE NEIGHBOUR: 'it returns false'. Refute it at one input. -/
def digestTellsWrong : ChangeSpec := { name := "digestTells", fn := fun _ => fun
  | [d1, d2] => { results := [.lit (.bool false)], args := [d1, d2] }
  | _ => none }
def DigestTellsWrongFalsely : Prop := digestTellsRow.holds Tryd.pinned (OpenSpec.ofChange digestTellsWrong)

/-- 'bournelaw03.DigestShorts': WHATEVER THE INPUT: true; the input reads as it did. -/
def digestShortsSpec : ChangeSpec := { name := "digestShorts", fn := fun _ => fun
  | [d] => { results := [.lit (.bool true)], args := [d] }
  | _ => none }
def digestShortsRow : OpenClaim := { program := "ytnfpahanbnidpaadoor", sum := "4acd0c889c43de1355be81a5de1ce5cc4d743ded92b045c939a8fae5318a6b36", func := "bourne/bournelaw03.DigestShorts", spec := "digestShorts", inPlace := ["internal/bytealg.IndexByteString", "internal/abi.NoEscape"], named := ["bourne/digest.first", "bourne/digest.orders"], apart := false, laid := [("bourne/digest.first", laid_bourne_digest_first), ("bourne/digest.orders", laid_bourne_digest_orders)] }
def DigestShortsSaid : Prop := digestShortsRow.holds Tryd.pinned (OpenSpec.ofChange digestShortsSpec)

/-- ITS FALSE NEIGHBOUR: 'it returns false'. Refute it at one input. -/
def digestShortsWrong : ChangeSpec := { name := "digestShorts", fn := fun _ => fun
  | [d] => { results := [.lit (.bool false)], args := [d] }
  | _ => none }
def DigestShortsWrongFalsely : Prop := digestShortsRow.holds Tryd.pinned (OpenSpec.ofChange digestShortsWrong)

/- THE SECOND FORM. 'bulk': how many values and letters a reading holds, each counted each time it is reached (what is shared counts as often as it is met; a slice's spare places count too). A statement '..UptoSaid' is the law's where the arguments, and the package variables that the reading takes, are together of bulk at most 1048576: NARROWER than '..Said'. Prove '..Said' where nothing that the law and all that it calls make is longer than what came in: it says more and counts as full. Else prove '..UptoSaid'. A law counts once. -/
mutual
def uptoBulk {H : Type} : DataW H → Nat
  | .lit (.string bytes) => bytes.length + 1
  | .lit _ => 1
  | .nil => 1
  | .ptr d => uptoBulk d + 1
  | .slice elems spare => uptoBulkAll elems + uptoBulkAll spare + 1
  | .agg parts => uptoBulkAll parts + 1
  | .iface _ d => uptoBulk d + 1
  | .map entries => uptoBulkEntries entries + 1
  | .held _ => 1
def uptoBulkAll {H : Type} : List (DataW H) → Nat
  | [] => 0
  | d :: r => uptoBulk d + uptoBulkAll r
def uptoBulkEntries {H : Type} : List (Lit × DataW H) → Nat
  | [] => 0
  | x :: r => uptoBulkEntry x + uptoBulkEntries r
def uptoBulkEntry {H : Type} : Lit × DataW H → Nat
  | (.string bytes, d) => bytes.length + uptoBulk d + 1
  | (_, d) => uptoBulk d + 1
 end
def uptoSmall : (H : Type) → List (DataW H) → Bool := fun _ ds => decide (uptoBulkAll ds ≤ 1048576)
def OpenSpec.upto (s : _root_.Go.ChangeSpec) : _root_.Go.OpenSpec := { _root_.Go.OpenSpec.ofChange s with cond := some uptoSmall }

/-- 'bournelaw03.DigestHexes', WHERE WHAT IT READS IS OF BULK AT MOST 1048576: true; the input reads as it did. -/
def digestHexesUptoRow : OpenClaim := { program := "ytnfpahanbnidpaadoor", sum := "4acd0c889c43de1355be81a5de1ce5cc4d743ded92b045c939a8fae5318a6b36", func := "bourne/bournelaw03.DigestHexes", spec := "digestHexes", inPlace := ["internal/bytealg.IndexByteString", "internal/abi.NoEscape"], named := ["bourne/digest.first", "bourne/digest.orders"], apart := false, laid := [("bourne/digest.first", laid_bourne_digest_first), ("bourne/digest.orders", laid_bourne_digest_orders)], narrowed := true }
def DigestHexesUptoSaid : Prop := digestHexesUptoRow.holds Tryd.pinned (OpenSpec.upto digestHexesSpec)

/-- 'bournelaw03.DigestDetects', WHERE WHAT IT READS IS OF BULK AT MOST 1048576: true; the input reads as it did. -/
def digestDetectsUptoRow : OpenClaim := { program := "ytnfpahanbnidpaadoor", sum := "4acd0c889c43de1355be81a5de1ce5cc4d743ded92b045c939a8fae5318a6b36", func := "bourne/bournelaw03.DigestDetects", spec := "digestDetects", inPlace := ["internal/bytealg.IndexByteString", "internal/abi.NoEscape"], named := ["bourne/digest.first", "bourne/digest.orders"], apart := false, laid := [("bourne/digest.first", laid_bourne_digest_first), ("bourne/digest.orders", laid_bourne_digest_orders)], narrowed := true }
def DigestDetectsUptoSaid : Prop := digestDetectsUptoRow.holds Tryd.pinned (OpenSpec.upto digestDetectsSpec)

/-- 'bournelaw03.DigestResidue', WHERE WHAT IT READS IS OF BULK AT MOST 1048576: true; the input reads as it did. -/
def digestResidueUptoRow : OpenClaim := { program := "ytnfpahanbnidpaadoor", sum := "4acd0c889c43de1355be81a5de1ce5cc4d743ded92b045c939a8fae5318a6b36", func := "bourne/bournelaw03.DigestResidue", spec := "digestResidue", inPlace := ["internal/bytealg.IndexByteString", "internal/abi.NoEscape"], named := ["bourne/digest.first", "bourne/digest.orders"], apart := false, laid := [("bourne/digest.first", laid_bourne_digest_first), ("bourne/digest.orders", laid_bourne_digest_orders)], narrowed := true }
def DigestResidueUptoSaid : Prop := digestResidueUptoRow.holds Tryd.pinned (OpenSpec.upto digestResidueSpec)

/-- 'bournelaw03.DigestXors', WHERE WHAT IT READS IS OF BULK AT MOST 1048576: true; the input reads as it did. -/
def digestXorsUptoRow : OpenClaim := { program := "ytnfpahanbnidpaadoor", sum := "4acd0c889c43de1355be81a5de1ce5cc4d743ded92b045c939a8fae5318a6b36", func := "bourne/bournelaw03.DigestXors", spec := "digestXors", inPlace := ["internal/bytealg.IndexByteString", "internal/abi.NoEscape"], named := ["bourne/digest.first", "bourne/digest.orders"], apart := false, laid := [("bourne/digest.first", laid_bourne_digest_first), ("bourne/digest.orders", laid_bourne_digest_orders)], narrowed := true }
def DigestXorsUptoSaid : Prop := digestXorsUptoRow.holds Tryd.pinned (OpenSpec.upto digestXorsSpec)

/-- 'bournelaw03.DigestTells', WHERE WHAT IT READS IS OF BULK AT MOST 1048576: true; the input reads as it did. -/
def digestTellsUptoRow : OpenClaim := { program := "ytnfpahanbnidpaadoor", sum := "4acd0c889c43de1355be81a5de1ce5cc4d743ded92b045c939a8fae5318a6b36", func := "bourne/bournelaw03.DigestTells", spec := "digestTells", inPlace := ["internal/bytealg.IndexByteString", "internal/abi.NoEscape"], named := ["bourne/digest.first", "bourne/digest.orders"], apart := false, laid := [("bourne/digest.first", laid_bourne_digest_first), ("bourne/digest.orders", laid_bourne_digest_orders)], narrowed := true }
def DigestTellsUptoSaid : Prop := digestTellsUptoRow.holds Tryd.pinned (OpenSpec.upto digestTellsSpec)

/-- 'bournelaw03.DigestShorts', WHERE WHAT IT READS IS OF BULK AT MOST 1048576: true; the input reads as it did. -/
def digestShortsUptoRow : OpenClaim := { program := "ytnfpahanbnidpaadoor", sum := "4acd0c889c43de1355be81a5de1ce5cc4d743ded92b045c939a8fae5318a6b36", func := "bourne/bournelaw03.DigestShorts", spec := "digestShorts", inPlace := ["internal/bytealg.IndexByteString", "internal/abi.NoEscape"], named := ["bourne/digest.first", "bourne/digest.orders"], apart := false, laid := [("bourne/digest.first", laid_bourne_digest_first), ("bourne/digest.orders", laid_bourne_digest_orders)], narrowed := true }
def DigestShortsUptoSaid : Prop := digestShortsUptoRow.holds Tryd.pinned (OpenSpec.upto digestShortsSpec)

end Rows
end Go.Proofs.YtnfpahanbnidpaaDoor
