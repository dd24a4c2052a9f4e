/-
  DERIVED. GIVEN WITH THE SEED: THE CARDS: each row of YtnfpahanbnidpaaDoorRows.lean that lists a variable, with what it lists TIED to the program's text (the seventh form; the later family's looks); each row that meets fmt, with fmt's text TOLD by the authors' own Lean function (tested against real Go, not proved from fmt's source: count such statements apart). THE CARD IS WHAT COUNTS. Prove the row's statement (the work); the ties are given (YtnfpahanbnidpaaDoorTie.lean); close each card by the builder's one call (the guide's Derived/Test/ToyasCard.lean, 'card_holds'). Laid BY PROGRAM, IN A SANDBOX (cutbox-door.mjs). By AI agents, Wed Nov 11 2026. No macro, syntax, notation, axiom, sorry.
-/
import Derived.Test.YtnfpahanbnidpaaDoorRows
import GoSem.ClaimSeven
namespace Go.Proofs.YtnfpahanbnidpaaDoor
namespace Rows

/-- THE TIED CARD OF 'bournelaw03.DigestHexes'. -/
def digestHexesCard : Claim7 := { stood := { row := digestHexesRow, standIns := [], harness := (true, "3bc382716759fd072edd82ba088be95a518f8112ae6506ee47bd16e618312001"), looks := false }, kinds := [], alts := [], laidByText := true, laidKinds := [.widerDeep, .data], laidTests := true, laidLooks := .later }
def DigestHexesCardSaid : Prop := Claim7.holds Tryd.pinned (.plain (OpenSpec.ofChange digestHexesSpec)) digestHexesCard

/-- THE TIED CARD OF 'bournelaw03.DigestDetects'. -/
def digestDetectsCard : Claim7 := { stood := { row := digestDetectsRow, standIns := [], harness := (true, "3bc382716759fd072edd82ba088be95a518f8112ae6506ee47bd16e618312001"), looks := false }, kinds := [], alts := [], laidByText := true, laidKinds := [.widerDeep, .data], laidTests := true, laidLooks := .later }
def DigestDetectsCardSaid : Prop := Claim7.holds Tryd.pinned (.plain (OpenSpec.ofChange digestDetectsSpec)) digestDetectsCard

/-- THE TIED CARD OF 'bournelaw03.DigestResidue'. -/
def digestResidueCard : Claim7 := { stood := { row := digestResidueRow, standIns := [], harness := (true, "3bc382716759fd072edd82ba088be95a518f8112ae6506ee47bd16e618312001"), looks := false }, kinds := [], alts := [], laidByText := true, laidKinds := [.widerDeep, .data], laidTests := true, laidLooks := .later }
def DigestResidueCardSaid : Prop := Claim7.holds Tryd.pinned (.plain (OpenSpec.ofChange digestResidueSpec)) digestResidueCard

/-- THE TIED CARD OF 'bournelaw03.DigestXors'. -/
def digestXorsCard : Claim7 := { stood := { row := digestXorsRow, standIns := [], harness := (true, "3bc382716759fd072edd82ba088be95a518f8112ae6506ee47bd16e618312001"), looks := false }, kinds := [], alts := [], laidByText := true, laidKinds := [.widerDeep, .data], laidTests := true, laidLooks := .later }
def DigestXorsCardSaid : Prop := Claim7.holds Tryd.pinned (.plain (OpenSpec.ofChange digestXorsSpec)) digestXorsCard

/-- THE TIED CARD OF 'bournelaw03.DigestTells'. -/
def digestTellsCard : Claim7 := { stood := { row := digestTellsRow, standIns := [], harness := (true, "3bc382716759fd072edd82ba088be95a518f8112ae6506ee47bd16e618312001"), looks := false }, kinds := [], alts := [], laidByText := true, laidKinds := [.widerDeep, .data], laidTests := true, laidLooks := .later }
def DigestTellsCardSaid : Prop := Claim7.holds Tryd.pinned (.plain (OpenSpec.ofChange digestTellsSpec)) digestTellsCard

/-- THE TIED CARD OF 'bournelaw03.DigestShorts'. -/
def digestShortsCard : Claim7 := { stood := { row := digestShortsRow, standIns := [], harness := (true, "3bc382716759fd072edd82ba088be95a518f8112ae6506ee47bd16e618312001"), looks := false }, kinds := [], alts := [], laidByText := true, laidKinds := [.widerDeep, .data], laidTests := true, laidLooks := .later }
def DigestShortsCardSaid : Prop := Claim7.holds Tryd.pinned (.plain (OpenSpec.ofChange digestShortsSpec)) digestShortsCard

/-- THE SECOND FORM's CARD OF 'bournelaw03.DigestHexes'. -/
def digestHexesUptoCard : Claim7 := { stood := { row := digestHexesUptoRow, standIns := [], harness := (true, "3bc382716759fd072edd82ba088be95a518f8112ae6506ee47bd16e618312001"), looks := false }, kinds := [], alts := [], laidByText := true, laidKinds := [.widerDeep, .data], laidTests := true, laidLooks := .later }
def DigestHexesUptoCardSaid : Prop := Claim7.holds Tryd.pinned (.plain (OpenSpec.upto digestHexesSpec)) digestHexesUptoCard

/-- THE SECOND FORM's CARD OF 'bournelaw03.DigestDetects'. -/
def digestDetectsUptoCard : Claim7 := { stood := { row := digestDetectsUptoRow, standIns := [], harness := (true, "3bc382716759fd072edd82ba088be95a518f8112ae6506ee47bd16e618312001"), looks := false }, kinds := [], alts := [], laidByText := true, laidKinds := [.widerDeep, .data], laidTests := true, laidLooks := .later }
def DigestDetectsUptoCardSaid : Prop := Claim7.holds Tryd.pinned (.plain (OpenSpec.upto digestDetectsSpec)) digestDetectsUptoCard

/-- THE SECOND FORM's CARD OF 'bournelaw03.DigestResidue'. -/
def digestResidueUptoCard : Claim7 := { stood := { row := digestResidueUptoRow, standIns := [], harness := (true, "3bc382716759fd072edd82ba088be95a518f8112ae6506ee47bd16e618312001"), looks := false }, kinds := [], alts := [], laidByText := true, laidKinds := [.widerDeep, .data], laidTests := true, laidLooks := .later }
def DigestResidueUptoCardSaid : Prop := Claim7.holds Tryd.pinned (.plain (OpenSpec.upto digestResidueSpec)) digestResidueUptoCard

/-- THE SECOND FORM's CARD OF 'bournelaw03.DigestXors'. -/
def digestXorsUptoCard : Claim7 := { stood := { row := digestXorsUptoRow, standIns := [], harness := (true, "3bc382716759fd072edd82ba088be95a518f8112ae6506ee47bd16e618312001"), looks := false }, kinds := [], alts := [], laidByText := true, laidKinds := [.widerDeep, .data], laidTests := true, laidLooks := .later }
def DigestXorsUptoCardSaid : Prop := Claim7.holds Tryd.pinned (.plain (OpenSpec.upto digestXorsSpec)) digestXorsUptoCard

/-- THE SECOND FORM's CARD OF 'bournelaw03.DigestTells'. -/
def digestTellsUptoCard : Claim7 := { stood := { row := digestTellsUptoRow, standIns := [], harness := (true, "3bc382716759fd072edd82ba088be95a518f8112ae6506ee47bd16e618312001"), looks := false }, kinds := [], alts := [], laidByText := true, laidKinds := [.widerDeep, .data], laidTests := true, laidLooks := .later }
def DigestTellsUptoCardSaid : Prop := Claim7.holds Tryd.pinned (.plain (OpenSpec.upto digestTellsSpec)) digestTellsUptoCard

/-- THE SECOND FORM's CARD OF 'bournelaw03.DigestShorts'. -/
def digestShortsUptoCard : Claim7 := { stood := { row := digestShortsUptoRow, standIns := [], harness := (true, "3bc382716759fd072edd82ba088be95a518f8112ae6506ee47bd16e618312001"), looks := false }, kinds := [], alts := [], laidByText := true, laidKinds := [.widerDeep, .data], laidTests := true, laidLooks := .later }
def DigestShortsUptoCardSaid : Prop := Claim7.holds Tryd.pinned (.plain (OpenSpec.upto digestShortsSpec)) digestShortsUptoCard
end Rows
end Go.Proofs.YtnfpahanbnidpaaDoor
