/-
  DERIVED. GIVEN WITH THE SEED: THE CARDS: each row of YtkjmbfkfimdejaaDoorRows.lean that lists a variable, with what it lists TIED to the program's text (the seventh form; the later family's looks); each row that meets fmt, with fmt's text TOLD by the authors' own Lean function (tested against real Go, not proved from fmt's source: count such statements apart). THE CARD IS WHAT COUNTS. Prove the row's statement (the work); the ties are given (YtkjmbfkfimdejaaDoorTie.lean); close each card by the builder's one call (the guide's Derived/Test/ToyasCard.lean, 'card_holds'). Laid BY PROGRAM, IN A SANDBOX (cutbox-door.mjs). By AI agents, Wed Nov 11 2026. No macro, syntax, notation, axiom, sorry.
-/
import Derived.Test.YtkjmbfkfimdejaaDoorRows
import GoSem.ClaimSeven
namespace Go.Proofs.YtkjmbfkfimdejaaDoor
namespace Rows

/-- THE TIED CARD OF 'laws.FnExactRiverWrite'. -/
def fnExactRiverWriteCard : Claim7 := { stood := { row := fnExactRiverWriteRow, standIns := [], harness := (true, "d1fb60c3bc3170a33f9759e73942f95e478f8e1379cc725b7c7946af02b5adec"), looks := false }, kinds := [], alts := [], laidByText := true, laidKinds := [.data, .data, .data], laidTests := true, laidLooks := .later }
def FnExactRiverWriteCardSaid : Prop := Claim7.holds Tryd.pinned (.plain (OpenSpec.ofChange fnExactRiverWriteSpec)) fnExactRiverWriteCard

/-- THE TIED CARD OF 'laws.FnExactRiverRead'. -/
def fnExactRiverReadCard : Claim7 := { stood := { row := fnExactRiverReadRow, standIns := [], harness := (true, "d1fb60c3bc3170a33f9759e73942f95e478f8e1379cc725b7c7946af02b5adec"), looks := false }, kinds := [], alts := [], laidByText := true, laidKinds := [.data, .pinned], laidTests := true, laidLooks := .later }
def FnExactRiverReadCardSaid : Prop := Claim7.holds Tryd.pinned (.plain (OpenSpec.ofChange fnExactRiverReadSpec)) fnExactRiverReadCard

/-- THE SECOND FORM's CARD OF 'laws.FnExactRiverWrite'. -/
def fnExactRiverWriteUptoCard : Claim7 := { stood := { row := fnExactRiverWriteUptoRow, standIns := [], harness := (true, "d1fb60c3bc3170a33f9759e73942f95e478f8e1379cc725b7c7946af02b5adec"), looks := false }, kinds := [], alts := [], laidByText := true, laidKinds := [.data, .data, .data], laidTests := true, laidLooks := .later }
def FnExactRiverWriteUptoCardSaid : Prop := Claim7.holds Tryd.pinned (.plain (OpenSpec.upto fnExactRiverWriteSpec)) fnExactRiverWriteUptoCard

/-- THE SECOND FORM's CARD OF 'laws.FnExactRiverRead'. -/
def fnExactRiverReadUptoCard : Claim7 := { stood := { row := fnExactRiverReadUptoRow, standIns := [], harness := (true, "d1fb60c3bc3170a33f9759e73942f95e478f8e1379cc725b7c7946af02b5adec"), looks := false }, kinds := [], alts := [], laidByText := true, laidKinds := [.data, .pinned], laidTests := true, laidLooks := .later }
def FnExactRiverReadUptoCardSaid : Prop := Claim7.holds Tryd.pinned (.plain (OpenSpec.upto fnExactRiverReadSpec)) fnExactRiverReadUptoCard
end Rows
end Go.Proofs.YtkjmbfkfimdejaaDoor
