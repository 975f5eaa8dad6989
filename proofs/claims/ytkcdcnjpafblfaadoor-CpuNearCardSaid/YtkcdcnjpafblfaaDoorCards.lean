/-
  DERIVED. GIVEN WITH THE SEED: THE CARDS: each row of YtkcdcnjpafblfaaDoorRows.lean that lists a variable, with what it lists TIED to the program's text (the seventh form; the later family's looks); each row that meets fmt, with fmt's text TOLD by the authors' own Lean function (tested against real Go, not proved from fmt's source: count such statements apart). THE CARD IS WHAT COUNTS. Prove the row's statement (the work); the ties are given (YtkcdcnjpafblfaaDoorTie.lean); close each card by the builder's one call (the guide's Derived/Test/ToyasCard.lean, 'card_holds'). Laid BY PROGRAM, IN A SANDBOX (cutbox-door.mjs). By AI agents, Wed Nov 11 2026. No macro, syntax, notation, axiom, sorry.
-/
import Derived.Test.YtkcdcnjpafblfaaDoorRows
import GoSem.ClaimSeven
namespace Go.Proofs.YtkcdcnjpafblfaaDoor
namespace Rows

/-- THE TIED CARD OF 'wherrylaw13.CpuParts'. -/
def cpuPartsCard : Claim7 := { stood := { row := cpuPartsRow, standIns := [], harness := (true, "b266be6e87342516e553df64f1946c29b299cfcbcc99c3a37e6af7d67ac74141"), looks := false }, kinds := [], alts := [], laidByText := true, laidKinds := [.widerDeep], laidTests := true, laidLooks := .later }
def CpuPartsCardSaid : Prop := Claim7.holds Tryd.pinned (.plain (OpenSpec.ofChange cpuPartsSpec)) cpuPartsCard

/-- THE TIED CARD OF 'wherrylaw13.CpuNear'. -/
def cpuNearCard : Claim7 := { stood := { row := cpuNearRow, standIns := [], harness := (true, "b266be6e87342516e553df64f1946c29b299cfcbcc99c3a37e6af7d67ac74141"), looks := false }, kinds := [], alts := [], laidByText := true, laidKinds := [.widerDeep], laidTests := true, laidLooks := .later }
def CpuNearCardSaid : Prop := Claim7.holds Tryd.pinned (.plain (OpenSpec.ofChange cpuNearSpec)) cpuNearCard

/-- THE TIED CARD OF 'wherrylaw13.CpuCounts'. -/
def cpuCountsCard : Claim7 := { stood := { row := cpuCountsRow, standIns := [], harness := (true, "b266be6e87342516e553df64f1946c29b299cfcbcc99c3a37e6af7d67ac74141"), looks := false }, kinds := [], alts := [], laidByText := true, laidKinds := [.widerDeep], laidTests := true, laidLooks := .later }
def CpuCountsCardSaid : Prop := Claim7.holds Tryd.pinned (.plain (OpenSpec.ofChange cpuCountsSpec)) cpuCountsCard

/-- THE TIED CARD OF 'wherrylaw13.CpuGives'. -/
def cpuGivesCard : Claim7 := { stood := { row := cpuGivesRow, standIns := [], harness := (true, "b266be6e87342516e553df64f1946c29b299cfcbcc99c3a37e6af7d67ac74141"), looks := false }, kinds := [], alts := [], laidByText := true, laidKinds := [.widerDeep], laidTests := true, laidLooks := .later }
def CpuGivesCardSaid : Prop := Claim7.holds Tryd.pinned (.plain (OpenSpec.ofChange cpuGivesSpec)) cpuGivesCard

/-- THE SECOND FORM's CARD OF 'wherrylaw13.CpuParts'. -/
def cpuPartsUptoCard : Claim7 := { stood := { row := cpuPartsUptoRow, standIns := [], harness := (true, "b266be6e87342516e553df64f1946c29b299cfcbcc99c3a37e6af7d67ac74141"), looks := false }, kinds := [], alts := [], laidByText := true, laidKinds := [.widerDeep], laidTests := true, laidLooks := .later }
def CpuPartsUptoCardSaid : Prop := Claim7.holds Tryd.pinned (.plain (OpenSpec.upto cpuPartsSpec)) cpuPartsUptoCard

/-- THE SECOND FORM's CARD OF 'wherrylaw13.CpuNear'. -/
def cpuNearUptoCard : Claim7 := { stood := { row := cpuNearUptoRow, standIns := [], harness := (true, "b266be6e87342516e553df64f1946c29b299cfcbcc99c3a37e6af7d67ac74141"), looks := false }, kinds := [], alts := [], laidByText := true, laidKinds := [.widerDeep], laidTests := true, laidLooks := .later }
def CpuNearUptoCardSaid : Prop := Claim7.holds Tryd.pinned (.plain (OpenSpec.upto cpuNearSpec)) cpuNearUptoCard

/-- THE SECOND FORM's CARD OF 'wherrylaw13.CpuCounts'. -/
def cpuCountsUptoCard : Claim7 := { stood := { row := cpuCountsUptoRow, standIns := [], harness := (true, "b266be6e87342516e553df64f1946c29b299cfcbcc99c3a37e6af7d67ac74141"), looks := false }, kinds := [], alts := [], laidByText := true, laidKinds := [.widerDeep], laidTests := true, laidLooks := .later }
def CpuCountsUptoCardSaid : Prop := Claim7.holds Tryd.pinned (.plain (OpenSpec.upto cpuCountsSpec)) cpuCountsUptoCard

/-- THE SECOND FORM's CARD OF 'wherrylaw13.CpuGives'. -/
def cpuGivesUptoCard : Claim7 := { stood := { row := cpuGivesUptoRow, standIns := [], harness := (true, "b266be6e87342516e553df64f1946c29b299cfcbcc99c3a37e6af7d67ac74141"), looks := false }, kinds := [], alts := [], laidByText := true, laidKinds := [.widerDeep], laidTests := true, laidLooks := .later }
def CpuGivesUptoCardSaid : Prop := Claim7.holds Tryd.pinned (.plain (OpenSpec.upto cpuGivesSpec)) cpuGivesUptoCard
end Rows
end Go.Proofs.YtkcdcnjpafblfaaDoor
