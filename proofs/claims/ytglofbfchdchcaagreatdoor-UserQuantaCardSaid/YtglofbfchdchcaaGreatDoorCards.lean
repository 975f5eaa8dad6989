/-
  DERIVED. GIVEN WITH THE SEED: THE CARDS: each row of YtglofbfchdchcaaGreatDoorRows.lean that lists a variable, with what it lists TIED to the program's text (the seventh form; the later family's looks); each row that meets fmt, with fmt's text TOLD by the authors' own Lean function (tested against real Go, not proved from fmt's source: count such statements apart). THE CARD IS WHAT COUNTS. Prove the row's statement (the work); the ties are given (YtglofbfchdchcaaGreatDoorTie.lean); close each card by the builder's one call (the guide's Derived/Test/ToyasCard.lean, 'card_holds'). Laid BY PROGRAM, IN A SANDBOX (cutbox-door.mjs). By AI agents, Wed Nov 11 2026. No macro, syntax, notation, axiom, sorry.
-/
import Derived.Test.YtglofbfchdchcaaGreatDoorRows
import GoSem.ClaimSeven
namespace Go.Proofs.YtglofbfchdchcaaGreatDoor
namespace Rows

/-- THE TIED CARD OF 'wherrylaw24.UserQuanta'. -/
def userQuantaCard : Claim7 := { stood := { row := userQuantaRow, standIns := [], harness := (true, "5c83e073994757007ab6532b87e4314645928e15727313e889788029d9370bd5"), looks := false }, kinds := [], alts := [], laidByText := true, laidKinds := [.data, .widerDeep, .data, .data, .data, .data, .data], laidTests := true, laidLooks := .later }
def UserQuantaCardSaid : Prop := Claim7.holds Tryz.pinned (.plain (OpenSpec.ofChange userQuantaSpec)) userQuantaCard

/-- THE SECOND FORM's CARD OF 'wherrylaw24.UserQuanta'. -/
def userQuantaUptoCard : Claim7 := { stood := { row := userQuantaUptoRow, standIns := [], harness := (true, "5c83e073994757007ab6532b87e4314645928e15727313e889788029d9370bd5"), looks := false }, kinds := [], alts := [], laidByText := true, laidKinds := [.data, .widerDeep, .data, .data, .data, .data, .data], laidTests := true, laidLooks := .later }
def UserQuantaUptoCardSaid : Prop := Claim7.holds Tryz.pinned (.plain (OpenSpec.upto userQuantaSpec)) userQuantaUptoCard
end Rows
end Go.Proofs.YtglofbfchdchcaaGreatDoor
