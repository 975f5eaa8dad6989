/-
  DERIVED. GIVEN WITH THE SEED: THE CARDS: each row of YtdeeennadfipeaaGreatDoorRows.lean that lists a variable, with what it lists TIED to the program's text (the seventh form; the later family's looks); each row that meets fmt, with fmt's text TOLD by the authors' own Lean function (tested against real Go, not proved from fmt's source: count such statements apart). THE CARD IS WHAT COUNTS. Prove the row's statement (the work); the ties are given (YtdeeennadfipeaaGreatDoorTie.lean); close each card by the builder's one call (the guide's Derived/Test/ToyasCard.lean, 'card_holds'). Laid BY PROGRAM, IN A SANDBOX (cutbox-door.mjs). By AI agents, Wed Nov 11 2026. No macro, syntax, notation, axiom, sorry.
-/
import Derived.Test.YtdeeennadfipeaaGreatDoorRows
import GoSem.ClaimSeven
namespace Go.Proofs.YtdeeennadfipeaaGreatDoor
namespace Rows

/-- THE TIED CARD OF 'wherrylaw24.UserNone'. -/
def userNoneCard : Claim7 := { stood := { row := userNoneRow, standIns := [], harness := (true, "4dd3092c4f2bfc77ae7e386e8ed2baf3c092e94c9ec66bab1fe7df9ce4630cc0"), looks := true }, kinds := [], alts := [], laidByText := true, laidKinds := [.data, .widerDeep, .data, .data, .data, .data, .data, .data], laidTests := true, laidLooks := .later }
def UserNoneCardSaid : Prop := Claim7.holds Tryz.pinned (.plain (OpenSpec.ofChange userNoneSpec)) userNoneCard

/-- THE SECOND FORM's CARD OF 'wherrylaw24.UserNone'. -/
def userNoneUptoCard : Claim7 := { stood := { row := userNoneUptoRow, standIns := [], harness := (true, "4dd3092c4f2bfc77ae7e386e8ed2baf3c092e94c9ec66bab1fe7df9ce4630cc0"), looks := true }, kinds := [], alts := [], laidByText := true, laidKinds := [.data, .widerDeep, .data, .data, .data, .data, .data, .data], laidTests := true, laidLooks := .later }
def UserNoneUptoCardSaid : Prop := Claim7.holds Tryz.pinned (.plain (OpenSpec.upto userNoneSpec)) userNoneUptoCard
end Rows
end Go.Proofs.YtdeeennadfipeaaGreatDoor
