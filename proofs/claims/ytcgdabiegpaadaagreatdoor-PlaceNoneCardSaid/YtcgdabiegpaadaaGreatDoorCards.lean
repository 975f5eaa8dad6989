/-
  DERIVED. GIVEN WITH THE SEED: THE CARDS: each row of YtcgdabiegpaadaaGreatDoorRows.lean that lists a variable, with what it lists TIED to the program's text (the seventh form; the later family's looks); each row that meets fmt, with fmt's text TOLD by the authors' own Lean function (tested against real Go, not proved from fmt's source: count such statements apart). THE CARD IS WHAT COUNTS. Prove the row's statement (the work); the ties are given (YtcgdabiegpaadaaGreatDoorTie.lean); close each card by the builder's one call (the guide's Derived/Test/ToyasCard.lean, 'card_holds'). Laid BY PROGRAM, IN A SANDBOX (cutbox-door.mjs). By AI agents, Wed Nov 11 2026. No macro, syntax, notation, axiom, sorry.
-/
import Derived.Test.YtcgdabiegpaadaaGreatDoorRows
import GoSem.ClaimSeven
namespace Go.Proofs.YtcgdabiegpaadaaGreatDoor
namespace Rows

/-- THE TIED CARD OF 'wherrylaw28.PlaceNone'. -/
def placeNoneCard : Claim7 := { stood := { row := placeNoneRow, standIns := [], harness := (true, "a7117e1a64a7806e088584ce3c257487c4bcfb748f00b30ce67d80ad10247ef2"), looks := true }, kinds := [], alts := [], laidByText := true, laidKinds := [.data, .widerDeep, .data, .data, .data, .data, .data, .data, .data], laidTests := true, laidLooks := .later }
def PlaceNoneCardSaid : Prop := Claim7.holds Tryz.pinned (.plain (OpenSpec.ofChange placeNoneSpec)) placeNoneCard

/-- THE SECOND FORM's CARD OF 'wherrylaw28.PlaceNone'. -/
def placeNoneUptoCard : Claim7 := { stood := { row := placeNoneUptoRow, standIns := [], harness := (true, "a7117e1a64a7806e088584ce3c257487c4bcfb748f00b30ce67d80ad10247ef2"), looks := true }, kinds := [], alts := [], laidByText := true, laidKinds := [.data, .widerDeep, .data, .data, .data, .data, .data, .data, .data], laidTests := true, laidLooks := .later }
def PlaceNoneUptoCardSaid : Prop := Claim7.holds Tryz.pinned (.plain (OpenSpec.upto placeNoneSpec)) placeNoneUptoCard
end Rows
end Go.Proofs.YtcgdabiegpaadaaGreatDoor
