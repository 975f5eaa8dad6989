/-
  DERIVED. GIVEN WITH THE SEED: THE CARDS: each row of YtlhdggafnfeddaaGreatDoorRows.lean that lists a variable, with what it lists TIED to the program's text (the seventh form; the later family's looks); each row that meets fmt, with fmt's text TOLD by the authors' own Lean function (tested against real Go, not proved from fmt's source: count such statements apart). THE CARD IS WHAT COUNTS. Prove the row's statement (the work); the ties are given (YtlhdggafnfeddaaGreatDoorTie.lean); close each card by the builder's one call (the guide's Derived/Test/ToyasCard.lean, 'card_holds'). Laid BY PROGRAM, IN A SANDBOX (cutbox-door.mjs). By AI agents, Wed Nov 11 2026. No macro, syntax, notation, axiom, sorry.
-/
import Derived.Test.YtlhdggafnfeddaaGreatDoorRows
import GoSem.ClaimSeven
namespace Go.Proofs.YtlhdggafnfeddaaGreatDoor
namespace Rows

/-- THE TIED CARD OF 'wherrylaw23.LibNone'. -/
def libNoneCard : Claim7 := { stood := { row := libNoneRow, standIns := [], harness := (true, "e5e8421a9ba786c898ddbf92b80ecdeffe5caf25164c9c9feaf12fff03b0243c"), looks := true }, kinds := [], alts := [], laidByText := true, laidKinds := [.data, .widerDeep, .data, .data, .data, .data, .data, .data], laidTests := true, laidLooks := .later }
def LibNoneCardSaid : Prop := Claim7.holds Tryz.pinned (.plain (OpenSpec.ofChange libNoneSpec)) libNoneCard

/-- THE SECOND FORM's CARD OF 'wherrylaw23.LibNone'. -/
def libNoneUptoCard : Claim7 := { stood := { row := libNoneUptoRow, standIns := [], harness := (true, "e5e8421a9ba786c898ddbf92b80ecdeffe5caf25164c9c9feaf12fff03b0243c"), looks := true }, kinds := [], alts := [], laidByText := true, laidKinds := [.data, .widerDeep, .data, .data, .data, .data, .data, .data], laidTests := true, laidLooks := .later }
def LibNoneUptoCardSaid : Prop := Claim7.holds Tryz.pinned (.plain (OpenSpec.upto libNoneSpec)) libNoneUptoCard
end Rows
end Go.Proofs.YtlhdggafnfeddaaGreatDoor
