/-
  DERIVED. GIVEN WITH THE SEED: THE CARDS: each row of YtikkcdefcfkkiaaGreatDoorRows.lean that lists a variable, with what it lists TIED to the program's text (the seventh form; the later family's looks); each row that meets fmt, with fmt's text TOLD by the authors' own Lean function (tested against real Go, not proved from fmt's source: count such statements apart). THE CARD IS WHAT COUNTS. Prove the row's statement (the work); the ties are given (YtikkcdefcfkkiaaGreatDoorTie.lean); close each card by the builder's one call (the guide's Derived/Test/ToyasCard.lean, 'card_holds'). Laid BY PROGRAM, IN A SANDBOX (cutbox-door.mjs). By AI agents, Wed Nov 11 2026. No macro, syntax, notation, axiom, sorry.
-/
import Derived.Test.YtikkcdefcfkkiaaGreatDoorRows
import GoSem.ClaimSeven
namespace Go.Proofs.YtikkcdefcfkkiaaGreatDoor
namespace Rows

/-- THE TIED CARD OF 'wherrylaw27.FlatNone'. -/
def flatNoneCard : Claim7 := { stood := { row := flatNoneRow, standIns := [], harness := (true, "1e4f2b6a86f622742f602235580f1291bcdd941021618a22fb79e9435123275b"), looks := true }, kinds := [], alts := [], laidByText := true, laidKinds := [.data, .widerDeep, .data, .data, .data, .data, .data, .data], laidTests := true, laidLooks := .later }
def FlatNoneCardSaid : Prop := Claim7.holds Tryz.pinned (.plain (OpenSpec.ofChange flatNoneSpec)) flatNoneCard

/-- THE SECOND FORM's CARD OF 'wherrylaw27.FlatNone'. -/
def flatNoneUptoCard : Claim7 := { stood := { row := flatNoneUptoRow, standIns := [], harness := (true, "1e4f2b6a86f622742f602235580f1291bcdd941021618a22fb79e9435123275b"), looks := true }, kinds := [], alts := [], laidByText := true, laidKinds := [.data, .widerDeep, .data, .data, .data, .data, .data, .data], laidTests := true, laidLooks := .later }
def FlatNoneUptoCardSaid : Prop := Claim7.holds Tryz.pinned (.plain (OpenSpec.upto flatNoneSpec)) flatNoneUptoCard
end Rows
end Go.Proofs.YtikkcdefcfkkiaaGreatDoor
