/-
  No cell of these rows narrows 'for every input' (looked for: loops, veiled, ifaces, maps, wideKeys, modest, calm, conditions, laid).
  DERIVED. THE GIVEN ROWS OF THIS SEAT. 3 by the template 'for every input the law returns true; each argument reads behind the call as it read before'; 0 by the template 'total and deterministic' (their statements: YtaliacnncemneaaTotals.lean).
  GIVEN WITH THE SEED: the statements are not yours to turn. If you find one false, say at which input.
  Laid BY PROGRAM, IN A SANDBOX (cutbox-rows.mjs): the forced cells as the released guide's own fill.sh prints them over the translation 5feb6bec557f8ace… (all of the seat's roots in one cut). By AI agents, Wed Nov 11 2026. No macro, syntax, notation, axiom, sorry.
-/
import Derived.Test.YtaliacnncemneaaChecked
import GoSem.Claim
import GoSem.ClaimJoined
import GoSem.ClaimMapViews
import Derived.JoinedTies
import Derived.KernelRfl
namespace Go.Proofs.Ytaliacnncemneaa
/- THE CELL 'sum', in the pinned program and in every row, IS THE sha256 OF THE DUMP (.gsa) THAT YtaliacnncemneaaProg.lean LOADS. Nothing in Lean hashes anything: it is a label: what it is worth is what the hold of that sum in a sandbox is worth. -/
noncomputable def Try.pinned : Pinned := { name := "ytaliacnncemneaa", sum := "5feb6bec557f8ace1080812cc456b0ddde1f2bb0e16b93819900a38ddf73f780", checked := Try.checked }
namespace Rows
def none {H : Type} : Left H := { results := [], args := [] }

/-- 'wherrylaw10.WheelWakes': WHATEVER THE INPUT: true; the input reads as it did. -/
def wheelWakesSpec : ChangeSpec := { name := "wheelWakes", fn := fun _ => fun
  | [d1, d2] => { results := [.lit (.bool true)], args := [d1, d2] }
  | _ => none }
def wheelWakesRow : OpenClaim := { program := "ytaliacnncemneaa", sum := "5feb6bec557f8ace1080812cc456b0ddde1f2bb0e16b93819900a38ddf73f780", func := "wherry/wherrylaw10.WheelWakes", spec := "wheelWakes", unfollowed := true, recurses := true, apart := false }
def WheelWakesSaid : Prop := wheelWakesRow.holds Try.pinned (OpenSpec.ofChange wheelWakesSpec)

/-- ITS FALSE NEIGHBOUR: 'it returns false'. Refute it at one input. -/
def wheelWakesWrong : ChangeSpec := { name := "wheelWakes", fn := fun _ => fun
  | [d1, d2] => { results := [.lit (.bool false)], args := [d1, d2] }
  | _ => none }
def WheelWakesWrongFalsely : Prop := wheelWakesRow.holds Try.pinned (OpenSpec.ofChange wheelWakesWrong)

/-- 'wherrylaw10.WheelCancels': WHATEVER THE INPUT: true; the input reads as it did. -/
def wheelCancelsSpec : ChangeSpec := { name := "wheelCancels", fn := fun _ => fun
  | [d1, d2] => { results := [.lit (.bool true)], args := [d1, d2] }
  | _ => none }
def wheelCancelsRow : OpenClaim := { program := "ytaliacnncemneaa", sum := "5feb6bec557f8ace1080812cc456b0ddde1f2bb0e16b93819900a38ddf73f780", func := "wherry/wherrylaw10.WheelCancels", spec := "wheelCancels", unfollowed := true, recurses := true, apart := false }
def WheelCancelsSaid : Prop := wheelCancelsRow.holds Try.pinned (OpenSpec.ofChange wheelCancelsSpec)

/-- ITS FALSE NEIGHBOUR: 'it returns false'. Refute it at one input. -/
def wheelCancelsWrong : ChangeSpec := { name := "wheelCancels", fn := fun _ => fun
  | [d1, d2] => { results := [.lit (.bool false)], args := [d1, d2] }
  | _ => none }
def WheelCancelsWrongFalsely : Prop := wheelCancelsRow.holds Try.pinned (OpenSpec.ofChange wheelCancelsWrong)

/-- 'wherrylaw10.WheelNone': WHATEVER THE INPUT: true; the input reads as it did. -/
def wheelNoneSpec : ChangeSpec := { name := "wheelNone", fn := fun _ => fun
  | [d] => { results := [.lit (.bool true)], args := [d] }
  | _ => none }
def wheelNoneRow : OpenClaim := { program := "ytaliacnncemneaa", sum := "5feb6bec557f8ace1080812cc456b0ddde1f2bb0e16b93819900a38ddf73f780", func := "wherry/wherrylaw10.WheelNone", spec := "wheelNone", inPlace := ["internal/reflectlite.ValueOf", "internal/reflectlite.Swapper", "(internal/reflectlite.Value).Len"], unfollowed := true, recurses := true, apart := false }
def WheelNoneSaid : Prop := wheelNoneRow.holds Try.pinned (OpenSpec.ofChange wheelNoneSpec)

/-- ITS FALSE NEIGHBOUR: 'it returns false'. Refute it at one input. -/
def wheelNoneWrong : ChangeSpec := { name := "wheelNone", fn := fun _ => fun
  | [d] => { results := [.lit (.bool false)], args := [d] }
  | _ => none }
def WheelNoneWrongFalsely : Prop := wheelNoneRow.holds Try.pinned (OpenSpec.ofChange wheelNoneWrong)

/- THE SECOND FORM. 'bulk': how many values and letters a reading holds, each counted each time it is reached (what is shared counts as often as it is met; a slice's spare places count too). A statement '..UptoSaid' is the law's where the arguments, and the package variables that the reading takes, are together of bulk at most 1048576: NARROWER than '..Said'. Prove '..Said' where nothing that the law and all that it calls make is longer than what came in: it says more and counts as full. Else prove '..UptoSaid'. A law counts once. -/
mutual
def uptoBulk {H : Type} : DataW H → Nat
  | .lit (.string bytes) => bytes.length + 1
  | .lit _ => 1
  | .nil => 1
  | .ptr d => uptoBulk d + 1
  | .slice elems spare => uptoBulkAll elems + uptoBulkAll spare + 1
  | .agg parts => uptoBulkAll parts + 1
  | .iface _ d => uptoBulk d + 1
  | .map entries => uptoBulkEntries entries + 1
  | .held _ => 1
def uptoBulkAll {H : Type} : List (DataW H) → Nat
  | [] => 0
  | d :: r => uptoBulk d + uptoBulkAll r
def uptoBulkEntries {H : Type} : List (Lit × DataW H) → Nat
  | [] => 0
  | x :: r => uptoBulkEntry x + uptoBulkEntries r
def uptoBulkEntry {H : Type} : Lit × DataW H → Nat
  | (.string bytes, d) => bytes.length + uptoBulk d + 1
  | (_, d) => uptoBulk d + 1
 end
def uptoSmall : (H : Type) → List (DataW H) → Bool := fun _ ds => decide (uptoBulkAll ds ≤ 1048576)
def OpenSpec.upto (s : _root_.Go.ChangeSpec) : _root_.Go.OpenSpec := { _root_.Go.OpenSpec.ofChange s with cond := some uptoSmall }

/-- 'wherrylaw10.WheelWakes', WHERE WHAT IT READS IS OF BULK AT MOST 1048576: true; the input reads as it did. -/
def wheelWakesUptoRow : OpenClaim := { program := "ytaliacnncemneaa", sum := "5feb6bec557f8ace1080812cc456b0ddde1f2bb0e16b93819900a38ddf73f780", func := "wherry/wherrylaw10.WheelWakes", spec := "wheelWakes", unfollowed := true, recurses := true, apart := false, narrowed := true }
def WheelWakesUptoSaid : Prop := wheelWakesUptoRow.holds Try.pinned (OpenSpec.upto wheelWakesSpec)

/-- 'wherrylaw10.WheelCancels', WHERE WHAT IT READS IS OF BULK AT MOST 1048576: true; the input reads as it did. -/
def wheelCancelsUptoRow : OpenClaim := { program := "ytaliacnncemneaa", sum := "5feb6bec557f8ace1080812cc456b0ddde1f2bb0e16b93819900a38ddf73f780", func := "wherry/wherrylaw10.WheelCancels", spec := "wheelCancels", unfollowed := true, recurses := true, apart := false, narrowed := true }
def WheelCancelsUptoSaid : Prop := wheelCancelsUptoRow.holds Try.pinned (OpenSpec.upto wheelCancelsSpec)

/-- 'wherrylaw10.WheelNone', WHERE WHAT IT READS IS OF BULK AT MOST 1048576: true; the input reads as it did. -/
def wheelNoneUptoRow : OpenClaim := { program := "ytaliacnncemneaa", sum := "5feb6bec557f8ace1080812cc456b0ddde1f2bb0e16b93819900a38ddf73f780", func := "wherry/wherrylaw10.WheelNone", spec := "wheelNone", inPlace := ["internal/reflectlite.ValueOf", "internal/reflectlite.Swapper", "(internal/reflectlite.Value).Len"], unfollowed := true, recurses := true, apart := false, narrowed := true }
def WheelNoneUptoSaid : Prop := wheelNoneUptoRow.holds Try.pinned (OpenSpec.upto wheelNoneSpec)

end Rows
end Go.Proofs.Ytaliacnncemneaa
