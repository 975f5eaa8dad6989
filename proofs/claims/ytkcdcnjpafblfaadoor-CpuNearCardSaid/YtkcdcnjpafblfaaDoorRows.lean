/-
  NARROWER THAN 'FOR EVERY INPUT', by the rows' own cells (each row's printed sentence says how): CpuParts: laid · CpuNear: laid · CpuCounts: laid · CpuGives: laid.
  DERIVED. THE GIVEN ROWS OF THIS SEAT. 4 by the template 'for every input the law returns true; each argument reads behind the call as it read before'; 0 by the template 'total and deterministic' (their statements: YtkcdcnjpafblfaaDoorTotals.lean).
  GIVEN WITH THE SEED: the statements are not yours to turn. If you find one false, say at which input.
  Laid BY PROGRAM, IN A SANDBOX (cutbox-rows.mjs): the forced cells as the released guide's own fill.sh prints them over the translation 90f3fe604c9f2fd1… (all of the seat's roots in one cut). By AI agents, Wed Nov 11 2026. No macro, syntax, notation, axiom, sorry.
-/
import Derived.Test.YtkcdcnjpafblfaaDoorChecked
import GoSem.Claim
import GoSem.ClaimJoined
import GoSem.ClaimMapViews
import Derived.JoinedTies
import Derived.KernelRfl
namespace Go.Proofs.YtkcdcnjpafblfaaDoor
/- THE CELL 'sum', in the pinned program and in every row, IS THE sha256 OF THE DUMP (.gsa) THAT YtkcdcnjpafblfaaDoorProg.lean LOADS. Nothing in Lean hashes anything: it is a label: what it is worth is what the hold of that sum in a sandbox is worth. -/
noncomputable def Tryd.pinned : Pinned := { name := "ytkcdcnjpafblfaadoor", sum := "90f3fe604c9f2fd1df1e36713a35ee07f4bc0431abf84f495c3ec163be02e418", checked := Tryd.checked }
namespace Rows
def none {H : Type} : Left H := { results := [], args := [] }

/- WHAT THE LISTED PACKAGE-LEVEL VARIABLES READ AS WHEN THE CALL BEGINS. Each datum BY PROGRAM (the guide's laid-datum.mjs) off the statement by which the dump's own 'gosem.cut.vars' lays the variable. In a bare row this is a premise. The card (YtkcdcnjpafblfaaDoorCards.lean) ties it to the program's text. -/
def laid_wherry_isa_forms {H : Type} : DataW H := .agg [.agg [.lit (.string [110, 111, 112]), .lit (.string [45, 45, 45])], .agg [.lit (.string [115, 101, 116]), .lit (.string [114, 118, 45])], .agg [.lit (.string [97, 100, 100]), .lit (.string [114, 114, 45])], .agg [.lit (.string [115, 117, 98]), .lit (.string [114, 114, 45])], .agg [.lit (.string [99, 111, 112, 121]), .lit (.string [114, 114, 45])], .agg [.lit (.string [108, 101, 115, 115]), .lit (.string [114, 114, 114])], .agg [.lit (.string [106, 117, 109, 112]), .lit (.string [116, 45, 45])], .agg [.lit (.string [122, 101, 114, 111]), .lit (.string [114, 116, 45])], .agg [.lit (.string [108, 111, 111, 112]), .lit (.string [114, 116, 45])], .agg [.lit (.string [101, 110, 116, 101, 114]), .lit (.string [45, 45, 45])], .agg [.lit (.string [108, 101, 97, 118, 101]), .lit (.string [45, 45, 45])], .agg [.lit (.string [101, 120, 105, 116]), .lit (.string [114, 45, 45])], .agg [.lit (.string [121, 105, 101, 108, 100]), .lit (.string [45, 45, 45])], .agg [.lit (.string [115, 112, 97, 119, 110]), .lit (.string [112, 107, 114])], .agg [.lit (.string [106, 111, 105, 110]), .lit (.string [114, 45, 114])], .agg [.lit (.string [108, 111, 99, 107]), .lit (.string [111, 45, 45])], .agg [.lit (.string [117, 110, 108, 111, 99, 107]), .lit (.string [111, 45, 45])], .agg [.lit (.string [119, 97, 105, 116]), .lit (.string [111, 111, 45])], .agg [.lit (.string [115, 105, 103, 110, 97, 108]), .lit (.string [111, 45, 45])], .agg [.lit (.string [99, 97, 115, 116]), .lit (.string [111, 45, 45])], .agg [.lit (.string [100, 111, 119, 110]), .lit (.string [111, 45, 45])], .agg [.lit (.string [117, 112]), .lit (.string [111, 45, 45])], .agg [.lit (.string [115, 108, 101, 101, 112]), .lit (.string [110, 45, 45])], .agg [.lit (.string [114, 101, 97, 100]), .lit (.string [115, 45, 114])], .agg [.lit (.string [119, 114, 105, 116, 101]), .lit (.string [115, 45, 114])], .agg [.lit (.string [115, 101, 108, 102]), .lit (.string [45, 45, 114])], .agg [.lit (.string [116, 105, 109, 101]), .lit (.string [45, 45, 114])]]

/-- 'wherrylaw13.CpuParts': WHATEVER THE INPUT: true; the input reads as it did. -/
def cpuPartsSpec : ChangeSpec := { name := "cpuParts", fn := fun _ => fun
  | [d1, d2, d3] => { results := [.lit (.bool true)], args := [d1, d2, d3] }
  | _ => none }
def cpuPartsRow : OpenClaim := { program := "ytkcdcnjpafblfaadoor", sum := "90f3fe604c9f2fd1df1e36713a35ee07f4bc0431abf84f495c3ec163be02e418", func := "wherry/wherrylaw13.CpuParts", spec := "cpuParts", unfollowed := true, recurses := true, named := ["wherry/isa.forms"], apart := false, laid := [("wherry/isa.forms", laid_wherry_isa_forms)] }
def CpuPartsSaid : Prop := cpuPartsRow.holds Tryd.pinned (OpenSpec.ofChange cpuPartsSpec)

/-- ITS FALSE NEIGHBOUR: 'it returns false'. Refute it at one input. -/
def cpuPartsWrong : ChangeSpec := { name := "cpuParts", fn := fun _ => fun
  | [d1, d2, d3] => { results := [.lit (.bool false)], args := [d1, d2, d3] }
  | _ => none }
def CpuPartsWrongFalsely : Prop := cpuPartsRow.holds Tryd.pinned (OpenSpec.ofChange cpuPartsWrong)

/-- 'wherrylaw13.CpuNear': WHATEVER THE INPUT: true; the input reads as it did. -/
def cpuNearSpec : ChangeSpec := { name := "cpuNear", fn := fun _ => fun
  | [d1, d2] => { results := [.lit (.bool true)], args := [d1, d2] }
  | _ => none }
def cpuNearRow : OpenClaim := { program := "ytkcdcnjpafblfaadoor", sum := "90f3fe604c9f2fd1df1e36713a35ee07f4bc0431abf84f495c3ec163be02e418", func := "wherry/wherrylaw13.CpuNear", spec := "cpuNear", unfollowed := true, recurses := true, named := ["wherry/isa.forms"], apart := false, laid := [("wherry/isa.forms", laid_wherry_isa_forms)] }
def CpuNearSaid : Prop := cpuNearRow.holds Tryd.pinned (OpenSpec.ofChange cpuNearSpec)

/-- ITS FALSE NEIGHBOUR: 'it returns false'. Refute it at one input. -/
def cpuNearWrong : ChangeSpec := { name := "cpuNear", fn := fun _ => fun
  | [d1, d2] => { results := [.lit (.bool false)], args := [d1, d2] }
  | _ => none }
def CpuNearWrongFalsely : Prop := cpuNearRow.holds Tryd.pinned (OpenSpec.ofChange cpuNearWrong)

/-- 'wherrylaw13.CpuCounts': WHATEVER THE INPUT: true; the input reads as it did. -/
def cpuCountsSpec : ChangeSpec := { name := "cpuCounts", fn := fun _ => fun
  | [d] => { results := [.lit (.bool true)], args := [d] }
  | _ => none }
def cpuCountsRow : OpenClaim := { program := "ytkcdcnjpafblfaadoor", sum := "90f3fe604c9f2fd1df1e36713a35ee07f4bc0431abf84f495c3ec163be02e418", func := "wherry/wherrylaw13.CpuCounts", spec := "cpuCounts", unfollowed := true, recurses := true, named := ["wherry/isa.forms"], apart := false, laid := [("wherry/isa.forms", laid_wherry_isa_forms)] }
def CpuCountsSaid : Prop := cpuCountsRow.holds Tryd.pinned (OpenSpec.ofChange cpuCountsSpec)

/-- ITS FALSE NEIGHBOUR: 'it returns false'. Refute it at one input. -/
def cpuCountsWrong : ChangeSpec := { name := "cpuCounts", fn := fun _ => fun
  | [d] => { results := [.lit (.bool false)], args := [d] }
  | _ => none }
def CpuCountsWrongFalsely : Prop := cpuCountsRow.holds Tryd.pinned (OpenSpec.ofChange cpuCountsWrong)

/-- 'wherrylaw13.CpuGives': WHATEVER THE INPUT: true; the input reads as it did. -/
def cpuGivesSpec : ChangeSpec := { name := "cpuGives", fn := fun _ => fun
  | [d1, d2, d3] => { results := [.lit (.bool true)], args := [d1, d2, d3] }
  | _ => none }
def cpuGivesRow : OpenClaim := { program := "ytkcdcnjpafblfaadoor", sum := "90f3fe604c9f2fd1df1e36713a35ee07f4bc0431abf84f495c3ec163be02e418", func := "wherry/wherrylaw13.CpuGives", spec := "cpuGives", unfollowed := true, recurses := true, named := ["wherry/isa.forms"], apart := false, laid := [("wherry/isa.forms", laid_wherry_isa_forms)] }
def CpuGivesSaid : Prop := cpuGivesRow.holds Tryd.pinned (OpenSpec.ofChange cpuGivesSpec)

/-- ITS FALSE NEIGHBOUR: 'it returns false'. Refute it at one input. -/
def cpuGivesWrong : ChangeSpec := { name := "cpuGives", fn := fun _ => fun
  | [d1, d2, d3] => { results := [.lit (.bool false)], args := [d1, d2, d3] }
  | _ => none }
def CpuGivesWrongFalsely : Prop := cpuGivesRow.holds Tryd.pinned (OpenSpec.ofChange cpuGivesWrong)

/- THE SECOND FORM. 'bulk': how many values and letters a reading holds, each counted each time it is reached (what is shared counts as often as it is met; a slice's spare places count too). A statement '..UptoSaid' is the law's where the arguments, and the package variables that the reading takes, are together of bulk at most 1048576: NARROWER than '..Said'. Prove '..Said' where nothing that the law and all that it calls make is longer than what came in: it says more and counts as full. Else prove '..UptoSaid'. A law counts once. -/
mutual
def uptoBulk {H : Type} : DataW H → Nat
  | .lit (.string bytes) => bytes.length + 1
  | .lit _ => 1
  | .nil => 1
  | .ptr d => uptoBulk d + 1
  | .slice elems spare => uptoBulkAll elems + uptoBulkAll spare + 1
  | .agg parts => uptoBulkAll parts + 1
  | .iface _ d => uptoBulk d + 1
  | .map entries => uptoBulkEntries entries + 1
  | .held _ => 1
def uptoBulkAll {H : Type} : List (DataW H) → Nat
  | [] => 0
  | d :: r => uptoBulk d + uptoBulkAll r
def uptoBulkEntries {H : Type} : List (Lit × DataW H) → Nat
  | [] => 0
  | x :: r => uptoBulkEntry x + uptoBulkEntries r
def uptoBulkEntry {H : Type} : Lit × DataW H → Nat
  | (.string bytes, d) => bytes.length + uptoBulk d + 1
  | (_, d) => uptoBulk d + 1
 end
def uptoSmall : (H : Type) → List (DataW H) → Bool := fun _ ds => decide (uptoBulkAll ds ≤ 1048576)
def OpenSpec.upto (s : _root_.Go.ChangeSpec) : _root_.Go.OpenSpec := { _root_.Go.OpenSpec.ofChange s with cond := some uptoSmall }

/-- 'wherrylaw13.CpuParts', WHERE WHAT IT READS IS OF BULK AT MOST 1048576: true; the input reads as it did. -/
def cpuPartsUptoRow : OpenClaim := { program := "ytkcdcnjpafblfaadoor", sum := "90f3fe604c9f2fd1df1e36713a35ee07f4bc0431abf84f495c3ec163be02e418", func := "wherry/wherrylaw13.CpuParts", spec := "cpuParts", unfollowed := true, recurses := true, named := ["wherry/isa.forms"], apart := false, laid := [("wherry/isa.forms", laid_wherry_isa_forms)], narrowed := true }
def CpuPartsUptoSaid : Prop := cpuPartsUptoRow.holds Tryd.pinned (OpenSpec.upto cpuPartsSpec)

/-- 'wherrylaw13.CpuNear', WHERE WHAT IT READS IS OF BULK AT MOST 1048576: true; the input reads as it did. -/
def cpuNearUptoRow : OpenClaim := { program := "ytkcdcnjpafblfaadoor", sum := "90f3fe604c9f2fd1df1e36713a35ee07f4bc0431abf84f495c3ec163be02e418", func := "wherry/wherrylaw13.CpuNear", spec := "cpuNear", unfollowed := true, recurses := true, named := ["wherry/isa.forms"], apart := false, laid := [("wherry/isa.forms", laid_wherry_isa_forms)], narrowed := true }
def CpuNearUptoSaid : Prop := cpuNearUptoRow.holds Tryd.pinned (OpenSpec.upto cpuNearSpec)

/-- 'wherrylaw13.CpuCounts', WHERE WHAT IT READS IS OF BULK AT MOST 1048576: true; the input reads as it did. -/
def cpuCountsUptoRow : OpenClaim := { program := "ytkcdcnjpafblfaadoor", sum := "90f3fe604c9f2fd1df1e36713a35ee07f4bc0431abf84f495c3ec163be02e418", func := "wherry/wherrylaw13.CpuCounts", spec := "cpuCounts", unfollowed := true, recurses := true, named := ["wherry/isa.forms"], apart := false, laid := [("wherry/isa.forms", laid_wherry_isa_forms)], narrowed := true }
def CpuCountsUptoSaid : Prop := cpuCountsUptoRow.holds Tryd.pinned (OpenSpec.upto cpuCountsSpec)

/-- 'wherrylaw13.CpuGives', WHERE WHAT IT READS IS OF BULK AT MOST 1048576: true; the input reads as it did. -/
def cpuGivesUptoRow : OpenClaim := { program := "ytkcdcnjpafblfaadoor", sum := "90f3fe604c9f2fd1df1e36713a35ee07f4bc0431abf84f495c3ec163be02e418", func := "wherry/wherrylaw13.CpuGives", spec := "cpuGives", unfollowed := true, recurses := true, named := ["wherry/isa.forms"], apart := false, laid := [("wherry/isa.forms", laid_wherry_isa_forms)], narrowed := true }
def CpuGivesUptoSaid : Prop := cpuGivesUptoRow.holds Tryd.pinned (OpenSpec.upto cpuGivesSpec)

end Rows
end Go.Proofs.YtkcdcnjpafblfaaDoor
