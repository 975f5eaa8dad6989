/-
  NARROWER THAN 'FOR EVERY INPUT', by the rows' own cells (each row's printed sentence says how): PlaceNone: laid.
  DERIVED. THE GIVEN ROWS OF THIS SEAT. 1 by the template 'for every input the law returns true; each argument reads behind the call as it read before'; 0 by the template 'total and deterministic' (their statements: YtcgdabiegpaadaaGreatDoorTotals.lean).
  GIVEN WITH THE SEED: the statements are not yours to turn. If you find one false, say at which input.
  Laid BY PROGRAM, IN A SANDBOX (cutbox-rows.mjs): the forced cells as the released guide's own fill.sh prints them over the translation 6822e4eee832803d… (all of the seat's roots in one cut). By AI agents, Wed Nov 11 2026. No macro, syntax, notation, axiom, sorry.
-/
import Derived.Test.YtcgdabiegpaadaaGreatDoorChecked
import GoSem.Claim
import GoSem.ClaimJoined
import GoSem.ClaimMapViews
import Derived.JoinedTies
import Derived.KernelRfl
namespace Go.Proofs.YtcgdabiegpaadaaGreatDoor
/- THE CELL 'sum', in the pinned program and in every row, IS THE sha256 OF THE DUMP (.gsa) THAT YtcgdabiegpaadaaGreatDoorProg.lean LOADS. Nothing in Lean hashes anything: it is a label: what it is worth is what the hold of that sum in a sandbox is worth. -/
noncomputable def Tryz.pinned : Pinned := { name := "ytcgdabiegpaadaagreatdoor", sum := "6822e4eee832803d1510d48c5e2c244299dc6e3a8a854938420ec84964193caa", checked := Tryz.checked }
namespace Rows
def none {H : Type} : Left H := { results := [], args := [] }

/- WHAT THE LISTED PACKAGE-LEVEL VARIABLES READ AS WHEN THE CALL BEGINS. Each datum BY PROGRAM (the guide's laid-datum.mjs) off the statement by which the dump's own 'gosem.cut.vars' lays the variable. In a bare row this is a premise. The card (YtcgdabiegpaadaaGreatDoorCards.lean) ties it to the program's text. -/
def laid_math_bits_deBruijn64tab {H : Type} : DataW H := .agg [.lit (.int .u8 0), .lit (.int .u8 1), .lit (.int .u8 56), .lit (.int .u8 2), .lit (.int .u8 57), .lit (.int .u8 49), .lit (.int .u8 28), .lit (.int .u8 3), .lit (.int .u8 61), .lit (.int .u8 58), .lit (.int .u8 42), .lit (.int .u8 50), .lit (.int .u8 38), .lit (.int .u8 29), .lit (.int .u8 17), .lit (.int .u8 4), .lit (.int .u8 62), .lit (.int .u8 47), .lit (.int .u8 59), .lit (.int .u8 36), .lit (.int .u8 45), .lit (.int .u8 43), .lit (.int .u8 51), .lit (.int .u8 22), .lit (.int .u8 53), .lit (.int .u8 39), .lit (.int .u8 33), .lit (.int .u8 30), .lit (.int .u8 24), .lit (.int .u8 18), .lit (.int .u8 12), .lit (.int .u8 5), .lit (.int .u8 63), .lit (.int .u8 55), .lit (.int .u8 48), .lit (.int .u8 27), .lit (.int .u8 60), .lit (.int .u8 41), .lit (.int .u8 37), .lit (.int .u8 16), .lit (.int .u8 46), .lit (.int .u8 35), .lit (.int .u8 44), .lit (.int .u8 21), .lit (.int .u8 52), .lit (.int .u8 32), .lit (.int .u8 23), .lit (.int .u8 11), .lit (.int .u8 54), .lit (.int .u8 26), .lit (.int .u8 40), .lit (.int .u8 15), .lit (.int .u8 34), .lit (.int .u8 20), .lit (.int .u8 31), .lit (.int .u8 10), .lit (.int .u8 25), .lit (.int .u8 14), .lit (.int .u8 19), .lit (.int .u8 9), .lit (.int .u8 13), .lit (.int .u8 8), .lit (.int .u8 7), .lit (.int .u8 6)]
def laid_wherry_isa_forms {H : Type} : DataW H := .agg [.agg [.lit (.string [110, 111, 112]), .lit (.string [45, 45, 45])], .agg [.lit (.string [115, 101, 116]), .lit (.string [114, 118, 45])], .agg [.lit (.string [97, 100, 100]), .lit (.string [114, 114, 45])], .agg [.lit (.string [115, 117, 98]), .lit (.string [114, 114, 45])], .agg [.lit (.string [99, 111, 112, 121]), .lit (.string [114, 114, 45])], .agg [.lit (.string [108, 101, 115, 115]), .lit (.string [114, 114, 114])], .agg [.lit (.string [106, 117, 109, 112]), .lit (.string [116, 45, 45])], .agg [.lit (.string [122, 101, 114, 111]), .lit (.string [114, 116, 45])], .agg [.lit (.string [108, 111, 111, 112]), .lit (.string [114, 116, 45])], .agg [.lit (.string [101, 110, 116, 101, 114]), .lit (.string [45, 45, 45])], .agg [.lit (.string [108, 101, 97, 118, 101]), .lit (.string [45, 45, 45])], .agg [.lit (.string [101, 120, 105, 116]), .lit (.string [114, 45, 45])], .agg [.lit (.string [121, 105, 101, 108, 100]), .lit (.string [45, 45, 45])], .agg [.lit (.string [115, 112, 97, 119, 110]), .lit (.string [112, 107, 114])], .agg [.lit (.string [106, 111, 105, 110]), .lit (.string [114, 45, 114])], .agg [.lit (.string [108, 111, 99, 107]), .lit (.string [111, 45, 45])], .agg [.lit (.string [117, 110, 108, 111, 99, 107]), .lit (.string [111, 45, 45])], .agg [.lit (.string [119, 97, 105, 116]), .lit (.string [111, 111, 45])], .agg [.lit (.string [115, 105, 103, 110, 97, 108]), .lit (.string [111, 45, 45])], .agg [.lit (.string [99, 97, 115, 116]), .lit (.string [111, 45, 45])], .agg [.lit (.string [100, 111, 119, 110]), .lit (.string [111, 45, 45])], .agg [.lit (.string [117, 112]), .lit (.string [111, 45, 45])], .agg [.lit (.string [115, 108, 101, 101, 112]), .lit (.string [110, 45, 45])], .agg [.lit (.string [114, 101, 97, 100]), .lit (.string [115, 45, 114])], .agg [.lit (.string [119, 114, 105, 116, 101]), .lit (.string [115, 45, 114])], .agg [.lit (.string [115, 101, 108, 102]), .lit (.string [45, 45, 114])], .agg [.lit (.string [116, 105, 109, 101]), .lit (.string [45, 45, 114])]]
def laid_wherry_life_from {H : Type} : DataW H := .agg [.lit (.int .i64 0), .lit (.int .i64 32), .lit (.int .i64 2), .lit (.int .i64 4), .lit (.int .i64 4), .lit (.int .i64 28)]
def laid_wherry_thread_toRun {H : Type} : DataW H := .agg [.lit (.int .i64 2), .lit (.int .i64 2)]
def laid_wherry_thread_toYield {H : Type} : DataW H := .agg [.lit (.int .i64 4), .lit (.int .i64 1)]
def laid_wherry_thread_toWait {H : Type} : DataW H := .agg [.lit (.int .i64 4), .lit (.int .i64 3)]
def laid_wherry_thread_toTrap {H : Type} : DataW H := .agg [.lit (.int .i64 4), .lit (.int .i64 4)]
def laid_wherry_thread_toWake {H : Type} : DataW H := .agg [.lit (.int .i64 24), .lit (.int .i64 1)]
def laid_wherry_thread_toBack {H : Type} : DataW H := .agg [.lit (.int .i64 16), .lit (.int .i64 2)]

/-- 'wherrylaw28.PlaceNone': WHATEVER THE INPUT: true; the input reads as it did. -/
def placeNoneSpec : ChangeSpec := { name := "placeNone", fn := fun _ => fun
  | [d] => { results := [.lit (.bool true)], args := [d] }
  | _ => none }
def placeNoneRow : OpenClaim := { program := "ytcgdabiegpaadaagreatdoor", sum := "6822e4eee832803d1510d48c5e2c244299dc6e3a8a854938420ec84964193caa", func := "wherry/wherrylaw28.PlaceNone", spec := "placeNone", inPlace := ["maps.clone", "internal/reflectlite.ValueOf", "internal/reflectlite.Swapper", "(internal/reflectlite.Value).Len"], unfollowed := true, recurses := true, named := ["wherry/thread.toWake", "wherry/life.from", "math/bits.deBruijn64tab", "wherry/thread.toYield", "wherry/thread.toRun", "wherry/isa.forms", "wherry/thread.toTrap", "wherry/thread.toWait", "wherry/thread.toBack"], plainKeys := false, apart := false, laid := [("math/bits.deBruijn64tab", laid_math_bits_deBruijn64tab), ("wherry/isa.forms", laid_wherry_isa_forms), ("wherry/life.from", laid_wherry_life_from), ("wherry/thread.toRun", laid_wherry_thread_toRun), ("wherry/thread.toYield", laid_wherry_thread_toYield), ("wherry/thread.toWait", laid_wherry_thread_toWait), ("wherry/thread.toTrap", laid_wherry_thread_toTrap), ("wherry/thread.toWake", laid_wherry_thread_toWake), ("wherry/thread.toBack", laid_wherry_thread_toBack)] }
def PlaceNoneSaid : Prop := placeNoneRow.holds Tryz.pinned (OpenSpec.ofChange placeNoneSpec)

/-- ITS FALSE NEIGHBOUR: 'it returns false'. Refute it at one input. -/
def placeNoneWrong : ChangeSpec := { name := "placeNone", fn := fun _ => fun
  | [d] => { results := [.lit (.bool false)], args := [d] }
  | _ => none }
def PlaceNoneWrongFalsely : Prop := placeNoneRow.holds Tryz.pinned (OpenSpec.ofChange placeNoneWrong)

/- THE SECOND FORM. 'bulk': how many values and letters a reading holds, each counted each time it is reached (what is shared counts as often as it is met; a slice's spare places count too). A statement '..UptoSaid' is the law's where the arguments, and the package variables that the reading takes, are together of bulk at most 1048576: NARROWER than '..Said'. Prove '..Said' where nothing that the law and all that it calls make is longer than what came in: it says more and counts as full. Else prove '..UptoSaid'. A law counts once. -/
mutual
def uptoBulk {H : Type} : DataW H → Nat
  | .lit (.string bytes) => bytes.length + 1
  | .lit _ => 1
  | .nil => 1
  | .ptr d => uptoBulk d + 1
  | .slice elems spare => uptoBulkAll elems + uptoBulkAll spare + 1
  | .agg parts => uptoBulkAll parts + 1
  | .iface _ d => uptoBulk d + 1
  | .map entries => uptoBulkEntries entries + 1
  | .held _ => 1
def uptoBulkAll {H : Type} : List (DataW H) → Nat
  | [] => 0
  | d :: r => uptoBulk d + uptoBulkAll r
def uptoBulkEntries {H : Type} : List (Lit × DataW H) → Nat
  | [] => 0
  | x :: r => uptoBulkEntry x + uptoBulkEntries r
def uptoBulkEntry {H : Type} : Lit × DataW H → Nat
  | (.string bytes, d) => bytes.length + uptoBulk d + 1
  | (_, d) => uptoBulk d + 1
 end
def uptoSmall : (H : Type) → List (DataW H) → Bool := fun _ ds => decide (uptoBulkAll ds ≤ 1048576)
def OpenSpec.upto (s : _root_.Go.ChangeSpec) : _root_.Go.OpenSpec := { _root_.Go.OpenSpec.ofChange s with cond := some uptoSmall }

/-- 'wherrylaw28.PlaceNone', WHERE WHAT IT READS IS OF BULK AT MOST 1048576: true; the input reads as it did. -/
def placeNoneUptoRow : OpenClaim := { program := "ytcgdabiegpaadaagreatdoor", sum := "6822e4eee832803d1510d48c5e2c244299dc6e3a8a854938420ec84964193caa", func := "wherry/wherrylaw28.PlaceNone", spec := "placeNone", inPlace := ["maps.clone", "internal/reflectlite.ValueOf", "internal/reflectlite.Swapper", "(internal/reflectlite.Value).Len"], unfollowed := true, recurses := true, named := ["wherry/thread.toWake", "wherry/life.from", "math/bits.deBruijn64tab", "wherry/thread.toYield", "wherry/thread.toRun", "wherry/isa.forms", "wherry/thread.toTrap", "wherry/thread.toWait", "wherry/thread.toBack"], plainKeys := false, apart := false, laid := [("math/bits.deBruijn64tab", laid_math_bits_deBruijn64tab), ("wherry/isa.forms", laid_wherry_isa_forms), ("wherry/life.from", laid_wherry_life_from), ("wherry/thread.toRun", laid_wherry_thread_toRun), ("wherry/thread.toYield", laid_wherry_thread_toYield), ("wherry/thread.toWait", laid_wherry_thread_toWait), ("wherry/thread.toTrap", laid_wherry_thread_toTrap), ("wherry/thread.toWake", laid_wherry_thread_toWake), ("wherry/thread.toBack", laid_wherry_thread_toBack)], narrowed := true }
def PlaceNoneUptoSaid : Prop := placeNoneUptoRow.holds Tryz.pinned (OpenSpec.upto placeNoneSpec)

end Rows
end Go.Proofs.YtcgdabiegpaadaaGreatDoor
