/- The law 'WheelNone' holds for all arguments: the Go text returns true, whatever the world is; read off by a run that Lean's kernel carries out once, for all of them. No conditions. -/
import Derived.Test.YtaliacnncemneaaRows
import Derived.WalkKit
import Derived.ProofKit
import Derived.OpenShut
import Derived.KernelRfl
import Derived.Test.YtaliacnncemneaaAbsD
namespace Go.Proofs.Ytaliacnncemneaa.wheelNone
open Go.ChangeShapes Go.WideShapes Go.ChangeAt Go.RowKit

theorem own : ownKnob Try.prog.godebug = none := by kernel_rfl
theorem laidOut : laidOutB Try.prog = true := by kernel_rfl
theorem cellTypes39 : Try.prog.cellTypes Try.prog.depth 39 = some [3, 3, 3] := by kernel_rfl
theorem cells39 : Try.prog.cellsOf 39 = 3 := by kernel_rfl

def cfg : Abs.Cfg := { mg := fun _ => false, known := fun _ => none, fuel := 100000 }

theorem known_ok (B : Nat) : Abs.KnownOK Try.prog B cfg := fun _ _ e => by cases e

set_option maxRecDepth 1000000 in
theorem run (x0 x1 x2 : Int) : ((Abs.callN Try.prog cfg 200 (.f 5) [.agg [.val (.int .i64 x0), .val (.int .i64 x1), .val (.int .i64 x2)]] (Abs.start Try.prog.globals.size)).every 1000000000 Abs.isTrue) = true := by kernel_rfl

theorem walk (x0 x1 x2 : Int) (w : World) :
    Calls Try.prog 5 #[.agg #[.int .i64 x0, .int .i64 x1, .int .i64 x2]] w fun e w' => e = .returned (.bool true) ∧ Below w.heap.size w w' :=
  Abs.calls_true known_ok (fun _ _ h => Abs.region_any h) (fun _ => .cons (.agg (.cons (.val _) (.cons (.val _) (.cons (.val _) .nil)))) .nil) (run x0 x1 x2) w

theorem readable : ∀ t ∈ Try.f5.params.toList, Try.prog.readableRec t = true ∧ t < Try.prog.types.size := by
  rw [show Try.f5.params.toList = [39] from by kernel_rfl]
  intro t ht
  rw [List.mem_singleton] at ht
  subst ht
  exact ⟨by kernel_rfl, Nat.le_of_ble_eq_true (by kernel_rfl)⟩

theorem params5 : Try.f5.params.toList = [39] := by kernel_rfl
theorem params5' : Try.f5.params[0]? = some 39 := by kernel_rfl
theorem results5 : Try.f5.resultTypes = #[4] := by kernel_rfl

set_option maxRecDepth 100000 in
theorem lifted (os : Os) (started : os.Started) (H : Type) (enc : TypeId × Value → H) :
    ReturnsInHanded {} Try.checked os 5 .any (Rows.wheelNoneSpec.pre6 enc Try.prog Try.f5 Rows.wheelNoneRow.domain false) (Rows.wheelNoneSpec.post enc Try.prog Try.f5 false true false false) := by
  refine returnsInHanded_of_change (C := Try.checked) own started (by kernel_rfl) Try.func5
    (ChangeSpec.witness6 (enc := enc) (C := Try.checked) false ⟨#[], #[.agg #[.int .i64 0, .int .i64 0, .int .i64 0]], []⟩ 8 (by kernel_rfl) (by kernel_rfl) (by kernel_rfl) (by kernel_rfl)) ?_
  intro W base args ds gs before hval0 hW0 hcnd _
  have hval : ∀ (j : Nat) t v, Try.f5.params[j]? = some t → args[j]? = some v → Value.okWide Try.prog W .any base t v := hval0
  have hW : DataW.Whole enc Try.prog Try.f5.params.toList Rows.wheelNoneSpec.vars false W args.toList ds gs before := hW0
  clear hval0 hW0
  obtain ⟨v, d, hargs, rfl⟩ := Abs.one_arg (t := 39) params5 hW
  subst hargs
  have hv : Value.okWide Try.prog W .any base 39 v := hval 0 39 v params5' rfl
  obtain ⟨l, rfl, hl, hc⟩ := Abs.arg_struct hv Try.underlying39 cellTypes39 cells39
  obtain ⟨c0, c1, c2, rfl⟩ := Abs.len3 hl
  obtain ⟨x0, rfl⟩ := Abs.cell_int (hc 0 c0 3 rfl rfl) Try.underlying3
  obtain ⟨x1, rfl⟩ := Abs.cell_int (hc 1 c1 3 rfl rfl) Try.underlying3
  obtain ⟨x2, rfl⟩ := Abs.cell_int (hc 2 c2 3 rfl rfl) Try.underlying3
  refine (walk x0 x1 x2 W).mono fun e W' h => ?_
  exact ⟨_, h.1, Abs.post_true hW rfl laidOut readable results5 Try.underlying4 ⟨rfl, rfl, rfl⟩ h.2⟩

theorem over : Rows.wheelNoneRow.holds Try.pinned (OpenSpec.ofChange Rows.wheelNoneSpec) :=
  OpenClaim.holds_of_wide 5 Try.f5 rfl rfl rfl rfl rfl rfl rfl ⟨rfl, rfl, rfl, rfl, rfl⟩ rfl rfl rfl rfl rfl (by kernel_rfl) Try.func5 (by kernel_rfl)
    (of_decide_eq_true (by kernel_rfl)) (by unfold Func.isWrapper; first | (rw [if_pos (by decide +kernel)]; kernel_rfl) | (rw [if_neg (by decide +kernel)]; exact ⟨rfl, rfl⟩))
    (fun os started H enc _ => lifted os started H enc)

/-- The statement. -/
theorem proved : Rows.WheelNoneSaid :=
  over
end Go.Proofs.Ytaliacnncemneaa.wheelNone
