/- The law 'UserNone' holds for all arguments: the Go text returns true, whatever the world is that holds the listed tables as the program's text lays them (the card ties them); read off by a run that Lean's kernel carries out once, for all of them. No other conditions. The card speaks of a pruned copy of the project. -/
import Derived.Test.YtdeeennadfipeaaGreatDoorRows
import Derived.Test.YtdeeennadfipeaaGreatDoorTie
import Derived.Test.YtdeeennadfipeaaGreatDoorCards
import Derived.WalkKit
import Derived.ProofKit
import Derived.LaidMore
import Derived.OpenShut
import Derived.Stop.Joined
import Derived.SevenTiedAt
import Derived.KernelRfl
import Derived.Test.YtdeeennadfipeaaGreatDoorAbsD
namespace Go.Proofs.YtdeeennadfipeaaGreatDoor.userNone
open Go.ChangeShapes Go.WideShapes Go.ChangeAt Go.WideMaps Go.WideElems Go.RowKit

theorem own : ownKnob Tryz.prog.godebug = none := by kernel_rfl
theorem laidOut : laidOutB Tryz.prog = true := by kernel_rfl
theorem argCells : Tryz.prog.cellTypes Tryz.prog.depth 24 = some [3, 3, 3, 4, 22] := by kernel_rfl
theorem argSize : Tryz.prog.cellsOf 24 = 5 := by kernel_rfl
theorem argTypes : Tryz.f3.params.toList = [24] := by kernel_rfl
theorem argFirst : Tryz.f3.params[0]? = some 24 := by kernel_rfl
theorem resTypes : Tryz.f3.resultTypes = #[4] := by kernel_rfl
theorem noHandles : (Rows.userNoneRow.laid.filter fun x => x.2.handleName?.isSome) = [] := by kernel_rfl

theorem cut {l : List Value} (h : l.length = 5) : ∃ c0 c1 c2 c3 c4, l = [c0, c1, c2, c3, c4] := by
  match l, h with
  | [c0, c1, c2, c3, c4], _ => exact ⟨c0, c1, c2, c3, c4, rfl⟩

def cfg : Abs.Cfg := { mg := fun _ => false, known := fun _ => none, fuel := 100000 }

theorem known_ok (B : Nat) : Abs.KnownOK Tryz.prog B cfg := fun _ _ e => by cases e

set_option maxRecDepth 1000000 in
theorem run (x0 : Int) (x1 : Int) (x2 : Int) (x3 : Bool) (p4 : Option Addr) (n4 k4 : Nat) : ((Abs.callN Tryz.prog cfg 200 (.f 3) [.agg [.val (.int .i64 x0), .val (.int .i64 x1), .val (.int .i64 x2), .val (.bool x3), .val (.slice p4 n4 k4)]] (Abs.startL Tryz.prog.globals.size (Abs.laidTabs Tryz.prog Rows.userNoneRow.laid))).every 1000000000 Abs.isTrue) = true := by kernel_rfl

theorem walk (x0 : Int) (x1 : Int) (x2 : Int) (x3 : Bool) (p4 : Option Addr) (n4 k4 : Nat) (w : World) (hw : Abs.HasTabs Tryz.prog.globals.size (Abs.laidTabs Tryz.prog Rows.userNoneRow.laid) w) :
    Calls Tryz.prog 3 #[.agg #[.int .i64 x0, .int .i64 x1, .int .i64 x2, .bool x3, .slice p4 n4 k4]] w fun e w' => e = .returned (.bool true) ∧ Below w.heap.size w w' :=
  Abs.calls_trueL known_ok (fun _ _ h => Abs.region_any h) (fun _ => .cons (.agg (.cons (.val _) (.cons (.val _) (.cons (.val _) (.cons (.val _) (.cons (.val _) .nil)))))) .nil) (run x0 x1 x2 x3 p4 n4 k4) w hw

theorem readable : ∀ t ∈ Tryz.f3.params.toList, Tryz.prog.readableRec t = true ∧ t < Tryz.prog.types.size := by
  rw [argTypes]
  intro t ht
  rw [List.mem_singleton] at ht
  subst ht
  exact ⟨by kernel_rfl, Nat.le_of_ble_eq_true (by kernel_rfl)⟩

/-- The door's own heap meets the condition. -/
theorem door_met (os : Os) (args : Array Value) : laidMetH Tryz.prog Rows.userNoneRow.laid ((World.doorLaid Tryz.prog 400 os).forCall (fun _ _ => 0) ⟨#[], args, []⟩).memory :=
  laidMetH_of_parts3 (fuel := 8) (laidMet_of_run' 8 (by kernel_rfl) (by kernel_rfl)) (by kernel_rfl) (by kernel_rfl)

set_option maxRecDepth 100000 in
theorem lifted (os : Os) (started : os.Started) (H : Type) (enc : TypeId × Value → H) :
    ReturnsInHanded {} Tryz.checked os 3 .any (fun w args => (Rows.userNoneSpec.pre enc Tryz.prog Tryz.f3 [] false w args ∧ laidMetH Tryz.prog Rows.userNoneRow.laid w) ∧ sizedMet enc Tryz.prog Tryz.f3 (OpenSpec.ofChange Rows.userNoneSpec) false w args)
      (Rows.userNoneSpec.post enc Tryz.prog Tryz.f3 false true false false) := by
  refine returnsInHanded_of_change_and (C := Tryz.checked) (X := fun w _ => laidMetH Tryz.prog Rows.userNoneRow.laid w) (fun _ _ _ hh h => h.of_heap hh) own started (by kernel_rfl) Tryz.func3
    (ChangeSpec.witness_shaped (enc := enc) (C := Tryz.checked) (os := os) (X := fun w _ => laidMetH Tryz.prog Rows.userNoneRow.laid w) false (World.doorLaid Tryz.prog 400 os) #[.agg #[.int .i64 0, .int .i64 0, .int .i64 0, .bool false, .slice none 0 0]] 8 rfl (World.shaped_of_RefB (by kernel_rfl) (by kernel_rfl)) (by kernel_rfl) (by kernel_rfl) (by kernel_rfl) (door_met os _)) ?_
  intro W base args ds gs before hval0 hW0 _ _ hL _
  have hval : ∀ (j : Nat) t v, Tryz.f3.params[j]? = some t → args[j]? = some v → Value.okWide Tryz.prog W .any base t v := hval0
  have hW : DataW.Whole enc Tryz.prog Tryz.f3.params.toList Rows.userNoneSpec.vars false W args.toList ds gs before := hW0
  have hw := Abs.hasTabs_of_laid noHandles hL
  clear hval0 hW0 hL
  obtain ⟨v, d, hargs, rfl⟩ := Abs.one_arg (t := 24) argTypes hW
  subst hargs
  have hv : Value.okWide Tryz.prog W .any base 24 v := hval 0 24 v argFirst rfl
  obtain ⟨l, rfl, hl, hc⟩ := Abs.arg_struct hv Tryz.underlying24 argCells argSize
  obtain ⟨c0, c1, c2, c3, c4, rfl⟩ := cut hl
  obtain ⟨x0, rfl⟩ := Abs.cell_int (hc 0 c0 3 rfl rfl) Tryz.underlying3
  obtain ⟨x1, rfl⟩ := Abs.cell_int (hc 1 c1 3 rfl rfl) Tryz.underlying3
  obtain ⟨x2, rfl⟩ := Abs.cell_int (hc 2 c2 3 rfl rfl) Tryz.underlying3
  obtain ⟨x3, rfl⟩ := Abs.cell_bool (hc 3 c3 4 rfl rfl) Tryz.underlying4
  obtain ⟨p4, n4, k4, rfl⟩ := Abs.cell_slice (hc 4 c4 22 rfl rfl) Tryz.underlying22
  refine (walk x0 x1 x2 x3 p4 n4 k4 W hw).mono fun e W' h => ?_
  exact ⟨_, h.1, Abs.post_true hW rfl laidOut readable resTypes Tryz.underlying4 ⟨rfl, rfl, rfl⟩ h.2⟩

theorem over : Rows.UserNoneSaid :=
  OpenClaim.holds_of_wide 3 Tryz.f3 rfl rfl rfl rfl rfl rfl rfl ⟨rfl, rfl, rfl, rfl, rfl⟩ rfl rfl rfl rfl rfl (by kernel_rfl) Tryz.func3 (by kernel_rfl)
    (of_decide_eq_true (by kernel_rfl)) (by unfold Func.isWrapper; first | (rw [if_pos (by decide +kernel)]; kernel_rfl) | (rw [if_neg (by decide +kernel)]; exact ⟨rfl, rfl⟩))
    (fun os started H enc _ => lifted os started H enc)

/-- The statement: the tied card. -/
theorem proved : Rows.UserNoneCardSaid :=
  Claim7.holds_tied_plain_at .later [] [.data, .widerDeep, .data, .data, .data, .data, .data, .data] true (true, "4dd3092c4f2bfc77ae7e386e8ed2baf3c092e94c9ec66bab1fe7df9ce4630cc0") true
    over (fun _ h => by cases h) (by kernel_rfl) (fun _ h => by cases h) userNone_row_tie rfl ⟨rfl, rfl⟩ (by kernel_rfl) rfl
    (fun f fn hf hfn => by
      obtain rfl : f = 3 := Option.some.inj ((show Tryz.prog.funcNamed "wherry/wherrylaw24.UserNone" = some 3 by kernel_rfl).symm.trans hf) |>.symm
      obtain rfl : fn = Tryz.f3 := (Option.some.inj (Tryz.func3.symm.trans hfn)).symm
      exact ⟨by kernel_rfl, fun j t ht => by
        have hm : t ∈ Tryz.f3.params.toList := Array.mem_toList_iff.2 (Array.mem_of_getElem? ht)
        rw [argTypes, List.mem_singleton] at hm
        subst hm
        exact (show Tryz.prog.wantsStandIn 24 = false by kernel_rfl)⟩)
    (by kernel_rfl)
end Go.Proofs.YtdeeennadfipeaaGreatDoor.userNone
