/- The law 'UserQuanta' holds for all arguments: the Go text returns true, whatever the world is that holds the listed tables as the program's text lays them; read off by runs in parts that Lean's kernel carries out, with a number that is not known. No other conditions. The card speaks of a pruned copy of the project. -/
import Derived.Test.YtglofbfchdchcaaGreatDoorRows
import Derived.Test.YtglofbfchdchcaaGreatDoorTie
import Derived.Test.YtglofbfchdchcaaGreatDoorCards
import Derived.WalkKit
import Derived.ProofKit
import Derived.LaidMore
import Derived.OpenShut
import Derived.Stop.Joined
import Derived.SevenTiedAt
import Derived.KernelRfl
import Derived.Test.YtglofbfchdchcaaGreatDoorLivesT
import Derived.Test.YtglofbfchdchcaaGreatDoorLivesF
namespace Go.Proofs.YtglofbfchdchcaaGreatDoor.userQuanta
open Go.ChangeShapes Go.WideShapes Go.ChangeAt Go.WideMaps Go.WideElems Go.RowKit

theorem own : ownKnob Tryz.prog.godebug = none := by kernel_rfl
theorem laidOut : laidOutB Tryz.prog = true := by kernel_rfl
theorem argTypes : Tryz.f3.params.toList = [4, 5] := by kernel_rfl
theorem resTypes : Tryz.f3.resultTypes = #[4] := by kernel_rfl
theorem noHandles : (Rows.userQuantaRow.laid.filter fun x => x.2.handleName?.isSome) = [] := by kernel_rfl
theorem argNo0 : Tryz.f3.params[0]? = some 4 := by kernel_rfl
theorem argNo1 : Tryz.f3.params[1]? = some 5 := by kernel_rfl

theorem cutArgs {α : Type} {l : List α} (h : l.length = 2) : ∃ c0 c1, l = [c0, c1] := by
  match l, h with
  | [c0, c1], _ => exact ⟨c0, c1, rfl⟩

theorem walkT (x1 : Int) (h1 : Abs.kmin .u8 ≤ x1 ∧ x1 ≤ Abs.kmax .u8) (w : World) (hw : Abs.HasTabs Tryz.prog.globals.size (Abs.laidTabs Tryz.prog Rows.userQuantaRow.laid) w) :
    Calls Tryz.prog 3 #[.bool true, .int .u8 x1] w fun e w' => e = .returned (.bool true) ∧ Below w.heap.size w w' := by
  letI Fa : Abs.Facts := T.Fx
  letI Va : Abs.Vals := ⟨Abs.envOf [0, x1], Abs.pcOf_ok (env := Abs.envOf [0, x1]) (ks := [(1, .u8)]) ⟨h1, trivial⟩, Abs.envOf_mid (Abs.MidL.all ⟨Abs.mid_zero, Abs.mid_of h1, trivial⟩)⟩
  letI := T.loopsL
  letI := T.tameL
  exact Abs.calls_trueL (cfg := T.cfgL) (fun B => T.known_lives B) (fun _ _ h => Abs.region_any h) (fun _ => .cons (.val _) (.cons (.sx rfl) .nil)) T.run_lives w hw

theorem walkF (x1 : Int) (h1 : Abs.kmin .u8 ≤ x1 ∧ x1 ≤ Abs.kmax .u8) (w : World) (hw : Abs.HasTabs Tryz.prog.globals.size (Abs.laidTabs Tryz.prog Rows.userQuantaRow.laid) w) :
    Calls Tryz.prog 3 #[.bool false, .int .u8 x1] w fun e w' => e = .returned (.bool true) ∧ Below w.heap.size w w' := by
  letI Fa : Abs.Facts := F.Fx
  letI Va : Abs.Vals := ⟨Abs.envOf [0, x1], Abs.pcOf_ok (env := Abs.envOf [0, x1]) (ks := [(1, .u8)]) ⟨h1, trivial⟩, Abs.envOf_mid (Abs.MidL.all ⟨Abs.mid_zero, Abs.mid_of h1, trivial⟩)⟩
  letI := F.loopsL
  letI := F.tameL
  exact Abs.calls_trueL (cfg := F.cfgL) (fun B => F.known_lives B) (fun _ _ h => Abs.region_any h) (fun _ => .cons (.val _) (.cons (.sx rfl) .nil)) F.run_lives w hw

theorem walk (x0 : Bool) (x1 : Int) (h1 : Abs.kmin .u8 ≤ x1 ∧ x1 ≤ Abs.kmax .u8) (w : World) (hw : Abs.HasTabs Tryz.prog.globals.size (Abs.laidTabs Tryz.prog Rows.userQuantaRow.laid) w) :
    Calls Tryz.prog 3 #[.bool x0, .int .u8 x1] w fun e w' => e = .returned (.bool true) ∧ Below w.heap.size w w' := by
  cases x0
  · exact walkF x1 h1 w hw
  · exact walkT x1 h1 w hw

theorem readable : ∀ t ∈ Tryz.f3.params.toList, Tryz.prog.readableRec t = true ∧ t < Tryz.prog.types.size := by
  rw [argTypes]
  intro t ht
  simp only [List.mem_cons, List.not_mem_nil, or_false] at ht
  rcases ht with rfl | rfl
  · exact ⟨by kernel_rfl, Nat.le_of_ble_eq_true (by kernel_rfl)⟩
  · exact ⟨by kernel_rfl, Nat.le_of_ble_eq_true (by kernel_rfl)⟩

/-- The door's own heap meets the condition. -/
theorem door_met (os : Os) (args : Array Value) : laidMetH Tryz.prog Rows.userQuantaRow.laid ((World.doorLaid Tryz.prog 400 os).forCall (fun _ _ => 0) ⟨#[], args, []⟩).memory :=
  laidMetH_of_parts3 (fuel := 8) (laidMet_of_run' 8 (by kernel_rfl) (by kernel_rfl)) (by kernel_rfl) (by kernel_rfl)

set_option maxRecDepth 100000 in
theorem lifted (os : Os) (started : os.Started) (H : Type) (enc : TypeId × Value → H) :
    ReturnsInHanded {} Tryz.checked os 3 .any (fun w args => (Rows.userQuantaSpec.pre enc Tryz.prog Tryz.f3 [] false w args ∧ laidMetH Tryz.prog Rows.userQuantaRow.laid w) ∧ sizedMet enc Tryz.prog Tryz.f3 (OpenSpec.ofChange Rows.userQuantaSpec) false w args)
      (Rows.userQuantaSpec.post enc Tryz.prog Tryz.f3 false true false false) := by
  refine returnsInHanded_of_change_and (C := Tryz.checked) (X := fun w _ => laidMetH Tryz.prog Rows.userQuantaRow.laid w) (fun _ _ _ hh h => h.of_heap hh) own started (by kernel_rfl) Tryz.func3
    (ChangeSpec.witness_shaped (enc := enc) (C := Tryz.checked) (os := os) (X := fun w _ => laidMetH Tryz.prog Rows.userQuantaRow.laid w) false (World.doorLaid Tryz.prog 400 os) #[.bool false, .int .u8 0] 8 rfl (World.shaped_of_RefB (by kernel_rfl) (by kernel_rfl)) (by kernel_rfl) (by kernel_rfl) (by kernel_rfl) (door_met os _)) ?_
  intro W base args ds gs before hval0 hW0 _ _ hL _
  have hval : ∀ (j : Nat) t v, Tryz.f3.params[j]? = some t → args[j]? = some v → Value.okWide Tryz.prog W .any base t v := hval0
  have hW : DataW.Whole enc Tryz.prog Tryz.f3.params.toList Rows.userQuantaSpec.vars false W args.toList ds gs before := hW0
  have hw := Abs.hasTabs_of_laid noHandles hL
  clear hval0 hW0 hL
  obtain ⟨⟨la, rfl, hla⟩, hds⟩ := Abs.args_length (n := 2) (by rw [argTypes]; rfl) hW
  obtain ⟨v0, v1, rfl⟩ := cutArgs hla
  obtain ⟨d0, d1, rfl⟩ := cutArgs hds
  obtain ⟨x0, rfl⟩ := Abs.arg_bool (hval 0 4 v0 argNo0 rfl) Tryz.underlying4
  obtain ⟨x1, rfl, h1⟩ := Abs.arg_mid (hval 1 5 v1 argNo1 rfl) Tryz.underlying5
  refine (walk x0 x1 h1 W hw).mono fun e W' h => ?_
  exact ⟨_, h.1, Abs.post_true hW rfl laidOut readable resTypes Tryz.underlying4 ⟨rfl, rfl, rfl⟩ h.2⟩

theorem over : Rows.UserQuantaSaid :=
  OpenClaim.holds_of_wide 3 Tryz.f3 rfl rfl rfl rfl rfl rfl rfl ⟨rfl, rfl, rfl, rfl, rfl⟩ rfl rfl rfl rfl rfl (by kernel_rfl) Tryz.func3 (by kernel_rfl)
    (of_decide_eq_true (by kernel_rfl)) (by unfold Func.isWrapper; first | (rw [if_pos (by decide +kernel)]; kernel_rfl) | (rw [if_neg (by decide +kernel)]; exact ⟨rfl, rfl⟩))
    (fun os started H enc _ => lifted os started H enc)

/-- The statement: the tied card. -/
theorem proved : Rows.UserQuantaCardSaid :=
  Claim7.holds_tied_plain_at .later [] [.data, .widerDeep, .data, .data, .data, .data, .data] true (true, "5c83e073994757007ab6532b87e4314645928e15727313e889788029d9370bd5") false
    over (fun _ h => by cases h) (by kernel_rfl) (fun _ h => by cases h) userQuanta_row_tie rfl ⟨rfl, rfl⟩ (by kernel_rfl) rfl
    (fun f fn hf hfn => by
      obtain rfl : f = 3 := Option.some.inj ((show Tryz.prog.funcNamed "wherry/wherrylaw24.UserQuanta" = some 3 by kernel_rfl).symm.trans hf) |>.symm
      obtain rfl : fn = Tryz.f3 := (Option.some.inj (Tryz.func3.symm.trans hfn)).symm
      exact ⟨by kernel_rfl, fun j t ht => by
        have hm : t ∈ Tryz.f3.params.toList := Array.mem_toList_iff.2 (Array.mem_of_getElem? ht)
        rw [argTypes] at hm
        simp only [List.mem_cons, List.not_mem_nil, or_false] at hm
        rcases hm with rfl | rfl
        · exact (show Tryz.prog.wantsStandIn 4 = false by kernel_rfl)
        · exact (show Tryz.prog.wantsStandIn 5 = false by kernel_rfl)⟩)
    (by kernel_rfl)
end Go.Proofs.YtglofbfchdchcaaGreatDoor.userQuanta
