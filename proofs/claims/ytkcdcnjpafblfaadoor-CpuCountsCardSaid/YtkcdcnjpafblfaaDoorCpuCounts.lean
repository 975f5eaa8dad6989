/- The law 'CpuCounts' holds for all arguments: the Go text returns true, whatever the world is that holds the listed tables as the program's text lays them; read off by runs that Lean's kernel carries out: each round of the loop in 'Run' from any numbers that may stand there, and an induction over the rounds. No other conditions. The card speaks of a pruned copy of the project. -/
import Derived.Test.YtkcdcnjpafblfaaDoorRows
import Derived.Test.YtkcdcnjpafblfaaDoorTie
import Derived.Test.YtkcdcnjpafblfaaDoorCards
import Derived.WalkKit
import Derived.ProofKit
import Derived.LaidMore
import Derived.OpenShut
import Derived.Stop.Joined
import Derived.SevenTiedAt
import Derived.KernelRfl
import Derived.Test.YtkcdcnjpafblfaaDoorCounts
namespace Go.Proofs.YtkcdcnjpafblfaaDoor.cpuCounts
open Go.ChangeShapes Go.WideShapes Go.ChangeAt Go.WideMaps Go.WideElems Go.RowKit

theorem own : ownKnob Tryd.prog.godebug = none := by kernel_rfl
theorem laidOut : laidOutB Tryd.prog = true := by kernel_rfl
theorem argTypes : Tryd.f5.params.toList = [5] := by kernel_rfl
theorem resTypes : Tryd.f5.resultTypes = #[4] := by kernel_rfl
theorem noHandles : (Rows.cpuCountsRow.laid.filter fun x => x.2.handleName?.isSome) = [] := by kernel_rfl
theorem argNo0 : Tryd.f5.params[0]? = some 5 := by kernel_rfl


theorem cutArgs {α : Type} {l : List α} (h : l.length = 1) : ∃ c0, l = [c0] := by
  match l, h with
  | [c0], _ => exact ⟨c0, rfl⟩

theorem readable : ∀ t ∈ Tryd.f5.params.toList, Tryd.prog.readableRec t = true ∧ t < Tryd.prog.types.size := by
  rw [argTypes]
  intro t ht
  simp only [List.mem_cons, List.not_mem_nil, or_false] at ht
  rcases ht with rfl
  · exact ⟨by kernel_rfl, Nat.le_of_ble_eq_true (by kernel_rfl)⟩

/-- The door's own heap meets the condition. -/
theorem door_met (os : Os) (args : Array Value) : laidMetH Tryd.prog Rows.cpuCountsRow.laid ((World.doorLaid Tryd.prog 400 os).forCall (fun _ _ => 0) ⟨#[], args, []⟩).memory :=
  laidMetH_of_parts3 (fuel := 8) (laidMet_of_run' 8 (by kernel_rfl) (by kernel_rfl)) (by kernel_rfl) (by kernel_rfl)

set_option maxRecDepth 100000 in
theorem lifted (os : Os) (started : os.Started) (H : Type) (enc : TypeId × Value → H) :
    ReturnsInHanded {} Tryd.checked os 5 .any (fun w args => (Rows.cpuCountsSpec.pre enc Tryd.prog Tryd.f5 [] false w args ∧ laidMetH Tryd.prog Rows.cpuCountsRow.laid w) ∧ sizedMet enc Tryd.prog Tryd.f5 (OpenSpec.ofChange Rows.cpuCountsSpec) false w args)
      (Rows.cpuCountsSpec.post enc Tryd.prog Tryd.f5 false true false false) := by
  refine returnsInHanded_of_change_and (C := Tryd.checked) (X := fun w _ => laidMetH Tryd.prog Rows.cpuCountsRow.laid w) (fun _ _ _ hh h => h.of_heap hh) own started (by kernel_rfl) Tryd.func5
    (ChangeSpec.witness_shaped (enc := enc) (C := Tryd.checked) (os := os) (X := fun w _ => laidMetH Tryd.prog Rows.cpuCountsRow.laid w) false (World.doorLaid Tryd.prog 400 os) #[.int .u8 0] 8 rfl (World.shaped_of_RefB (by kernel_rfl) (by kernel_rfl)) (by kernel_rfl) (by kernel_rfl) (by kernel_rfl) (door_met os _)) ?_
  intro W base args ds gs before hval0 hW0 _ _ hL _
  have hval : ∀ (j : Nat) t v, Tryd.f5.params[j]? = some t → args[j]? = some v → Value.okWide Tryd.prog W .any base t v := hval0
  have hW : DataW.Whole enc Tryd.prog Tryd.f5.params.toList Rows.cpuCountsSpec.vars false W args.toList ds gs before := hW0
  have hw := Abs.hasTabs_of_laid noHandles hL
  clear hval0 hW0 hL
  obtain ⟨⟨la, rfl, hla⟩, hds⟩ := Abs.args_length (n := 1) (by rw [argTypes]; rfl) hW
  obtain ⟨v0, rfl⟩ := cutArgs hla
  obtain ⟨d0, rfl⟩ := cutArgs hds
  obtain ⟨x0, rfl, h0⟩ := Abs.arg_mid (hval 0 5 v0 argNo0 rfl) Tryd.underlying5
  refine (walk x0 h0 W hw).mono fun e W' h => ?_
  exact ⟨_, h.1, Abs.post_true hW rfl laidOut readable resTypes Tryd.underlying4 ⟨rfl, rfl, rfl⟩ h.2⟩

theorem over : Rows.CpuCountsSaid :=
  OpenClaim.holds_of_wide 5 Tryd.f5 rfl rfl rfl rfl rfl rfl rfl ⟨rfl, rfl, rfl, rfl, rfl⟩ rfl rfl rfl rfl rfl (by kernel_rfl) Tryd.func5 (by kernel_rfl)
    (of_decide_eq_true (by kernel_rfl)) (by unfold Func.isWrapper; first | (rw [if_pos (by decide +kernel)]; kernel_rfl) | (rw [if_neg (by decide +kernel)]; exact ⟨rfl, rfl⟩))
    (fun os started H enc _ => lifted os started H enc)

/-- The statement: the tied card. -/
theorem proved : Rows.CpuCountsCardSaid :=
  Claim7.holds_tied_plain_at .later [] [.widerDeep] true (true, "b266be6e87342516e553df64f1946c29b299cfcbcc99c3a37e6af7d67ac74141") false
    over (fun _ h => by cases h) (by kernel_rfl) (fun _ h => by cases h) cpuCounts_row_tie rfl ⟨rfl, rfl⟩ (by kernel_rfl) rfl
    (fun f fn hf hfn => by
      obtain rfl : f = 5 := Option.some.inj ((show Tryd.prog.funcNamed "wherry/wherrylaw13.CpuCounts" = some 5 by kernel_rfl).symm.trans hf) |>.symm
      obtain rfl : fn = Tryd.f5 := (Option.some.inj (Tryd.func5.symm.trans hfn)).symm
      exact ⟨by kernel_rfl, fun j t ht => by
        have hm : t ∈ Tryd.f5.params.toList := Array.mem_toList_iff.2 (Array.mem_of_getElem? ht)
        rw [argTypes] at hm
        simp only [List.mem_cons, List.not_mem_nil, or_false] at hm
        rcases hm with rfl
        · exact (show Tryd.prog.wantsStandIn 5 = false by kernel_rfl)⟩)
    (by kernel_rfl)
end Go.Proofs.YtkcdcnjpafblfaaDoor.cpuCounts
