/- The law 'KernelNone' holds for all arguments: the Go text returns true, whatever the world is that holds the listed tables as the program's text lays them (the card ties them); read off by a run that Lean's kernel carries out once, for all of them. No other conditions. The card speaks of a pruned copy of the project. -/
import Derived.Test.YtgkajhmdaaedmaaGreatDoorRows
import Derived.Test.YtgkajhmdaaedmaaGreatDoorTie
import Derived.Test.YtgkajhmdaaedmaaGreatDoorCards
import Derived.WalkKit
import Derived.ProofKit
import Derived.LaidMore
import Derived.OpenShut
import Derived.Stop.Joined
import Derived.SevenTiedAt
import Derived.KernelRfl
import Derived.Test.YtgkajhmdaaedmaaGreatDoorLives
namespace Go.Proofs.YtgkajhmdaaedmaaGreatDoor.kernelNone
open Go.ChangeShapes Go.WideShapes Go.ChangeAt Go.WideMaps Go.WideElems Go.RowKit

theorem own : ownKnob Tryz.prog.godebug = none := by kernel_rfl
theorem laidOut : laidOutB Tryz.prog = true := by kernel_rfl
theorem argCells : Tryz.prog.cellTypes Tryz.prog.depth 27 = some [3, 3, 3, 3, 3, 3, 3, 3, 3, 3, 3, 3, 3, 3, 3, 3, 25] := by kernel_rfl
theorem argSize : Tryz.prog.cellsOf 27 = 17 := by kernel_rfl
theorem argTypes : Tryz.f3.params.toList = [27] := by kernel_rfl
theorem argFirst : Tryz.f3.params[0]? = some 27 := by kernel_rfl
theorem resTypes : Tryz.f3.resultTypes = #[4] := by kernel_rfl
theorem noHandles : (Rows.kernelNoneRow.laid.filter fun x => x.2.handleName?.isSome) = [] := by kernel_rfl

theorem cut {l : List Value} (h : l.length = 17) : ∃ c0 c1 c2 c3 c4 c5 c6 c7 c8 c9 c10 c11 c12 c13 c14 c15 c16, l = [c0, c1, c2, c3, c4, c5, c6, c7, c8, c9, c10, c11, c12, c13, c14, c15, c16] := by
  match l, h with
  | [c0, c1, c2, c3, c4, c5, c6, c7, c8, c9, c10, c11, c12, c13, c14, c15, c16], _ => exact ⟨c0, c1, c2, c3, c4, c5, c6, c7, c8, c9, c10, c11, c12, c13, c14, c15, c16, rfl⟩

noncomputable def cfg : Abs.Cfg := { mg := fun _ => false, known := Abs.knowTrue 32 isTab, fuel := 100000 }

theorem tab_lt : ∀ p ∈ isTab, p.1 < Tryz.prog.globals.size :=
  fun p hp => Nat.le_of_ble_eq_true (List.all_eq_true.1 (show (isTab.all fun p => Nat.ble (p.1 + 1) Tryz.prog.globals.size) = true by kernel_rfl) p hp)

theorem known_ok (B : Nat) : letI := Abs.F0; letI := Abs.V0; letI := Abs.noLoops; Abs.KnownOK Tryz.prog B cfg :=
  letI := Abs.F0; letI := Abs.V0; letI := Abs.noLoops
  Abs.know_okM tameL (g := 32) (n := 200) (N := 1000000000) (tabs := isTab) (fun _ => Abs.noLoops_ok) known_lives (fun _ _ h => Abs.region_any h) tab_lt run_lives cfg rfl B

set_option maxRecDepth 1000000 in
theorem run (x0 : Int) (x1 : Int) (x2 : Int) (x3 : Int) (x4 : Int) (x5 : Int) (x6 : Int) (x7 : Int) (x8 : Int) (x9 : Int) (x10 : Int) (x11 : Int) (x12 : Int) (x13 : Int) (x14 : Int) (x15 : Int) (p16 : Option Addr) (n16 k16 : Nat) : ((letI := Abs.F0; letI := Abs.noLoops; Abs.callN Tryz.prog cfg 200 (.f 3) [.agg [.val (.int .i64 x0), .val (.int .i64 x1), .val (.int .i64 x2), .val (.int .i64 x3), .val (.int .i64 x4), .val (.int .i64 x5), .val (.int .i64 x6), .val (.int .i64 x7), .val (.int .i64 x8), .val (.int .i64 x9), .val (.int .i64 x10), .val (.int .i64 x11), .val (.int .i64 x12), .val (.int .i64 x13), .val (.int .i64 x14), .val (.int .i64 x15), .val (.slice p16 n16 k16)]] (Abs.startL Tryz.prog.globals.size isTab)).every 1000000000 Abs.isTrue) = true := by kernel_rfl

theorem walk (x0 : Int) (x1 : Int) (x2 : Int) (x3 : Int) (x4 : Int) (x5 : Int) (x6 : Int) (x7 : Int) (x8 : Int) (x9 : Int) (x10 : Int) (x11 : Int) (x12 : Int) (x13 : Int) (x14 : Int) (x15 : Int) (p16 : Option Addr) (n16 k16 : Nat) (w : World) (hw : Abs.HasTabs Tryz.prog.globals.size isTab w) :
    Calls Tryz.prog 3 #[.agg #[.int .i64 x0, .int .i64 x1, .int .i64 x2, .int .i64 x3, .int .i64 x4, .int .i64 x5, .int .i64 x6, .int .i64 x7, .int .i64 x8, .int .i64 x9, .int .i64 x10, .int .i64 x11, .int .i64 x12, .int .i64 x13, .int .i64 x14, .int .i64 x15, .slice p16 n16 k16]] w fun e w' => e = .returned (.bool true) ∧ Below w.heap.size w w' :=
  letI := Abs.F0; letI := Abs.V0; letI := Abs.noLoops
  Abs.calls_trueL known_ok (fun _ _ h => Abs.region_any h) (fun _ => .cons (.agg (.cons (.val _) (.cons (.val _) (.cons (.val _) (.cons (.val _) (.cons (.val _) (.cons (.val _) (.cons (.val _) (.cons (.val _) (.cons (.val _) (.cons (.val _) (.cons (.val _) (.cons (.val _) (.cons (.val _) (.cons (.val _) (.cons (.val _) (.cons (.val _) (.cons (.val _) .nil)))))))))))))))))) .nil) (run x0 x1 x2 x3 x4 x5 x6 x7 x8 x9 x10 x11 x12 x13 x14 x15 p16 n16 k16) w hw

theorem readable : ∀ t ∈ Tryz.f3.params.toList, Tryz.prog.readableRec t = true ∧ t < Tryz.prog.types.size := by
  rw [argTypes]
  intro t ht
  rw [List.mem_singleton] at ht
  subst ht
  exact ⟨by kernel_rfl, Nat.le_of_ble_eq_true (by kernel_rfl)⟩

/-- The door's own heap meets the condition. -/
theorem door_met (os : Os) (args : Array Value) : laidMetH Tryz.prog Rows.kernelNoneRow.laid ((World.doorLaid Tryz.prog 400 os).forCall (fun _ _ => 0) ⟨#[], args, []⟩).memory :=
  laidMetH_of_parts3 (fuel := 8) (laidMet_of_run' 8 (by kernel_rfl) (by kernel_rfl)) (by kernel_rfl) (by kernel_rfl)

set_option maxRecDepth 100000 in
theorem lifted (os : Os) (started : os.Started) (H : Type) (enc : TypeId × Value → H) :
    ReturnsInHanded {} Tryz.checked os 3 .any (fun w args => (Rows.kernelNoneSpec.pre enc Tryz.prog Tryz.f3 [] false w args ∧ laidMetH Tryz.prog Rows.kernelNoneRow.laid w) ∧ sizedMet enc Tryz.prog Tryz.f3 (OpenSpec.ofChange Rows.kernelNoneSpec) false w args)
      (Rows.kernelNoneSpec.post enc Tryz.prog Tryz.f3 false true false false) := by
  refine returnsInHanded_of_change_and (C := Tryz.checked) (X := fun w _ => laidMetH Tryz.prog Rows.kernelNoneRow.laid w) (fun _ _ _ hh h => h.of_heap hh) own started (by kernel_rfl) Tryz.func3
    (ChangeSpec.witness_shaped (enc := enc) (C := Tryz.checked) (os := os) (X := fun w _ => laidMetH Tryz.prog Rows.kernelNoneRow.laid w) false (World.doorLaid Tryz.prog 400 os) #[.agg #[.int .i64 0, .int .i64 0, .int .i64 0, .int .i64 0, .int .i64 0, .int .i64 0, .int .i64 0, .int .i64 0, .int .i64 0, .int .i64 0, .int .i64 0, .int .i64 0, .int .i64 0, .int .i64 0, .int .i64 0, .int .i64 0, .slice none 0 0]] 8 rfl (World.shaped_of_RefB (by kernel_rfl) (by kernel_rfl)) (by kernel_rfl) (by kernel_rfl) (by kernel_rfl) (door_met os _)) ?_
  intro W base args ds gs before hval0 hW0 _ _ hL _
  have hval : ∀ (j : Nat) t v, Tryz.f3.params[j]? = some t → args[j]? = some v → Value.okWide Tryz.prog W .any base t v := hval0
  have hW : DataW.Whole enc Tryz.prog Tryz.f3.params.toList Rows.kernelNoneSpec.vars false W args.toList ds gs before := hW0
  have hw := Abs.hasTabs_of_laid noHandles hL
  clear hval0 hW0 hL
  obtain ⟨v, d, hargs, rfl⟩ := Abs.one_arg (t := 27) argTypes hW
  subst hargs
  have hv : Value.okWide Tryz.prog W .any base 27 v := hval 0 27 v argFirst rfl
  obtain ⟨l, rfl, hl, hc⟩ := Abs.arg_struct hv Tryz.underlying27 argCells argSize
  obtain ⟨c0, c1, c2, c3, c4, c5, c6, c7, c8, c9, c10, c11, c12, c13, c14, c15, c16, rfl⟩ := cut hl
  obtain ⟨x0, rfl⟩ := Abs.cell_int (hc 0 c0 3 rfl rfl) Tryz.underlying3
  obtain ⟨x1, rfl⟩ := Abs.cell_int (hc 1 c1 3 rfl rfl) Tryz.underlying3
  obtain ⟨x2, rfl⟩ := Abs.cell_int (hc 2 c2 3 rfl rfl) Tryz.underlying3
  obtain ⟨x3, rfl⟩ := Abs.cell_int (hc 3 c3 3 rfl rfl) Tryz.underlying3
  obtain ⟨x4, rfl⟩ := Abs.cell_int (hc 4 c4 3 rfl rfl) Tryz.underlying3
  obtain ⟨x5, rfl⟩ := Abs.cell_int (hc 5 c5 3 rfl rfl) Tryz.underlying3
  obtain ⟨x6, rfl⟩ := Abs.cell_int (hc 6 c6 3 rfl rfl) Tryz.underlying3
  obtain ⟨x7, rfl⟩ := Abs.cell_int (hc 7 c7 3 rfl rfl) Tryz.underlying3
  obtain ⟨x8, rfl⟩ := Abs.cell_int (hc 8 c8 3 rfl rfl) Tryz.underlying3
  obtain ⟨x9, rfl⟩ := Abs.cell_int (hc 9 c9 3 rfl rfl) Tryz.underlying3
  obtain ⟨x10, rfl⟩ := Abs.cell_int (hc 10 c10 3 rfl rfl) Tryz.underlying3
  obtain ⟨x11, rfl⟩ := Abs.cell_int (hc 11 c11 3 rfl rfl) Tryz.underlying3
  obtain ⟨x12, rfl⟩ := Abs.cell_int (hc 12 c12 3 rfl rfl) Tryz.underlying3
  obtain ⟨x13, rfl⟩ := Abs.cell_int (hc 13 c13 3 rfl rfl) Tryz.underlying3
  obtain ⟨x14, rfl⟩ := Abs.cell_int (hc 14 c14 3 rfl rfl) Tryz.underlying3
  obtain ⟨x15, rfl⟩ := Abs.cell_int (hc 15 c15 3 rfl rfl) Tryz.underlying3
  obtain ⟨p16, n16, k16, rfl⟩ := Abs.cell_slice (hc 16 c16 25 rfl rfl) Tryz.underlying25
  refine (walk x0 x1 x2 x3 x4 x5 x6 x7 x8 x9 x10 x11 x12 x13 x14 x15 p16 n16 k16 W hw).mono fun e W' h => ?_
  exact ⟨_, h.1, Abs.post_true hW rfl laidOut readable resTypes Tryz.underlying4 ⟨rfl, rfl, rfl⟩ h.2⟩

theorem over : Rows.KernelNoneSaid :=
  OpenClaim.holds_of_wide 3 Tryz.f3 rfl rfl rfl rfl rfl rfl rfl ⟨rfl, rfl, rfl, rfl, rfl⟩ rfl rfl rfl rfl rfl (by kernel_rfl) Tryz.func3 (by kernel_rfl)
    (of_decide_eq_true (by kernel_rfl)) (by unfold Func.isWrapper; first | (rw [if_pos (by decide +kernel)]; kernel_rfl) | (rw [if_neg (by decide +kernel)]; exact ⟨rfl, rfl⟩))
    (fun os started H enc _ => lifted os started H enc)

/-- The statement: the tied card. -/
theorem proved : Rows.KernelNoneCardSaid :=
  Claim7.holds_tied_plain_at .later [] [.data, .data] true (true, "44f07bbe015b1b84136d0c858b41e5a2c92ebf9f8a68f5c41d111e8c8d327a00") true
    over (fun _ h => by cases h) (by kernel_rfl) (fun _ h => by cases h) kernelNone_row_tie rfl ⟨rfl, rfl⟩ (by kernel_rfl) rfl
    (fun f fn hf hfn => by
      obtain rfl : f = 3 := Option.some.inj ((show Tryz.prog.funcNamed "wherry/wherrylaw25.KernelNone" = some 3 by kernel_rfl).symm.trans hf) |>.symm
      obtain rfl : fn = Tryz.f3 := (Option.some.inj (Tryz.func3.symm.trans hfn)).symm
      exact ⟨by kernel_rfl, fun j t ht => by
        have hm : t ∈ Tryz.f3.params.toList := Array.mem_toList_iff.2 (Array.mem_of_getElem? ht)
        rw [argTypes, List.mem_singleton] at hm
        subst hm
        exact (show Tryz.prog.wantsStandIn 27 = false by kernel_rfl)⟩)
    (by kernel_rfl)
end Go.Proofs.YtgkajhmdaaedmaaGreatDoor.kernelNone
