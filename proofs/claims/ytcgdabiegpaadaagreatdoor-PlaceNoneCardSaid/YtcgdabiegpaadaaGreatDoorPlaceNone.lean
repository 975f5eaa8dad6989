/- The law 'PlaceNone' holds for all arguments: the Go text returns true, whatever the world is that holds the listed tables as the program's text lays them; read off by a run that Lean's kernel carries out once, for all of them. No other conditions. The card speaks of a pruned copy of the project. -/
import Derived.Test.YtcgdabiegpaadaaGreatDoorRows
import Derived.Test.YtcgdabiegpaadaaGreatDoorTie
import Derived.Test.YtcgdabiegpaadaaGreatDoorCards
import Derived.WalkKit
import Derived.ProofKit
import Derived.LaidMore
import Derived.OpenShut
import Derived.Stop.Joined
import Derived.SevenTiedAt
import Derived.KernelRfl
import Derived.Test.YtcgdabiegpaadaaGreatDoorLives
import Derived.Test.YtcgdabiegpaadaaGreatDoorFacts
namespace Go.Proofs.YtcgdabiegpaadaaGreatDoor.placeNone
open Go.ChangeShapes Go.WideShapes Go.ChangeAt Go.WideMaps Go.WideElems Go.RowKit

theorem own : ownKnob Tryz.prog.godebug = none := by kernel_rfl
theorem laidOut : laidOutB Tryz.prog = true := by kernel_rfl
theorem argTypes : Tryz.f3.params.toList = [22] := by kernel_rfl
theorem resTypes : Tryz.f3.resultTypes = #[4] := by kernel_rfl
theorem noHandles : (Rows.placeNoneRow.laid.filter fun x => x.2.handleName?.isSome) = [] := by kernel_rfl
theorem argCells0 : Tryz.prog.cellTypes Tryz.prog.depth 22 = some [3, 3] := by kernel_rfl
theorem argSize0 : Tryz.prog.cellsOf 22 = 2 := by kernel_rfl
theorem cut0 {α : Type} {l : List α} (h : l.length = 2) : ∃ c0 c1, l = [c0, c1] := by
  match l, h with
  | [c0, c1], _ => exact ⟨c0, c1, rfl⟩
theorem argNo0 : Tryz.f3.params[0]? = some 22 := by kernel_rfl

theorem cutArgs {α : Type} {l : List α} (h : l.length = 1) : ∃ d0, l = [d0] := by
  match l, h with
  | [d0], _ => exact ⟨d0, rfl⟩

@[reducible] def FI : Abs.Facts := ⟨Abs.pcOf [(0, .i64), (1, .i64)]⟩
noncomputable def cfgI : Abs.Cfg := letI := FI; { mg := fun g => Nat.beq g 18 || Nat.beq g 58 || Nat.beq g 60 || Nat.beq g 335 || Nat.beq g 1000171, known := Abs.knowTrue 11 L.isTab, fuel := 100000 }
theorem tab_lt : ∀ p ∈ L.isTab, p.1 < Tryz.prog.globals.size :=
  fun p hp => Nat.le_of_ble_eq_true (List.all_eq_true.1 (show (L.isTab.all fun p => Nat.ble (p.1 + 1) Tryz.prog.globals.size) = true by kernel_rfl) p hp)

set_option maxRecDepth 1000000
theorem run_law  : ((letI := FI; letI := Abs.noLoops; Abs.callN Tryz.prog cfgI 200 (.f 3) [.agg [.sx .i64 (.var 0), .sx .i64 (.var 1)]] (Abs.startL Tryz.prog.globals.size L.isTab)).every 1000000000 Abs.isTrue) = true := by
  kernel_rfl

theorem known_law (V : @Abs.Vals FI) (B : Nat) : @Abs.KnownOK FI V Abs.noLoops Tryz.prog B cfgI :=
  letI := FI
  letI := V
  letI := Abs.noLoops
  Abs.know_okM (L.tameL (V := Abs.V0)) (g := 11) (n := 200) (N := 1000000000) (tabs := L.isTab) (fun _ => Abs.noLoops_ok) (fun B => L.known_lives (V := Abs.V0) B) (fun _ _ h => Abs.region_any h) tab_lt L.run_lives cfgI rfl B

theorem walk (x0 : Int) (x1 : Int) (h0 : Abs.kmin .i64 ≤ x0 ∧ x0 ≤ Abs.kmax .i64) (h1 : Abs.kmin .i64 ≤ x1 ∧ x1 ≤ Abs.kmax .i64) (w : World) (hw : Abs.HasTabs Tryz.prog.globals.size L.isTab w) :
    Calls Tryz.prog 3 #[.agg ⟨[.int .i64 x0, .int .i64 x1]⟩] w fun e w' => e = .returned (.bool true) ∧ Below w.heap.size w w' := by
  letI Fa : Abs.Facts := FI
  letI Va : Abs.Vals := ⟨Abs.envOf [x0, x1], Abs.pcOf_ok (env := Abs.envOf [x0, x1]) (ks := [(0, .i64), (1, .i64)]) ⟨h0, ⟨h1, trivial⟩⟩, Abs.envOf_mid (Abs.MidL.all ⟨Abs.mid_of h0, ⟨Abs.mid_of h1, trivial⟩⟩)⟩
  letI := Abs.noLoops
  letI : Abs.TameL := Abs.noTame
  exact Abs.calls_trueL (cfg := cfgI) (fun B => known_law Va B) (fun _ _ h => Abs.region_any h) (fun _ => .cons (.agg (.cons (.sx rfl) (.cons (.sx rfl) .nil))) .nil) (run_law ) w hw

theorem readable : ∀ t ∈ Tryz.f3.params.toList, Tryz.prog.readableRec t = true ∧ t < Tryz.prog.types.size := by
  rw [argTypes]
  intro t ht
  simp only [List.mem_cons, List.not_mem_nil, or_false] at ht
  rcases ht with rfl
  · exact ⟨by kernel_rfl, Nat.le_of_ble_eq_true (by kernel_rfl)⟩

/-- The door's own heap meets the condition. -/
theorem door_met (os : Os) (args : Array Value) : laidMetH Tryz.prog Rows.placeNoneRow.laid ((World.doorLaid Tryz.prog 400 os).forCall (fun _ _ => 0) ⟨#[], args, []⟩).memory :=
  laidMetH_of_parts3 (fuel := 8) (laidMet_of_run' 8 (by kernel_rfl) (by kernel_rfl)) (by kernel_rfl) (by kernel_rfl)

set_option maxRecDepth 100000 in
theorem lifted (os : Os) (started : os.Started) (H : Type) (enc : TypeId × Value → H) :
    ReturnsInHanded {} Tryz.checked os 3 .any (fun w args => (Rows.placeNoneSpec.pre enc Tryz.prog Tryz.f3 [] false w args ∧ laidMetH Tryz.prog Rows.placeNoneRow.laid w) ∧ sizedMet enc Tryz.prog Tryz.f3 (OpenSpec.ofChange Rows.placeNoneSpec) false w args)
      (Rows.placeNoneSpec.post enc Tryz.prog Tryz.f3 false true false false) := by
  refine returnsInHanded_of_change_and (C := Tryz.checked) (X := fun w _ => laidMetH Tryz.prog Rows.placeNoneRow.laid w) (fun _ _ _ hh h => h.of_heap hh) own started (by kernel_rfl) Tryz.func3
    (ChangeSpec.witness_shaped (enc := enc) (C := Tryz.checked) (os := os) (X := fun w _ => laidMetH Tryz.prog Rows.placeNoneRow.laid w) false (World.doorLaid Tryz.prog 400 os) #[.agg #[.int .i64 0, .int .i64 0]] 8 rfl (World.shaped_of_RefB (by kernel_rfl) (by kernel_rfl)) (by kernel_rfl) (by kernel_rfl) (by kernel_rfl) (door_met os _)) ?_
  intro W base args ds gs before hval0 hW0 _ _ hL _
  have hval : ∀ (j : Nat) t v, Tryz.f3.params[j]? = some t → args[j]? = some v → Value.okWide Tryz.prog W .any base t v := hval0
  have hW : DataW.Whole enc Tryz.prog Tryz.f3.params.toList Rows.placeNoneSpec.vars false W args.toList ds gs before := hW0
  have hw := Abs.hasTabs_of_laid noHandles hL
  clear hval0 hW0 hL
  obtain ⟨⟨la, rfl, hla⟩, hds⟩ := Abs.args_length (n := 1) (by rw [argTypes]; rfl) hW
  obtain ⟨v0, rfl⟩ := cutArgs hla
  obtain ⟨d0, rfl⟩ := cutArgs hds
  obtain ⟨l0, rfl, hl0, hc0⟩ := Abs.arg_array (hval 0 22 v0 argNo0 rfl) Tryz.underlying22 argCells0 argSize0
  obtain ⟨c0, c1, rfl⟩ := cut0 hl0
  obtain ⟨x0, rfl, h0⟩ := Abs.cell_mid (hc0 0 c0 3 rfl rfl) Tryz.underlying3
  obtain ⟨x1, rfl, h1⟩ := Abs.cell_mid (hc0 1 c1 3 rfl rfl) Tryz.underlying3
  refine (walk x0 x1 h0 h1 W hw).mono fun e W' h => ?_
  exact ⟨_, h.1, Abs.post_true hW rfl laidOut readable resTypes Tryz.underlying4 ⟨rfl, rfl, rfl⟩ h.2⟩

theorem funcIs : Tryz.prog.funcNamed "wherry/wherrylaw28.PlaceNone" = some 3 := by kernel_rfl
theorem isInst : decide (Tryz.f3.isInstance Tryz.pinned.checked.prog Rows.placeNoneRow.origin Rows.placeNoneRow.targs) = true := by kernel_rfl

theorem over : Rows.PlaceNoneSaid :=
  OpenClaim.holds_of_wide 3 Tryz.f3 rfl rfl rfl rfl rfl rfl rfl ⟨rfl, rfl, rfl, rfl, rfl⟩ rfl rfl rfl rfl rfl funcIs Tryz.func3 facts
    (of_decide_eq_true isInst) (by unfold Func.isWrapper; first | (rw [if_pos (by decide +kernel)]; kernel_rfl) | (rw [if_neg (by decide +kernel)]; exact ⟨rfl, rfl⟩))
    (fun os started H enc _ => lifted os started H enc)

/-- The statement: the tied card. -/
theorem proved : Rows.PlaceNoneCardSaid :=
  Claim7.holds_tied_plain_at .later [] [.data, .widerDeep, .data, .data, .data, .data, .data, .data, .data] true (true, "a7117e1a64a7806e088584ce3c257487c4bcfb748f00b30ce67d80ad10247ef2") true
    over (fun _ h => by cases h) factWf (fun _ h => by cases h) placeNone_row_tie rfl ⟨rfl, rfl⟩ (by kernel_rfl) rfl
    (fun f fn hf hfn => by
      obtain rfl : f = 3 := Option.some.inj (funcIs.symm.trans hf) |>.symm
      obtain rfl : fn = Tryz.f3 := (Option.some.inj (Tryz.func3.symm.trans hfn)).symm
      exact ⟨factLooks, fun j t ht => by
        have hm : t ∈ Tryz.f3.params.toList := Array.mem_toList_iff.2 (Array.mem_of_getElem? ht)
        rw [argTypes] at hm
        simp only [List.mem_cons, List.not_mem_nil, or_false] at hm
        rcases hm with rfl
        · exact (show Tryz.prog.wantsStandIn 22 = false by kernel_rfl)⟩)
    factGoes
end Go.Proofs.YtcgdabiegpaadaaGreatDoor.placeNone
