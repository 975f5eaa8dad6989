/- The law 'ScriptNone' holds for all arguments: the Go text returns true, whatever the world is that holds the listed tables as the program's text lays them; read off by runs that Lean's kernel carries out, with a number that is not known. No other conditions. The card speaks of a pruned copy of the project. -/
import Derived.Test.YthmikgalfkmpfaaGreatDoorRows
import Derived.Test.YthmikgalfkmpfaaGreatDoorTie
import Derived.Test.YthmikgalfkmpfaaGreatDoorCards
import Derived.WalkKit
import Derived.ProofKit
import Derived.LaidMore
import Derived.OpenShut
import Derived.Stop.Joined
import Derived.SevenTiedAt
import Derived.KernelRfl
import Derived.Test.YthmikgalfkmpfaaGreatDoorLives
import Derived.Test.YthmikgalfkmpfaaGreatDoorFacts
namespace Go.Proofs.YthmikgalfkmpfaaGreatDoor.scriptNone
open Go.ChangeShapes Go.WideShapes Go.ChangeAt Go.WideMaps Go.WideElems Go.RowKit

theorem own : ownKnob Tryz.prog.godebug = none := by kernel_rfl
theorem laidOut : laidOutB Tryz.prog = true := by kernel_rfl
theorem argTypes : Tryz.f3.params.toList = [3] := by kernel_rfl
theorem resTypes : Tryz.f3.resultTypes = #[4] := by kernel_rfl
theorem noHandles : (Rows.scriptNoneRow.laid.filter fun x => x.2.handleName?.isSome) = [] := by kernel_rfl
theorem argNo0 : Tryz.f3.params[0]? = some 3 := by kernel_rfl

theorem cutArgs {α : Type} {l : List α} (h : l.length = 1) : ∃ c0, l = [c0] := by
  match l, h with
  | [c0], _ => exact ⟨c0, rfl⟩

def pcI (d : Bool) : List (Abs.SB × Bool) := (.le (.var 0) (.lit 1000), d) :: Abs.pcOf [(0, .i64)]
@[reducible] def FI (d : Bool) : Abs.Facts := ⟨pcI d⟩
noncomputable def cfgI (d : Bool) : Abs.Cfg := letI := FI d; { mg := fun _ => false, known := Abs.knowTrue 4 L.isTab, fuel := 100000 }
theorem tab_lt : ∀ p ∈ L.isTab, p.1 < Tryz.prog.globals.size :=
  fun p hp => Nat.le_of_ble_eq_true (List.all_eq_true.1 (show (L.isTab.all fun p => Nat.ble (p.1 + 1) Tryz.prog.globals.size) = true by kernel_rfl) p hp)

set_option maxRecDepth 1000000
theorem run_law (d : Bool) : ((letI := FI d; letI := Abs.noLoops; Abs.callN Tryz.prog (cfgI d) 200 (.f 3) [.sx .i64 (.var 0)] (Abs.startL Tryz.prog.globals.size L.isTab)).every 1000000000 Abs.isTrue) = true := by
  cases d <;> kernel_rfl

theorem known_law (d : Bool) (V : @Abs.Vals (FI d)) (B : Nat) : @Abs.KnownOK (FI d) V Abs.noLoops Tryz.prog B (cfgI d) :=
  letI := FI d
  letI := V
  letI := Abs.noLoops
  Abs.know_okM (L.tameL (V := Abs.V0)) (g := 4) (n := 200) (N := 1000000000) (tabs := L.isTab) (fun _ => Abs.noLoops_ok) (fun B => L.known_lives (V := Abs.V0) B) (fun _ _ h => Abs.region_any h) tab_lt L.run_lives (cfgI d) rfl B

theorem walkD (d : Bool) (x0 : Int) (h0 : Abs.kmin .i64 ≤ x0 ∧ x0 ≤ Abs.kmax .i64) (hd : decide (x0 ≤ 1000) = d) (w : World) (hw : Abs.HasTabs Tryz.prog.globals.size L.isTab w) :
    Calls Tryz.prog 3 #[.int .i64 x0] w fun e w' => e = .returned (.bool true) ∧ Below w.heap.size w w' := by
  letI Fa : Abs.Facts := FI d
  letI Va : Abs.Vals := ⟨Abs.envOf [x0], (fun p hp => by
    rcases List.mem_cons.1 hp with rfl | hp
    · exact hd
    · exact Abs.pcOf_ok (env := Abs.envOf [x0]) (ks := [(0, .i64)]) ⟨h0, trivial⟩ p hp), Abs.envOf_mid (Abs.MidL.all ⟨Abs.mid_of h0, trivial⟩)⟩
  letI := Abs.noLoops
  letI : Abs.TameL := Abs.noTame
  exact Abs.calls_trueL (cfg := cfgI d) (fun B => known_law d Va B) (fun _ _ h => Abs.region_any h) (fun _ => .cons (.sx rfl) .nil) (run_law d) w hw

theorem walk (x0 : Int) (h0 : Abs.kmin .i64 ≤ x0 ∧ x0 ≤ Abs.kmax .i64) (w : World) (hw : Abs.HasTabs Tryz.prog.globals.size L.isTab w) :
    Calls Tryz.prog 3 #[.int .i64 x0] w fun e w' => e = .returned (.bool true) ∧ Below w.heap.size w w' :=
  walkD _ x0 h0 rfl w hw

theorem readable : ∀ t ∈ Tryz.f3.params.toList, Tryz.prog.readableRec t = true ∧ t < Tryz.prog.types.size := by
  rw [argTypes]
  intro t ht
  simp only [List.mem_cons, List.not_mem_nil, or_false] at ht
  subst ht
  exact ⟨by kernel_rfl, Nat.le_of_ble_eq_true (by kernel_rfl)⟩

/-- The door's own heap meets the condition. -/
theorem door_met (os : Os) (args : Array Value) : laidMetH Tryz.prog Rows.scriptNoneRow.laid ((World.doorLaid Tryz.prog 400 os).forCall (fun _ _ => 0) ⟨#[], args, []⟩).memory :=
  laidMetH_of_parts3 (fuel := 8) (laidMet_of_run' 8 (by kernel_rfl) (by kernel_rfl)) (by kernel_rfl) (by kernel_rfl)

set_option maxRecDepth 100000 in
theorem lifted (os : Os) (started : os.Started) (H : Type) (enc : TypeId × Value → H) :
    ReturnsInHanded {} Tryz.checked os 3 .any (fun w args => (Rows.scriptNoneSpec.pre enc Tryz.prog Tryz.f3 [] false w args ∧ laidMetH Tryz.prog Rows.scriptNoneRow.laid w) ∧ sizedMet enc Tryz.prog Tryz.f3 (OpenSpec.ofChange Rows.scriptNoneSpec) false w args)
      (Rows.scriptNoneSpec.post enc Tryz.prog Tryz.f3 false true false false) := by
  refine returnsInHanded_of_change_and (C := Tryz.checked) (X := fun w _ => laidMetH Tryz.prog Rows.scriptNoneRow.laid w) (fun _ _ _ hh h => h.of_heap hh) own started (by kernel_rfl) Tryz.func3
    (ChangeSpec.witness_shaped (enc := enc) (C := Tryz.checked) (os := os) (X := fun w _ => laidMetH Tryz.prog Rows.scriptNoneRow.laid w) false (World.doorLaid Tryz.prog 400 os) #[.int .i64 0] 8 rfl (World.shaped_of_RefB (by kernel_rfl) (by kernel_rfl)) (by kernel_rfl) (by kernel_rfl) (by kernel_rfl) (door_met os _)) ?_
  intro W base args ds gs before hval0 hW0 _ _ hL _
  have hval : ∀ (j : Nat) t v, Tryz.f3.params[j]? = some t → args[j]? = some v → Value.okWide Tryz.prog W .any base t v := hval0
  have hW : DataW.Whole enc Tryz.prog Tryz.f3.params.toList Rows.scriptNoneSpec.vars false W args.toList ds gs before := hW0
  have hw := Abs.hasTabs_of_laid noHandles hL
  clear hval0 hW0 hL
  obtain ⟨⟨la, rfl, hla⟩, hds⟩ := Abs.args_length (n := 1) (by rw [argTypes]; rfl) hW
  obtain ⟨v0, rfl⟩ := cutArgs hla
  obtain ⟨d0, rfl⟩ := cutArgs hds
  obtain ⟨x0, rfl, h0⟩ := Abs.arg_mid (hval 0 3 v0 argNo0 rfl) Tryz.underlying3
  refine (walk x0 h0 W hw).mono fun e W' h => ?_
  exact ⟨_, h.1, Abs.post_true hW rfl laidOut readable resTypes Tryz.underlying4 ⟨rfl, rfl, rfl⟩ h.2⟩

theorem funcIs : Tryz.prog.funcNamed "wherry/wherrylaw31.ScriptNone" = some 3 := by kernel_rfl
theorem isInst : decide (Tryz.f3.isInstance Tryz.pinned.checked.prog Rows.scriptNoneRow.origin Rows.scriptNoneRow.targs) = true := by kernel_rfl

theorem over : Rows.ScriptNoneSaid :=
  OpenClaim.holds_of_wide 3 Tryz.f3 rfl rfl rfl rfl rfl rfl rfl ⟨rfl, rfl, rfl, rfl, rfl⟩ rfl rfl rfl rfl rfl funcIs Tryz.func3 facts
    (of_decide_eq_true isInst) (by unfold Func.isWrapper; first | (rw [if_pos (by decide +kernel)]; kernel_rfl) | (rw [if_neg (by decide +kernel)]; exact ⟨rfl, rfl⟩))
    (fun os started H enc _ => lifted os started H enc)

/-- The statement: the tied card. -/
theorem proved : Rows.ScriptNoneCardSaid :=
  Claim7.holds_tied_plain_at .later [] [.data, .widerDeep, .data, .data, .data, .data, .data, .data, .data] true (true, "4f6f2817e92f678a521e7477ac73332b0cd92c1ef33f10418c9716b2615239ec") true
    over (fun _ h => by cases h) factWf (fun _ h => by cases h) scriptNone_row_tie rfl ⟨rfl, rfl⟩ (by kernel_rfl) rfl
    (fun f fn hf hfn => by
      obtain rfl : f = 3 := Option.some.inj (funcIs.symm.trans hf) |>.symm
      obtain rfl : fn = Tryz.f3 := (Option.some.inj (Tryz.func3.symm.trans hfn)).symm
      exact ⟨factLooks, fun j t ht => by
        have hm : t ∈ Tryz.f3.params.toList := Array.mem_toList_iff.2 (Array.mem_of_getElem? ht)
        rw [argTypes] at hm
        simp only [List.mem_cons, List.not_mem_nil, or_false] at hm
        subst hm
        exact (show Tryz.prog.wantsStandIn 3 = false by kernel_rfl)⟩)
    factGoes
end Go.Proofs.YthmikgalfkmpfaaGreatDoor.scriptNone
