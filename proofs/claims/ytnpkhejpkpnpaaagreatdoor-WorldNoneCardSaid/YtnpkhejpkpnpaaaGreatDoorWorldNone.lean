/- The law 'WorldNone' holds for all arguments: the Go text returns true, whatever the world is that holds the listed tables as the program's text lays them, and whatever list of programs the act holds; read off by runs that Lean's kernel carries out, and an induction over the rounds of 'light'. No other conditions. The card speaks of a pruned copy of the project. -/
import Derived.Test.YtnpkhejpkpnpaaaGreatDoorRows
import Derived.Test.YtnpkhejpkpnpaaaGreatDoorTie
import Derived.Test.YtnpkhejpkpnpaaaGreatDoorCards
import Derived.WalkKit
import Derived.ProofKit
import Derived.LaidMore
import Derived.OpenShut
import Derived.Stop.Joined
import Derived.SevenTiedAt
import Derived.KernelRfl
import Derived.Test.YtnpkhejpkpnpaaaGreatDoorLight
import Derived.Test.YtnpkhejpkpnpaaaGreatDoorFacts
namespace Go.Proofs.YtnpkhejpkpnpaaaGreatDoor.worldNone
open Go.ChangeShapes Go.WideShapes Go.ChangeAt Go.WideMaps Go.WideElems Go.RowKit

theorem own : ownKnob Tryz.prog.godebug = none := by kernel_rfl
theorem laidOut : laidOutB Tryz.prog = true := by kernel_rfl
theorem argTypes : Tryz.f3.params.toList = [24] := by kernel_rfl
theorem resTypes : Tryz.f3.resultTypes = #[4] := by kernel_rfl
theorem noHandles : (Rows.worldNoneRow.laid.filter fun x => x.2.handleName?.isSome) = [] := by kernel_rfl
theorem argNo0 : Tryz.f3.params[0]? = some 24 := by kernel_rfl
theorem argCells0 : Tryz.prog.cellTypes Tryz.prog.depth 24 = some [3, 3, 3, 22] := by kernel_rfl
theorem argSize0 : Tryz.prog.cellsOf 24 = 4 := by kernel_rfl
theorem listSize : Tryz.prog.cellsOf 22 = 1 := by kernel_rfl
theorem elemSize : Tryz.prog.cellsOf 52 = 1 := by kernel_rfl
theorem elemKinds : Abs.kindsA Tryz.prog 52 = some [.s] := by kernel_rfl
theorem actField : ∃ fs f, Tryz.prog.underlying 24 = some (.struct fs) ∧ fs[3]? = some f ∧ f.type = 22 ∧ f.offset = 3 := ⟨_, _, Tryz.underlying24, rfl, rfl, rfl⟩

theorem cutArgs {α : Type} {l : List α} (h : l.length = 1) : ∃ c0, l = [c0] := by
  match l, h with
  | [c0], _ => exact ⟨c0, rfl⟩
theorem cut4 {α : Type} {l : List α} (h : l.length = 4) : ∃ c0 c1 c2 c3, l = [c0, c1, c2, c3] := by
  match l, h with
  | [c0, c1, c2, c3], _ => exact ⟨c0, c1, c2, c3, rfl⟩

/-- What the act's list of programs may be. -/
theorem list_in {H : Type} {enc : TypeId × Value → H} {W : World} {c0 c1 c2 c3 : Value} {ds gs : List (DataW H)} {before : List MemPlace} (hW : DataW.Whole enc Tryz.prog Tryz.f3.params.toList Rows.worldNoneSpec.vars false W [.agg ⟨[c0, c1, c2, c3]⟩] ds gs before) :
    (∃ p c, c3 = .slice p 0 c) ∨ ∃ (b o len cap : Nat) (row : Nat → Nat → Int) (arr : Array Value) (el : TypeId) (fz : Nat × Nat), c3 = .slice (some ⟨b, o, none⟩) len cap ∧ 0 < len ∧ len ≤ cap ∧ (len : Int) ≤ 9223372036854775807 ∧
      W.heap[b]? = some (.cells arr el fz) ∧ o + len * [Abs.CK.s].length ≤ arr.size ∧ (∀ (r c : Nat) (k : Abs.CK), r < len → [Abs.CK.s][c]? = some k → ∃ x, arr[o + (r * [Abs.CK.s].length + c)]? = some x ∧ Abs.CKv k (row r c) x) ∧ ∀ r c, Abs.In64 (row r c) := by
  obtain ⟨p, q, hA, _⟩ := hW
  rw [argTypes] at hA
  obtain ⟨v0, vs0, d0, ds0, p0, q0, h1, rfl, rfl, h0, r0⟩ := trodAll_cons hA
  cases h1
  obtain ⟨fs, f, hu, hf, ht, ho⟩ := actField
  obtain ⟨fuel, y, h⟩ := Abs.field_trod h0 hu hf
  rw [ht, ho, listSize] at h
  have h : DataW.trod enc Tryz.prog W 0 (fun _ => true) true fuel 22 [c3] = some y := h
  rcases Abs.slice_rows Tryz.underlying22 elemKinds elemSize (by decide) h with ⟨p, c, e⟩ | ⟨b, o, len, cap, row, arr, el, fz, e, g⟩
  · cases e; exact .inl ⟨p, c, rfl⟩
  · cases e; exact .inr ⟨b, o, len, cap, row, arr, el, fz, rfl, g⟩

theorem readable : ∀ t ∈ Tryz.f3.params.toList, Tryz.prog.readableRec t = true ∧ t < Tryz.prog.types.size := by
  rw [argTypes]
  intro t ht
  simp only [List.mem_cons, List.not_mem_nil, or_false] at ht
  subst ht
  · exact ⟨by kernel_rfl, Nat.le_of_ble_eq_true (by kernel_rfl)⟩

/-- The door's own heap meets the condition. -/
theorem door_met (os : Os) (args : Array Value) : laidMetH Tryz.prog Rows.worldNoneRow.laid ((World.doorLaid Tryz.prog 400 os).forCall (fun _ _ => 0) ⟨#[], args, []⟩).memory :=
  laidMetH_of_parts3 (fuel := 8) (laidMet_of_run' 8 (by kernel_rfl) (by kernel_rfl)) (by kernel_rfl) (by kernel_rfl)

set_option maxRecDepth 100000 in
theorem lifted (os : Os) (started : os.Started) (H : Type) (enc : TypeId × Value → H) :
    ReturnsInHanded {} Tryz.checked os 3 .any (fun w args => (Rows.worldNoneSpec.pre enc Tryz.prog Tryz.f3 [] false w args ∧ laidMetH Tryz.prog Rows.worldNoneRow.laid w) ∧ sizedMet enc Tryz.prog Tryz.f3 (OpenSpec.ofChange Rows.worldNoneSpec) false w args)
      (Rows.worldNoneSpec.post enc Tryz.prog Tryz.f3 false true false false) := by
  refine returnsInHanded_of_change_and (C := Tryz.checked) (X := fun w _ => laidMetH Tryz.prog Rows.worldNoneRow.laid w) (fun _ _ _ hh h => h.of_heap hh) own started (by kernel_rfl) Tryz.func3
    (ChangeSpec.witness_shaped (enc := enc) (C := Tryz.checked) (os := os) (X := fun w _ => laidMetH Tryz.prog Rows.worldNoneRow.laid w) false (World.doorLaid Tryz.prog 400 os) #[.agg #[.int .i64 0, .int .i64 0, .int .i64 0, .slice none 0 0]] 8 rfl (World.shaped_of_RefB (by kernel_rfl) (by kernel_rfl)) (by kernel_rfl) (by kernel_rfl) (by kernel_rfl) (door_met os _)) ?_
  intro W base args ds gs before hval0 hW0 _ _ hL _
  have hval : ∀ (j : Nat) t v, Tryz.f3.params[j]? = some t → args[j]? = some v → Value.okWide Tryz.prog W .any base t v := hval0
  have hW : DataW.Whole enc Tryz.prog Tryz.f3.params.toList Rows.worldNoneSpec.vars false W args.toList ds gs before := hW0
  have hw := Abs.hasTabs_of_laid noHandles hL
  clear hval0 hW0 hL
  obtain ⟨⟨la, rfl, hla⟩, hds⟩ := Abs.args_length (n := 1) (by rw [argTypes]; rfl) hW
  obtain ⟨v0, rfl⟩ := cutArgs hla
  obtain ⟨d0, rfl⟩ := cutArgs hds
  obtain ⟨l0, rfl, hl0, hc0⟩ := Abs.arg_struct (hval 0 24 v0 argNo0 rfl) Tryz.underlying24 argCells0 argSize0
  obtain ⟨c0, c1, c2, c3, rfl⟩ := cut4 hl0
  obtain ⟨x0, rfl, h0⟩ := Abs.cell_mid (hc0 0 c0 3 rfl rfl) Tryz.underlying3
  obtain ⟨x1, rfl, h1⟩ := Abs.cell_mid (hc0 1 c1 3 rfl rfl) Tryz.underlying3
  obtain ⟨x2, rfl, h2⟩ := Abs.cell_mid (hc0 2 c2 3 rfl rfl) Tryz.underlying3
  have hcall : Calls Tryz.prog 3 (vArgs x0 x1 x2 c3) W fun e w' => e = .returned (.bool true) ∧ Below W.heap.size W w' := by
    rcases list_in hW with ⟨p, c, rfl⟩ | ⟨b, o, len, cap, row, arr, el, fz, rfl, _, g1, g2, g3, g4, g5, g6⟩
    · exact walk0 h0 h1 h2 p c W hw
    · exact walkN h0 h1 h2 g1 g2 g3 g4 g5 g6 hw
  refine hcall.mono fun e W' h => ?_
  exact ⟨_, h.1, Abs.post_true hW rfl laidOut readable resTypes Tryz.underlying4 ⟨rfl, rfl, rfl⟩ h.2⟩

theorem funcIs : Tryz.prog.funcNamed "wherry/wherrylaw26.WorldNone" = some 3 := by kernel_rfl
theorem isInst : decide (Tryz.f3.isInstance Tryz.pinned.checked.prog Rows.worldNoneRow.origin Rows.worldNoneRow.targs) = true := by kernel_rfl

theorem over : Rows.WorldNoneSaid :=
  OpenClaim.holds_of_wide 3 Tryz.f3 rfl rfl rfl rfl rfl rfl rfl ⟨rfl, rfl, rfl, rfl, rfl⟩ rfl rfl rfl rfl rfl funcIs Tryz.func3 facts
    (of_decide_eq_true isInst) (by unfold Func.isWrapper; first | (rw [if_pos (by decide +kernel)]; kernel_rfl) | (rw [if_neg (by decide +kernel)]; exact ⟨rfl, rfl⟩))
    (fun os started H enc _ => lifted os started H enc)

/-- The statement: the tied card. -/
theorem proved : Rows.WorldNoneCardSaid :=
  Claim7.holds_tied_plain_at .later [] [.data, .widerDeep, .data, .data, .data, .data, .data, .data, .data] true (true, "cfedcc6ff7026f5a6b51c8f4be75142fb8b4d485d1b416da88b6a127c4030993") true
    over (fun _ h => by cases h) factWf (fun _ h => by cases h) worldNone_row_tie rfl ⟨rfl, rfl⟩ (by kernel_rfl) rfl
    (fun f fn hf hfn => by
      obtain rfl : f = 3 := Option.some.inj (funcIs.symm.trans hf) |>.symm
      obtain rfl : fn = Tryz.f3 := (Option.some.inj (Tryz.func3.symm.trans hfn)).symm
      exact ⟨factLooks, fun j t ht => by
        have hm : t ∈ Tryz.f3.params.toList := Array.mem_toList_iff.2 (Array.mem_of_getElem? ht)
        rw [argTypes] at hm
        simp only [List.mem_cons, List.not_mem_nil, or_false] at hm
        subst hm
        exact (show Tryz.prog.wantsStandIn 24 = false by kernel_rfl)⟩)
    factGoes
end Go.Proofs.YtnpkhejpkpnpaaaGreatDoor.worldNone
