/- The law 'CpuParts' holds for all arguments: the Go text returns true, whatever the world is that holds the listed tables as the program's text lays them; read off by runs that Lean's kernel carries out: each way through a round of the loops in 'Run' and in 'IndexFunc' from any numbers that may stand there, and inductions over the rounds. No other conditions. The card speaks of a pruned copy of the project. -/
import Derived.Test.YtkcdcnjpafblfaaDoorRows
import Derived.Test.YtkcdcnjpafblfaaDoorTie
import Derived.Test.YtkcdcnjpafblfaaDoorCards
import Derived.WalkKit
import Derived.ProofKit
import Derived.LaidMore
import Derived.OpenShut
import Derived.Stop.Joined
import Derived.SevenTiedAt
import Derived.KernelRfl
import Derived.Test.YtkcdcnjpafblfaaDoorCpuPartsG
namespace Go.Proofs.YtkcdcnjpafblfaaDoor.cpuParts
open Go.ChangeShapes Go.WideShapes Go.ChangeAt Go.WideMaps Go.WideElems Go.RowKit

theorem own : ownKnob Tryd.prog.godebug = none := by kernel_rfl
theorem laidOut : laidOutB Tryd.prog = true := by kernel_rfl
theorem argTypes : Tryd.f3.params.toList = [23, 26, 27] := by kernel_rfl
theorem resTypes : Tryd.f3.resultTypes = #[4] := by kernel_rfl
theorem noHandles : (Rows.cpuPartsRow.laid.filter fun x => x.2.handleName?.isSome) = [] := by kernel_rfl
theorem argNo0 : Tryd.f3.params[0]? = some 23 := by kernel_rfl
theorem argNo1 : Tryd.f3.params[1]? = some 26 := by kernel_rfl
theorem argNo2 : Tryd.f3.params[2]? = some 27 := by kernel_rfl
theorem argCells1 : Tryd.prog.cellTypes Tryd.prog.depth 26 = some [3, 3, 3, 3, 3, 3, 3, 3, 3, 3, 3] := by kernel_rfl
theorem argSize1 : Tryd.prog.cellsOf 26 = 11 := by kernel_rfl
theorem argCells2 : Tryd.prog.cellTypes Tryd.prog.depth 27 = some [5, 5] := by kernel_rfl
theorem argSize2 : Tryd.prog.cellsOf 27 = 2 := by kernel_rfl
theorem kinds0 : Abs.kindsA Tryd.prog 38 = some [.i .i64, .i .i64, .i .i64, .i .i64] := by kernel_rfl
theorem size0 : Tryd.prog.cellsOf 38 = 4 := by kernel_rfl

theorem cutArgs {α : Type} {l : List α} (h : l.length = 3) : ∃ c0 c1 c2, l = [c0, c1, c2] := by
  match l, h with
  | [c0, c1, c2], _ => exact ⟨c0, c1, c2, rfl⟩
theorem cut11 {α : Type} {l : List α} (h : l.length = 11) : ∃ c0 c1 c2 c3 c4 c5 c6 c7 c8 c9 c10, l = [c0, c1, c2, c3, c4, c5, c6, c7, c8, c9, c10] := by
  match l, h with
  | [c0, c1, c2, c3, c4, c5, c6, c7, c8, c9, c10], _ => exact ⟨c0, c1, c2, c3, c4, c5, c6, c7, c8, c9, c10, rfl⟩
theorem cut2 {α : Type} {l : List α} (h : l.length = 2) : ∃ c0 c1, l = [c0, c1] := by
  match l, h with
  | [c0, c1], _ => exact ⟨c0, c1, rfl⟩

section
open Abs loops
theorem heapP_fixed {c t : Nat} {y : Blk} (e : (startL Tryd.prog.globals.size isTab).h.get c = some (t, y)) : y.fixed = true := by
  obtain ⟨p, hp, _, _, rfl⟩ := startL_get e
  rfl

/-- The program's table, where it lies. -/
theorem rwP (q : Other) {w : World} (hw : HasTabs Tryd.prog.globals.size isTab w) {b o l cap : Nat} {arr : Array Value} {el : TypeId} {fz : Nat × Nat} {row : Nat → Nat → Int} (ha : w.heap[b]? = some (.cells arr el fz)) (hs : o + l * 4 ≤ arr.size)
    (hr : ∀ (r c : Nat) (k : CK), r < l → [CK.i .i64, CK.i .i64, CK.i .i64, CK.i .i64][c]? = some k → ∃ x, arr[o + (r * 4 + c)]? = some x ∧ CKv k (row r c) x) (h0 : q.V.env 0 = l) (h32 : ∀ r c : Nat, c < 64 → q.V.env (cellIx 32 (r : Int) c) = row r c) :
    @RW q.F q.V ((phi0 Tryd.prog.globals.size).put Tryd.prog.globals.size ⟨b, o, cap⟩) w.heap.size heapP w :=
  @RW.add q.F q.V (phi0 Tryd.prog.globals.size) w.heap.size (startL Tryd.prog.globals.size isTab) w (@start_rw q.F q.V _ _ isTab w hw) ⟨b, o, cap⟩ pTab (by show phi0 _ Tryd.prog.globals.size = none; unfold phi0; rw [if_neg (by omega)])
    (@rows_rb q.F q.V _ w b o l [.i .i64, .i .i64, .i .i64, .i .i64] row arr el fz (.tab 32) (.var 0) cap ha hs hr h0 (fun r c hc => h32 r c (by have hc : c < 4 := hc; omega))) (fun h => by cases h) (fun c t y a' e hy' => by rw [heapP_fixed e] at hy'; cases hy')

theorem freeP {N : Nat} {a : Lc} : Free ((phi0 Tryd.prog.globals.size).put Tryd.prog.globals.size a) heapP.n N := fun c hc _ => by
  have hc : Tryd.prog.globals.size + 1 ≤ c := hc
  unfold Phi.put phi0
  rw [if_neg (by omega), if_neg (by omega)]
theorem gokP {a : Lc} : GOk Tryd.prog ((phi0 Tryd.prog.globals.size).put Tryd.prog.globals.size a) := fun g hg => by
  have hg : g < Tryd.prog.globals.size := hg
  unfold Phi.put phi0
  rw [if_neg (by omega), if_pos hg]

def ctxVals (c : Nat → Int) : List Value := [.int .i64 (c 3), .int .i64 (c 4), .int .i64 (c 5), .int .i64 (c 6), .int .i64 (c 7), .int .i64 (c 8), .int .i64 (c 9), .int .i64 (c 10), .int .i64 (c 11), .int .i64 (c 12), .int .i64 (c 13)]

theorem rlP (q : Other) {φ : Phi} {a b : Int} {c : Nat → Int} (h1 : q.V.env 1 = a) (h2 : q.V.env 2 = b) (h : ∀ j, 3 ≤ j → j < 14 → q.V.env j = c j) : @RL q.F q.V φ argsR [.agg ⟨ctxVals c⟩, .agg ⟨[.int .u8 a, .int .u8 b]⟩] := by
  have x : ∀ j, 3 ≤ j → j < 14 → @RV q.F q.V φ (X j) (.int .i64 (c j)) := fun j g1 g2 => @RV.sx q.F q.V φ _ _ _ (h j g1 g2)
  refine @RL.cons q.F q.V φ _ _ _ _ (@RV.agg q.F q.V φ _ _ ?_) (@RL.cons q.F q.V φ _ _ _ _ (@RV.agg q.F q.V φ _ _ ?_) (@RL.nil q.F q.V φ))
  · exact @RL.cons q.F q.V φ _ _ _ _ (x 3 (by omega) (by omega)) (@RL.cons q.F q.V φ _ _ _ _ (x 4 (by omega) (by omega)) (@RL.cons q.F q.V φ _ _ _ _ (x 5 (by omega) (by omega)) (@RL.cons q.F q.V φ _ _ _ _ (x 6 (by omega) (by omega)) (@RL.cons q.F q.V φ _ _ _ _ (x 7 (by omega) (by omega))
      (@RL.cons q.F q.V φ _ _ _ _ (x 8 (by omega) (by omega)) (@RL.cons q.F q.V φ _ _ _ _ (x 9 (by omega) (by omega)) (@RL.cons q.F q.V φ _ _ _ _ (x 10 (by omega) (by omega)) (@RL.cons q.F q.V φ _ _ _ _ (x 11 (by omega) (by omega)) (@RL.cons q.F q.V φ _ _ _ _ (x 12 (by omega) (by omega)) (@RL.cons q.F q.V φ _ _ _ _ (x 13 (by omega) (by omega)) (@RL.nil q.F q.V φ)))))))))))
  · exact @RL.cons q.F q.V φ _ _ _ _ (@RV.sx q.F q.V φ _ _ _ h1) (@RL.cons q.F q.V φ _ _ _ _ (@RV.sx q.F q.V φ _ _ _ h2) (@RL.nil q.F q.V φ))

theorem known_ok [Facts] [Vals] [Loops] (hlo : ∀ B, LoopsOK Tryd.prog B) (B : Nat) : KnownOK Tryd.prog B cfgP :=
  know_ok (g := 8) (n := 200) (N := Nn) (fuel := 100000) (tabs := isTab) hlo (fun _ _ h => region_any h) tab_lt run_lives cfgP rfl B

section
variable {w : World} (hw : HasTabs Tryd.prog.globals.size isTab w) {a b : Int} {c : Nat → Int} (ha : 0 ≤ a ∧ a ≤ 255) (hb : 0 ≤ b ∧ b ≤ 255) (hc : ∀ j, In64 (c j))
include hw ha hb hc

/-- Of no instructions. -/
theorem walkN {p : Option Addr} {cap : Nat} : Calls Tryd.prog 3 #[.slice p 0 cap, .agg ⟨ctxVals c⟩, .agg ⟨[.int .u8 a, .int .u8 b]⟩] w fun e w' => e = .returned (.bool true) ∧ Below w.heap.size w w' := by
  have env_mid : ∀ j, In64 (envC 0 a b 0 c (fun _ _ => 0) j) := fun j => envT_mid (fun i => by unfold scP; split <;> first | exact hc _ | exact mid_zero | (unfold In64; omega)) (fun t r k => by unfold tb0; split <;> exact mid_zero) j
  have hpc : ∀ p ∈ pcN, p.1.eval (envC 0 a b 0 c (fun _ _ => 0)) = p.2 := by
    intro p hp
    simp only [pcN, List.mem_cons, List.not_mem_nil, or_false] at hp
    rcases hp with rfl | rfl | rfl | rfl
    · exact decide_eq_true ha.1
    · exact decide_eq_true ha.2
    · exact decide_eq_true hb.1
    · exact decide_eq_true hb.2
  obtain ⟨h1, h2⟩ := Tree.path_ok (env := envC 0 a b 0 c (fun _ _ => 0)) treeN pcN hpc runN
  letI F : Facts := ⟨treeN.path (envC 0 a b 0 c (fun _ _ => 0)) pcN⟩
  letI V : Vals := ⟨envC 0 a b 0 c (fun _ _ => 0), h2, env_mid⟩
  letI := noLoops
  letI : TameL := noTame
  refine calls_from (cfg := cfgP) (known_ok (fun _ => noLoops_ok) _) (fun _ h => region_any h) (start_rw _ hw) (fun b hb _ => ?_) (fun g hg => ?_) (@RL.cons F V _ _ _ _ _ (@RV.so F V _ _ _ _ _ rfl) (rlP ⟨F, V⟩ rfl rfl (fun j h1 h2 => ?_))) h1
  · have hb : Tryd.prog.globals.size ≤ b := hb
    unfold phi0
    rw [if_neg (by omega)]
  · have hg : g < Tryd.prog.globals.size := hg
    unfold phi0
    rw [if_pos hg]
  · show envC 0 a b 0 c (fun _ _ => 0) j = c j
    rcases j with _ | _ | _ | _ | _ | _ | _ | _ | _ | _ | _ | _ | _ | _ | j <;> first | rfl | omega

theorem walkS {bb o l cap : Nat} {arr : Array Value} {el : TypeId} {fz : Nat × Nat} {row : Nat → Nat → Int} (hcap : l ≤ cap) (harr : w.heap[bb]? = some (.cells arr el fz)) (hs : o + l * 4 ≤ arr.size)
    (hr : ∀ (r c : Nat) (k : CK), r < l → [CK.i .i64, CK.i .i64, CK.i .i64, CK.i .i64][c]? = some k → ∃ x, arr[o + (r * 4 + c)]? = some x ∧ CKv k (row r c) x) (hrow : ∀ r c, In64 (row r c)) (hl : (l : Int) ≤ 9223372036854775807) :
    Calls Tryd.prog 3 #[.slice (some ⟨bb, o, none⟩) l cap, .agg ⟨ctxVals c⟩, .agg ⟨[.int .u8 a, .int .u8 b]⟩] w fun e w' => e = .returned (.bool true) ∧ Below w.heap.size w w' := by
  by_cases h80 : (l : Int) ≤ 80
  · obtain ⟨wh, k, ww, R1, R2, R3, hk, K⟩ := known_all (len := l) (a := a) (b := b) (c := c) (rp := row) ⟨by omega, h80⟩ ha hb hc hrow
    letI F : Facts := ⟨pcT k⟩
    letI V : Vals := ⟨envP l a b ww c row R1 R2 R3, K.pc hk, K.mid⟩
    have sp := K.specs_ok hk (V := V) rfl
    letI := manyLoops Tryd.prog.globals.size isTab (specs G k)
    letI : TameL := manyLoops_tame sp
    have hrun := runP k hk
    have hrw := rwP ⟨F, V⟩ hw (cap := cap) harr hs hr rfl (fun r c' h => cell32 h)
    have hx : @RL F V ((phi0 Tryd.prog.globals.size).put Tryd.prog.globals.size ⟨bb, o, cap⟩) (pSl G :: argsR) [.slice (some ⟨bb, o, none⟩) l cap, .agg ⟨ctxVals c⟩, .agg ⟨[.int .u8 a, .int .u8 b]⟩] :=
      @RL.cons F V _ _ _ _ _ (@RV.ss F V _ _ _ _ _ ⟨bb, o, cap⟩ 0 l o cap (Phi.put_self _ _ _) rfl rfl hcap (fun _ => by simp)) (rlP ⟨F, V⟩ rfl rfl (fun j h1 h2 => by
        show envP l a b ww c row R1 R2 R3 j = c j
        rcases j with _ | _ | _ | _ | _ | _ | _ | _ | _ | _ | _ | _ | _ | _ | j <;> first | rfl | omega))
    have hf := @freeP Nn ⟨bb, o, cap⟩
    revert hrw hf hrun
    generalize heapP = s
    intro hrun hrw hf
    exact calls_from (cfg := cfgP) (known_ok (fun B => manyLoops_ok sp B) _) (fun _ h => region_any h) hrw hf gokP hx hrun
  · have env_mid : ∀ j, In64 (envC l a b 0 c row j) := fun j => envT_mid (fun i => by unfold scP; split <;> first | exact hc _ | exact mid_zero | (unfold In64; omega)) (fun t r k => by unfold tb0; split <;> first | exact hrow _ _ | exact mid_zero) j
    letI F : Facts := ⟨pcH⟩
    letI V : Vals := ⟨envC l a b 0 c row, (fun p hp => by
      have hp : p ∈ pcH := hp
      simp only [pcH, List.mem_cons, List.not_mem_nil, or_false] at hp
      subst hp
      exact decide_eq_false h80), env_mid⟩
    letI := noLoops
    letI : TameL := noTame
    have hrun := runH
    have hrw := rwP ⟨F, V⟩ hw (cap := cap) harr hs hr rfl (fun r c' h => cell32C h)
    have hx : @RL F V ((phi0 Tryd.prog.globals.size).put Tryd.prog.globals.size ⟨bb, o, cap⟩) (pSl G :: argsR) [.slice (some ⟨bb, o, none⟩) l cap, .agg ⟨ctxVals c⟩, .agg ⟨[.int .u8 a, .int .u8 b]⟩] :=
      @RL.cons F V _ _ _ _ _ (@RV.ss F V _ _ _ _ _ ⟨bb, o, cap⟩ 0 l o cap (Phi.put_self _ _ _) rfl rfl hcap (fun _ => by simp)) (rlP ⟨F, V⟩ rfl rfl (fun j h1 h2 => by
        show envC l a b 0 c row j = c j
        rcases j with _ | _ | _ | _ | _ | _ | _ | _ | _ | _ | _ | _ | _ | _ | j <;> first | rfl | omega))
    have hf := @freeP Nn ⟨bb, o, cap⟩
    revert hrw hf hrun
    generalize heapP = s
    intro hrun hrw hf
    exact calls_from (cfg := cfgP) (known_ok (fun _ => noLoops_ok) _) (fun _ h => region_any h) hrw hf gokP hx hrun
end
end

theorem arg_slice {W : World} {base : Nat} {u e : TypeId} {v : Value} (h : Value.okWide Tryd.prog W .any base u v) (hu : Tryd.prog.underlying u = some (.slice e)) : v.cells.toList = [v] := by
  unfold Value.okWide at h
  rw [hu] at h
  obtain ⟨_, _, _, rfl⟩ := Abs.cell_slice h hu
  rfl

theorem readable : ∀ t ∈ Tryd.f3.params.toList, Tryd.prog.readableRec t = true ∧ t < Tryd.prog.types.size := by
  rw [argTypes]
  intro t ht
  simp only [List.mem_cons, List.not_mem_nil, or_false] at ht
  rcases ht with rfl | rfl | rfl
  · exact ⟨by kernel_rfl, Nat.le_of_ble_eq_true (by kernel_rfl)⟩
  · exact ⟨by kernel_rfl, Nat.le_of_ble_eq_true (by kernel_rfl)⟩
  · exact ⟨by kernel_rfl, Nat.le_of_ble_eq_true (by kernel_rfl)⟩

/-- The door's own heap meets the condition. -/
theorem door_met (os : Os) (args : Array Value) : laidMetH Tryd.prog Rows.cpuPartsRow.laid ((World.doorLaid Tryd.prog 400 os).forCall (fun _ _ => 0) ⟨#[], args, []⟩).memory :=
  laidMetH_of_parts3 (fuel := 8) (laidMet_of_run' 8 (by kernel_rfl) (by kernel_rfl)) (by kernel_rfl) (by kernel_rfl)

set_option maxRecDepth 100000 in
theorem lifted (os : Os) (started : os.Started) (H : Type) (enc : TypeId × Value → H) :
    ReturnsInHanded {} Tryd.checked os 3 .any (fun w args => (Rows.cpuPartsSpec.pre enc Tryd.prog Tryd.f3 [] false w args ∧ laidMetH Tryd.prog Rows.cpuPartsRow.laid w) ∧ sizedMet enc Tryd.prog Tryd.f3 (OpenSpec.ofChange Rows.cpuPartsSpec) false w args)
      (Rows.cpuPartsSpec.post enc Tryd.prog Tryd.f3 false true false false) := by
  refine returnsInHanded_of_change_and (C := Tryd.checked) (X := fun w _ => laidMetH Tryd.prog Rows.cpuPartsRow.laid w) (fun _ _ _ hh h => h.of_heap hh) own started (by kernel_rfl) Tryd.func3
    (ChangeSpec.witness_shaped (enc := enc) (C := Tryd.checked) (os := os) (X := fun w _ => laidMetH Tryd.prog Rows.cpuPartsRow.laid w) false (World.doorLaid Tryd.prog 400 os) #[.slice none 0 0, .agg #[.int .i64 0, .int .i64 0, .int .i64 0, .int .i64 0, .int .i64 0, .int .i64 0, .int .i64 0, .int .i64 0, .int .i64 0, .int .i64 0, .int .i64 0], .agg #[.int .u8 0, .int .u8 0]] 8 rfl (World.shaped_of_RefB (by kernel_rfl) (by kernel_rfl)) (by kernel_rfl) (by kernel_rfl) (by kernel_rfl) (door_met os _)) ?_
  intro W base args ds gs before hval0 hW0 _ _ hL _
  have hval : ∀ (j : Nat) t v, Tryd.f3.params[j]? = some t → args[j]? = some v → Value.okWide Tryd.prog W .any base t v := hval0
  have hW : DataW.Whole enc Tryd.prog Tryd.f3.params.toList Rows.cpuPartsSpec.vars false W args.toList ds gs before := hW0
  have hw := Abs.hasTabs_of_laid noHandles hL
  clear hval0 hW0 hL
  obtain ⟨⟨la, rfl, hla⟩, hds⟩ := Abs.args_length (n := 3) (by rw [argTypes]; rfl) hW
  obtain ⟨v0, v1, v2, rfl⟩ := cutArgs hla
  obtain ⟨d0, d1, d2, rfl⟩ := cutArgs hds
  obtain ⟨l1, rfl, hl1, hc1⟩ := Abs.arg_struct (hval 1 26 v1 argNo1 rfl) Tryd.underlying26 argCells1 argSize1
  obtain ⟨c0, c1, c2, c3, c4, c5, c6, c7, c8, c9, c10, rfl⟩ := cut11 hl1
  obtain ⟨x0, rfl, g0⟩ := Abs.cell_mid (hc1 0 c0 3 rfl rfl) Tryd.underlying3
  obtain ⟨x1, rfl, g1⟩ := Abs.cell_mid (hc1 1 c1 3 rfl rfl) Tryd.underlying3
  obtain ⟨x2, rfl, g2⟩ := Abs.cell_mid (hc1 2 c2 3 rfl rfl) Tryd.underlying3
  obtain ⟨x3, rfl, g3⟩ := Abs.cell_mid (hc1 3 c3 3 rfl rfl) Tryd.underlying3
  obtain ⟨x4, rfl, g4⟩ := Abs.cell_mid (hc1 4 c4 3 rfl rfl) Tryd.underlying3
  obtain ⟨x5, rfl, g5⟩ := Abs.cell_mid (hc1 5 c5 3 rfl rfl) Tryd.underlying3
  obtain ⟨x6, rfl, g6⟩ := Abs.cell_mid (hc1 6 c6 3 rfl rfl) Tryd.underlying3
  obtain ⟨x7, rfl, g7⟩ := Abs.cell_mid (hc1 7 c7 3 rfl rfl) Tryd.underlying3
  obtain ⟨x8, rfl, g8⟩ := Abs.cell_mid (hc1 8 c8 3 rfl rfl) Tryd.underlying3
  obtain ⟨x9, rfl, g9⟩ := Abs.cell_mid (hc1 9 c9 3 rfl rfl) Tryd.underlying3
  obtain ⟨x10, rfl, g10⟩ := Abs.cell_mid (hc1 10 c10 3 rfl rfl) Tryd.underlying3
  obtain ⟨l2, rfl, hl2, hc2⟩ := Abs.arg_array (hval 2 27 v2 argNo2 rfl) Tryd.underlying27 argCells2 argSize2
  obtain ⟨y0, y1, rfl⟩ := cut2 hl2
  obtain ⟨a, rfl, ga⟩ := Abs.cell_mid (hc2 0 y0 5 rfl rfl) Tryd.underlying5
  obtain ⟨b, rfl, gb⟩ := Abs.cell_mid (hc2 1 y1 5 rfl rfl) Tryd.underlying5
  have hc : ∀ j, Abs.In64 (Abs.envOf [0, 0, 0, x0, x1, x2, x3, x4, x5, x6, x7, x8, x9, x10] j) := Abs.envOf_mid (Abs.MidL.all ⟨Abs.mid_zero, Abs.mid_zero, Abs.mid_zero, Abs.mid_of g0, Abs.mid_of g1, Abs.mid_of g2, Abs.mid_of g3, Abs.mid_of g4, Abs.mid_of g5, Abs.mid_of g6, Abs.mid_of g7, Abs.mid_of g8, Abs.mid_of g9, Abs.mid_of g10, trivial⟩)
  have hW1 := hW
  obtain ⟨p, q, hA, _⟩ := hW1
  rw [argTypes] at hA
  obtain ⟨u0, us0, e0, es0, p0, q0, k1, k2, k3, ⟨fuel, t0⟩, r0⟩ := trodAll_cons hA
  cases k1
  have cs := arg_slice (hval 0 23 v0 argNo0 rfl) Tryd.underlying23
  rcases Abs.slice_rows Tryd.underlying23 kinds0 size0 (by decide) t0 with ⟨p, cc, e⟩ | ⟨bb, o, l, cap, row, arr, el, fz, e, z0, z1, z2, z3, z4, z5, z6⟩
  · rw [cs] at e
    cases e
    refine (walkN hw ga gb hc).mono fun e W' h => ?_
    exact ⟨_, h.1, Abs.post_true hW rfl laidOut readable resTypes Tryd.underlying4 ⟨rfl, rfl, rfl⟩ h.2⟩
  · rw [cs] at e
    cases e
    refine (walkS hw ga gb hc z1 z3 z4 z5 z6 z2).mono fun e W' h => ?_
    exact ⟨_, h.1, Abs.post_true hW rfl laidOut readable resTypes Tryd.underlying4 ⟨rfl, rfl, rfl⟩ h.2⟩

theorem over : Rows.CpuPartsSaid :=
  OpenClaim.holds_of_wide 3 Tryd.f3 rfl rfl rfl rfl rfl rfl rfl ⟨rfl, rfl, rfl, rfl, rfl⟩ rfl rfl rfl rfl rfl (by kernel_rfl) Tryd.func3 (by kernel_rfl)
    (of_decide_eq_true (by kernel_rfl)) (by unfold Func.isWrapper; first | (rw [if_pos (by decide +kernel)]; kernel_rfl) | (rw [if_neg (by decide +kernel)]; exact ⟨rfl, rfl⟩))
    (fun os started H enc _ => lifted os started H enc)

/-- The statement: the tied card. -/
theorem proved : Rows.CpuPartsCardSaid :=
  Claim7.holds_tied_plain_at .later [] [.widerDeep] true (true, "b266be6e87342516e553df64f1946c29b299cfcbcc99c3a37e6af7d67ac74141") false
    over (fun _ h => by cases h) (by kernel_rfl) (fun _ h => by cases h) cpuParts_row_tie rfl ⟨rfl, rfl⟩ (by kernel_rfl) rfl
    (fun f fn hf hfn => by
      obtain rfl : f = 3 := Option.some.inj ((show Tryd.prog.funcNamed "wherry/wherrylaw13.CpuParts" = some 3 by kernel_rfl).symm.trans hf) |>.symm
      obtain rfl : fn = Tryd.f3 := (Option.some.inj (Tryd.func3.symm.trans hfn)).symm
      exact ⟨by kernel_rfl, fun j t ht => by
        have hm : t ∈ Tryd.f3.params.toList := Array.mem_toList_iff.2 (Array.mem_of_getElem? ht)
        rw [argTypes] at hm
        simp only [List.mem_cons, List.not_mem_nil, or_false] at hm
        rcases hm with rfl | rfl | rfl
        · exact (show Tryd.prog.wantsStandIn 23 = false by kernel_rfl)
        · exact (show Tryd.prog.wantsStandIn 26 = false by kernel_rfl)
        · exact (show Tryd.prog.wantsStandIn 27 = false by kernel_rfl)⟩)
    (by kernel_rfl)
end Go.Proofs.YtkcdcnjpafblfaaDoor.cpuParts
