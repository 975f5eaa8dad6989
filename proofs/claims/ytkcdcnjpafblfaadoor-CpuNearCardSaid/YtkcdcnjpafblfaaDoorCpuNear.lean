/- The law 'CpuNear' holds for all arguments: the Go text returns true, whatever the world is that holds the listed tables as the program's text lays them; read off by runs that Lean's kernel carries out: each way through a round of the two searches that ask whether a program may be, from any numbers that may stand there, inductions over the rounds, and the law's own run for each instruction. No other conditions. The card speaks of a pruned copy of the project. -/
import Derived.Test.YtkcdcnjpafblfaaDoorRows
import Derived.Test.YtkcdcnjpafblfaaDoorTie
import Derived.Test.YtkcdcnjpafblfaaDoorCards
import Derived.WalkKit
import Derived.ProofKit
import Derived.LaidMore
import Derived.OpenShut
import Derived.Stop.Joined
import Derived.SevenTiedAt
import Derived.KernelRfl
import Derived.Test.YtkcdcnjpafblfaaDoorCpuNearE
namespace Go.Proofs.YtkcdcnjpafblfaaDoor.cpuNear
open Go.ChangeShapes Go.WideShapes Go.ChangeAt Go.WideMaps Go.WideElems Go.RowKit

theorem own : ownKnob Tryd.prog.godebug = none := by kernel_rfl
theorem laidOut : laidOutB Tryd.prog = true := by kernel_rfl
theorem argTypes : Tryd.f4.params.toList = [23, 26] := by kernel_rfl
theorem resTypes : Tryd.f4.resultTypes = #[4] := by kernel_rfl
theorem noHandles : (Rows.cpuNearRow.laid.filter fun x => x.2.handleName?.isSome) = [] := by kernel_rfl
theorem argNo0 : Tryd.f4.params[0]? = some 23 := by kernel_rfl
theorem argNo1 : Tryd.f4.params[1]? = some 26 := by kernel_rfl
theorem argCells1 : Tryd.prog.cellTypes Tryd.prog.depth 26 = some [3, 3, 3, 3, 3, 3, 3, 3, 3, 3, 3] := by kernel_rfl
theorem argSize1 : Tryd.prog.cellsOf 26 = 11 := by kernel_rfl
theorem kinds0 : Abs.kindsA Tryd.prog 38 = some [.i .i64, .i .i64, .i .i64, .i .i64] := by kernel_rfl
theorem size0 : Tryd.prog.cellsOf 38 = 4 := by kernel_rfl

theorem cutArgs {α : Type} {l : List α} (h : l.length = 2) : ∃ c0 c1, l = [c0, c1] := by
  match l, h with
  | [c0, c1], _ => exact ⟨c0, c1, rfl⟩
theorem cut11 {α : Type} {l : List α} (h : l.length = 11) : ∃ c0 c1 c2 c3 c4 c5 c6 c7 c8 c9 c10, l = [c0, c1, c2, c3, c4, c5, c6, c7, c8, c9, c10] := by
  match l, h with
  | [c0, c1, c2, c3, c4, c5, c6, c7, c8, c9, c10], _ => exact ⟨c0, c1, c2, c3, c4, c5, c6, c7, c8, c9, c10, rfl⟩
section
open Abs loops
theorem heapP_fixed {c t : Nat} {y : Blk} (e : (startL Tryd.prog.globals.size isTab).h.get c = some (t, y)) : y.fixed = true := by
  obtain ⟨p, hp, _, _, rfl⟩ := startL_get e
  rfl

/-- The program's table, where it lies. -/
theorem rwP (q : Other) {w : World} (hw : HasTabs Tryd.prog.globals.size isTab w) {b o l cap : Nat} {arr : Array Value} {el : TypeId} {fz : Nat × Nat} {row : Nat → Nat → Int} (ha : w.heap[b]? = some (.cells arr el fz)) (hs : o + l * 4 ≤ arr.size)
    (hr : ∀ (r c : Nat) (k : CK), r < l → [CK.i .i64, CK.i .i64, CK.i .i64, CK.i .i64][c]? = some k → ∃ x, arr[o + (r * 4 + c)]? = some x ∧ CKv k (row r c) x) (h0 : q.V.env 0 = l) (h32 : ∀ r c : Nat, c < 64 → q.V.env (cellIx 32 (r : Int) c) = row r c) :
    @RW q.F q.V ((phi0 Tryd.prog.globals.size).put Tryd.prog.globals.size ⟨b, o, cap⟩) w.heap.size heapP w :=
  @RW.add q.F q.V (phi0 Tryd.prog.globals.size) w.heap.size (startL Tryd.prog.globals.size isTab) w (@start_rw q.F q.V _ _ isTab w hw) ⟨b, o, cap⟩ pTab (by show phi0 _ Tryd.prog.globals.size = none; unfold phi0; rw [if_neg (by omega)])
    (@rows_rb q.F q.V _ w b o l [.i .i64, .i .i64, .i .i64, .i .i64] row arr el fz (.tab 32) (.var 0) cap ha hs hr h0 (fun r c hc => h32 r c (by have hc : c < 4 := hc; omega))) (fun h => by cases h) (fun c t y a' e hy' => by rw [heapP_fixed e] at hy'; cases hy')

theorem freeP {N : Nat} {a : Lc} : Free ((phi0 Tryd.prog.globals.size).put Tryd.prog.globals.size a) heapP.n N := fun c hc _ => by
  have hc : Tryd.prog.globals.size + 1 ≤ c := hc
  unfold Phi.put phi0
  rw [if_neg (by omega), if_neg (by omega)]
theorem gokP {a : Lc} : GOk Tryd.prog ((phi0 Tryd.prog.globals.size).put Tryd.prog.globals.size a) := fun g hg => by
  have hg : g < Tryd.prog.globals.size := hg
  unfold Phi.put phi0
  rw [if_neg (by omega), if_pos hg]

def ctxVals (c : Nat → Int) : List Value := [.int .i64 (c 3), .int .i64 (c 4), .int .i64 (c 5), .int .i64 (c 6), .int .i64 (c 7), .int .i64 (c 8), .int .i64 (c 9), .int .i64 (c 10), .int .i64 (c 11), .int .i64 (c 12), .int .i64 (c 13)]

theorem rlC (q : Other) {φ : Phi} {c : Nat → Int} (h1 : q.V.env 1 = c 4) (h3 : q.V.env 3 = c 3) (h : ∀ j, 5 ≤ j → j < 14 → q.V.env j = c j) : @RL q.F q.V φ argsC [.agg ⟨ctxVals c⟩] := by
  have x : ∀ j, 5 ≤ j → j < 14 → @RV q.F q.V φ (X j) (.int .i64 (c j)) := fun j g1 g2 => @RV.sx q.F q.V φ _ _ _ (h j g1 g2)
  refine @RL.cons q.F q.V φ _ _ _ _ (@RV.agg q.F q.V φ _ _ ?_) (@RL.nil q.F q.V φ)
  exact @RL.cons q.F q.V φ _ _ _ _ (@RV.sx q.F q.V φ _ _ _ h3) (@RL.cons q.F q.V φ _ _ _ _ (@RV.sx q.F q.V φ _ _ _ h1) (@RL.cons q.F q.V φ _ _ _ _ (x 5 (by omega) (by omega)) (@RL.cons q.F q.V φ _ _ _ _ (x 6 (by omega) (by omega)) (@RL.cons q.F q.V φ _ _ _ _ (x 7 (by omega) (by omega))
    (@RL.cons q.F q.V φ _ _ _ _ (x 8 (by omega) (by omega)) (@RL.cons q.F q.V φ _ _ _ _ (x 9 (by omega) (by omega)) (@RL.cons q.F q.V φ _ _ _ _ (x 10 (by omega) (by omega)) (@RL.cons q.F q.V φ _ _ _ _ (x 11 (by omega) (by omega)) (@RL.cons q.F q.V φ _ _ _ _ (x 12 (by omega) (by omega)) (@RL.cons q.F q.V φ _ _ _ _ (x 13 (by omega) (by omega)) (@RL.nil q.F q.V φ)))))))))))

theorem run_lives : ((letI : Facts := ⟨[]⟩; letI := noLoops; callN Tryd.prog (cfg0 100000) 200 (.f 8) [] (startL Tryd.prog.globals.size isTab)).every Nn isTrue) = true := by kernel_rfl
theorem known_ok [Facts] [Vals] [Loops] (hlo : ∀ B, LoopsOK Tryd.prog B) (B : Nat) : KnownOK Tryd.prog B cfgP :=
  know_ok (g := 8) (n := 200) (N := Nn) (fuel := 100000) (tabs := isTab) hlo (fun _ _ h => region_any h) tab_lt run_lives cfgP rfl B

noncomputable def lawS (sp : List LoopSpec) (F : Facts) : Bool := (letI := manyLoops Tryd.prog.globals.size isTab sp; callN Tryd.prog cfgP 200 (.f 4) (pSl G :: argsC) heapP).every Nn isTrue
def pcL (d : Bool) : List (SB × Bool) := [(.le (.lit 0) (.var 0), true), (.le (.var 0) (.lit 80), true), (.le (.var 0) (.lit 64), d)]
def pcH : List (SB × Bool) := [(.le (.var 0) (.lit 80), false)]
def pcU : List (SB × Bool) := pcL true ++ [(.le (.lit 0) (.var 1), false)]
def pcV : List (SB × Bool) := pcL true ++ [(.le (.lit 0) (.var 1), true), (.le (.var 0) (.var 1), true)]
def pcW : List (SB × Bool) := pcL true ++ [(.le (.lit 0) (.var 1), true), (.le (.var 0) (.var 1), false), (.le (.lit 0) (.var 20), true)]
set_option maxRecDepth 1000000
theorem runH : lawS [] ⟨pcH⟩ = true := by kernel_rfl
theorem runL : lawS [] ⟨pcL false⟩ = true := by kernel_rfl
theorem runB : lawS [wholeSpec G false] ⟨pcL true⟩ = true := by kernel_rfl
theorem runU : lawS [wholeSpec G true] ⟨pcU⟩ = true := by kernel_rfl
theorem runV : lawS [wholeSpec G true] ⟨pcV⟩ = true := by kernel_rfl
theorem runW : lawS [idxSpec G .leaf false, wholeSpec G true] ⟨pcW⟩ = true := by kernel_rfl
noncomputable def lawE (F : Facts) : Bool := (letI := noLoops; callN Tryd.prog cfgP 200 (.f 4) (.so (.lit 0) :: argsC) (startL Tryd.prog.globals.size isTab)).every Nn isTrue
def treeE : Tree := .node (.le (.lit 0) (.var 1)) .leaf .leaf
theorem runE : treeE.check lawE [] = true := by kernel_rfl

def scN (len w w2 : Int) (c : Nat → Int) (i : Nat) : Int := match i with
  | 0 => len | 1 => c 4 | 3 => c 3 | 5 => c 5 | 6 => c 6 | 7 => c 7 | 8 => c 8 | 9 => c 9 | 10 => c 10 | 11 => c 11 | 12 => c 12 | 13 => c 13 | 20 => w | 21 => w2
  | _ => 0
def tbN (rp : Nat → Nat → Int) (a r k : Nat) : Int := if a = 32 then rp r k else 0
def envN (len w w2 : Int) (c : Nat → Int) (rp : Nat → Nat → Int) : Nat → Int := envT (scN len w w2 c) (tbN rp)

section
variable {len w w2 : Int} {c : Nat → Int} {rp : Nat → Nat → Int}
theorem envN_mid (hl : In64 len) (hw : In64 w) (hw2 : In64 w2) (hc : ∀ j, In64 (c j)) (hrp : ∀ r k, In64 (rp r k)) (j : Nat) : In64 (envN len w w2 c rp j) :=
  envT_mid (fun i => by unfold scN; split <;> first | exact hc _ | exact mid_zero | exact hl | exact hw | exact hw2) (fun t r k => by unfold tbN; split <;> first | exact hrp _ _ | exact mid_zero) j
theorem envN_ctx {j : Nat} (h1 : 5 ≤ j) (h2 : j < 14) : envN len w w2 c rp j = c j := by
  rcases j with _ | _ | _ | _ | _ | _ | _ | _ | _ | _ | _ | _ | _ | _ | j <;> first | rfl | omega
theorem envN_idx {len' w' w2' : Int} (h : len = len') : idxAt (envN len w w2 c rp) = idxAt (envN len' w' w2' c rp) := by
  subst h
  refine idxAt_congr rfl (fun j hj => ?_)
  unfold envN envT
  split
  · unfold scN
    split <;> first | rfl | omega
  · rfl
end

section
variable {w : World} (hw : HasTabs Tryd.prog.globals.size isTab w) {c : Nat → Int} (hc : ∀ j, In64 (c j))
include hw hc

/-- Of no instructions. -/
theorem walkE {p : Option Addr} {cap : Nat} : Calls Tryd.prog 4 #[.slice p 0 cap, .agg ⟨ctxVals c⟩] w fun e w' => e = .returned (.bool true) ∧ Below w.heap.size w w' := by
  obtain ⟨h1, h2⟩ := Tree.path_ok (env := envN 0 0 0 c (fun _ _ => 0)) treeE [] (fun _ h => (List.not_mem_nil h).elim) runE
  letI F : Facts := ⟨treeE.path (envN 0 0 0 c (fun _ _ => 0)) []⟩
  letI V : Vals := ⟨envN 0 0 0 c (fun _ _ => 0), h2, envN_mid mid_zero mid_zero mid_zero hc (fun _ _ => mid_zero)⟩
  letI := noLoops
  letI : TameL := noTame
  refine calls_from (cfg := cfgP) (known_ok (fun _ => noLoops_ok) _) (fun _ h => region_any h) (start_rw _ hw) (fun b hb _ => ?_) (fun g hg => ?_) (@RL.cons F V _ _ _ _ _ (@RV.so F V _ _ _ _ _ rfl) (rlC ⟨F, V⟩ rfl rfl (fun j h1 h2 => envN_ctx h1 h2))) h1
  · have hb : Tryd.prog.globals.size ≤ b := hb
    unfold phi0
    rw [if_neg (by omega)]
  · have hg : g < Tryd.prog.globals.size := hg
    unfold phi0
    rw [if_pos hg]

theorem walkR {bb o l cap : Nat} {arr : Array Value} {el : TypeId} {fz : Nat × Nat} {row : Nat → Nat → Int} (hcap : l ≤ cap) (harr : w.heap[bb]? = some (.cells arr el fz)) (hs : o + l * 4 ≤ arr.size)
    (hr : ∀ (r c : Nat) (k : CK), r < l → [CK.i .i64, CK.i .i64, CK.i .i64, CK.i .i64][c]? = some k → ∃ x, arr[o + (r * 4 + c)]? = some x ∧ CKv k (row r c) x) (hrow : ∀ r c, In64 (row r c)) (hl : (l : Int) ≤ 9223372036854775807)
    {w1 w2 : Int} (hw1 : In64 w1) (hw2 : In64 w2) {pc : List (SB × Bool)} {sp : List LoopSpec} (hpc : ∀ p ∈ pc, p.1.eval (envN l w1 w2 c row) = p.2) (hsp : ∀ V : @Vals ⟨pc⟩, V.env = envN l w1 w2 c row → ∀ S ∈ sp, @LoopProof ⟨pc⟩ V Tryd.prog isTab S) (hrun : lawS sp ⟨pc⟩ = true) :
    Calls Tryd.prog 4 #[.slice (some ⟨bb, o, none⟩) l cap, .agg ⟨ctxVals c⟩] w fun e w' => e = .returned (.bool true) ∧ Below w.heap.size w w' := by
  letI F : Facts := ⟨pc⟩
  letI V : Vals := ⟨envN l w1 w2 c row, hpc, envN_mid (by unfold In64; omega) hw1 hw2 hc hrow⟩
  have sp' := hsp V rfl
  letI := manyLoops Tryd.prog.globals.size isTab sp
  letI : TameL := manyLoops_tame sp'
  have hrw := rwP ⟨F, V⟩ hw (cap := cap) harr hs hr rfl (fun r c' h => envT_cell (by decide) (by decide) h)
  have hx : @RL F V ((phi0 Tryd.prog.globals.size).put Tryd.prog.globals.size ⟨bb, o, cap⟩) (pSl G :: argsC) [.slice (some ⟨bb, o, none⟩) l cap, .agg ⟨ctxVals c⟩] :=
    @RL.cons F V _ _ _ _ _ (@RV.ss F V _ _ _ _ _ ⟨bb, o, cap⟩ 0 l o cap (Phi.put_self _ _ _) rfl rfl hcap (fun _ => by simp)) (rlC ⟨F, V⟩ rfl rfl (fun j h1 h2 => envN_ctx h1 h2))
  have hf := @freeP Nn ⟨bb, o, cap⟩
  unfold lawS at hrun
  revert hrw hf hrun
  generalize heapP = s
  intro hrun hrw hf
  exact calls_from (cfg := cfgP) (known_ok (fun B => manyLoops_ok sp' B) _) (fun _ h => region_any h) hrw hf gokP hx hrun

theorem walkS {bb o l cap : Nat} {arr : Array Value} {el : TypeId} {fz : Nat × Nat} {row : Nat → Nat → Int} (hcap : l ≤ cap) (harr : w.heap[bb]? = some (.cells arr el fz)) (hs : o + l * 4 ≤ arr.size)
    (hr : ∀ (r c : Nat) (k : CK), r < l → [CK.i .i64, CK.i .i64, CK.i .i64, CK.i .i64][c]? = some k → ∃ x, arr[o + (r * 4 + c)]? = some x ∧ CKv k (row r c) x) (hrow : ∀ r c, In64 (row r c)) (hl : (l : Int) ≤ 9223372036854775807) (hd : -9223372036854775808 ≤ c 13 ∧ c 13 ≤ 9223372036854775807) :
    Calls Tryd.prog 4 #[.slice (some ⟨bb, o, none⟩) l cap, .agg ⟨ctxVals c⟩] w fun e w' => e = .returned (.bool true) ∧ Below w.heap.size w w' := by
  by_cases h80 : (l : Int) ≤ 80
  rotate_left
  · exact walkR hw hc hcap harr hs hr hrow hl mid_zero mid_zero (fun p hp => by
      have hp : p ∈ pcH := hp
      simp only [pcH, List.mem_cons, List.not_mem_nil, or_false] at hp
      subst hp
      exact decide_eq_false h80) (fun V _ S hS => (List.not_mem_nil hS).elim) runH
  have lok : ∀ (d : Bool), decide ((l : Int) ≤ 64) = d → ∀ w1 w2, ∀ p ∈ pcL d, p.1.eval (envN l w1 w2 c row) = p.2 := fun d hd w1 w2 p hp => by
    simp only [pcL, List.mem_cons, List.not_mem_nil, or_false] at hp
    rcases hp with rfl | rfl | rfl
    · exact decide_eq_true (show (0 : Int) ≤ (l : Int) by omega)
    · exact decide_eq_true h80
    · exact hd
  by_cases h64 : (l : Int) ≤ 64
  rotate_left
  · exact walkR hw hc hcap harr hs hr hrow hl mid_zero mid_zero (lok false (decide_eq_false h64) 0 0) (fun V _ S hS => (List.not_mem_nil hS).elim) runL
  have lok := lok true (decide_eq_true h64)
  have hmid : ∀ w1 w2, In64 w1 → In64 w2 → ∀ j, In64 (envN l w1 w2 c row j) := fun w1 w2 g1 g2 => envN_mid (by unfold In64; omega) g1 g2 hc hrow
  have h0 : ∀ w1 w2, 0 ≤ envN l w1 w2 c row 0 ∧ envN l w1 w2 c row 0 ≤ 80 := fun w1 w2 => ⟨show (0 : Int) ≤ (l : Int) by omega, h80⟩
  obtain ⟨ok, e2, k1, k2, k3⟩ := whole_all (hmid 0 0 mid_zero mid_zero) (h0 0 0)
  obtain ⟨wh, e1, j1, j2, j3, j4⟩ := idx_all (hmid 0 0 mid_zero mid_zero) (h0 0 0)
  have hok : Ok (envN l (e1 1) (e2 1) c row) ok := by
    refine ⟨e2, ?_, by rw [envN_idx (len' := (l : Int)) (w' := 0) (w2' := 0) rfl]; exact k2, rfl⟩
    unfold wholeIt at k1 ⊢
    rw [envN_idx (len' := (l : Int)) (w' := 0) (w2' := 0) rfl]; exact k1
  have hwh : Wh (envN l (e1 1) (e2 1) c row) wh := by
    refine ⟨e1, ?_, by rw [envN_idx (len' := (l : Int)) (w' := 0) (w2' := 0) rfl]; exact j3, rfl⟩
    unfold idxIt at j1 ⊢
    rw [envN_idx (len' := (l : Int)) (w' := 0) (w2' := 0) rfl]; exact j1
  have m1 := j4 1
  have m2 := k3 1
  have pW : ∀ (pc : List (SB × Bool)) (V : @Vals ⟨pc⟩), V.env = envN l (e1 1) (e2 1) c row → @LoopProof ⟨pc⟩ V Tryd.prog isTab (wholeSpec G ok) := fun pc V hV => @whole_proof ⟨pc⟩ V ok (by rw [hV]; exact h0 _ _) (by rw [hV]; exact hok)
  have pI : ∀ (pc : List (SB × Bool)) (V : @Vals ⟨pc⟩), V.env = envN l (e1 1) (e2 1) c row → @LoopProof ⟨pc⟩ V Tryd.prog isTab (idxSpec G .leaf wh) := fun pc V hV => @idx_proof ⟨pc⟩ V wh (by rw [hV]; exact h0 _ _) (by rw [hV]; exact hwh)
  cases ok with
  | false => exact walkR hw hc hcap harr hs hr hrow hl m1 m2 (lok _ _) (fun V hV S hS => by rw [List.mem_singleton] at hS; subst hS; exact pW _ V hV) runB
  | true =>
    by_cases hpc0 : 0 ≤ c 4
    rotate_left
    · exact walkR hw hc hcap harr hs hr hrow hl m1 m2 (fun p hp => by
        rcases List.mem_append.1 hp with hp | hp
        · exact lok _ _ p hp
        · rw [List.mem_singleton] at hp; subst hp; exact decide_eq_false hpc0) (fun V hV S hS => by rw [List.mem_singleton] at hS; subst hS; exact pW _ V hV) runU
    by_cases hpc1 : (l : Int) ≤ c 4
    · exact walkR hw hc hcap harr hs hr hrow hl m1 m2 (fun p hp => by
        rcases List.mem_append.1 hp with hp | hp
        · exact lok _ _ p hp
        · simp only [List.mem_cons, List.not_mem_nil, or_false] at hp
          rcases hp with rfl | rfl
          · exact decide_eq_true hpc0
          · exact decide_eq_true hpc1) (fun V hV S hS => by rw [List.mem_singleton] at hS; subst hS; exact pW _ V hV) runV
    have two : ∀ (pc : List (SB × Bool)) (V : @Vals ⟨pc⟩), V.env = envN l (e1 1) (e2 1) c row → ∀ S ∈ [idxSpec G .leaf wh, wholeSpec G true], @LoopProof ⟨pc⟩ V Tryd.prog isTab S := fun pc V hV S hS => by
      simp only [List.mem_cons, List.not_mem_nil, or_false] at hS
      rcases hS with rfl | rfl
      · exact pI _ V hV
      · exact pW _ V hV
    cases wh with
    | false =>
      exact walkR hw hc hcap harr hs hr hrow hl m1 m2 (fun p hp => by
        rcases List.mem_append.1 hp with hp | hp
        · exact lok _ _ p hp
        · simp only [List.mem_cons, List.not_mem_nil, or_false] at hp
          rcases hp with rfl | rfl | rfl
          · exact decide_eq_true hpc0
          · exact decide_eq_false hpc1
          · exact decide_eq_true (show (0 : Int) ≤ e1 1 from j2 rfl)) (two _) runW
    | true =>
      obtain ⟨pc, d1, d2⟩ := at_place (hmid _ _ m1 m2) (h0 _ _) ⟨hpc0, show c 4 < (l : Int) by omega⟩ hok (fun p hp => by
        simp only [extraN, List.mem_cons, List.not_mem_nil, or_false] at hp
        rcases hp with rfl | rfl | rfl
        · exact decide_eq_true h64
        · exact decide_eq_true hd.2
        · exact decide_eq_true hd.1)
      exact walkR hw hc hcap harr hs hr hrow hl m1 m2 d2 (two _) d1
end
end

theorem arg_slice {W : World} {base : Nat} {u e : TypeId} {v : Value} (h : Value.okWide Tryd.prog W .any base u v) (hu : Tryd.prog.underlying u = some (.slice e)) : v.cells.toList = [v] := by
  unfold Value.okWide at h
  rw [hu] at h
  obtain ⟨_, _, _, rfl⟩ := Abs.cell_slice h hu
  rfl

theorem readable : ∀ t ∈ Tryd.f4.params.toList, Tryd.prog.readableRec t = true ∧ t < Tryd.prog.types.size := by
  rw [argTypes]
  intro t ht
  simp only [List.mem_cons, List.not_mem_nil, or_false] at ht
  rcases ht with rfl | rfl
  · exact ⟨by kernel_rfl, Nat.le_of_ble_eq_true (by kernel_rfl)⟩
  · exact ⟨by kernel_rfl, Nat.le_of_ble_eq_true (by kernel_rfl)⟩

/-- The door's own heap meets the condition. -/
theorem door_met (os : Os) (args : Array Value) : laidMetH Tryd.prog Rows.cpuNearRow.laid ((World.doorLaid Tryd.prog 400 os).forCall (fun _ _ => 0) ⟨#[], args, []⟩).memory :=
  laidMetH_of_parts3 (fuel := 8) (laidMet_of_run' 8 (by kernel_rfl) (by kernel_rfl)) (by kernel_rfl) (by kernel_rfl)

set_option maxRecDepth 100000 in
theorem lifted (os : Os) (started : os.Started) (H : Type) (enc : TypeId × Value → H) :
    ReturnsInHanded {} Tryd.checked os 4 .any (fun w args => (Rows.cpuNearSpec.pre enc Tryd.prog Tryd.f4 [] false w args ∧ laidMetH Tryd.prog Rows.cpuNearRow.laid w) ∧ sizedMet enc Tryd.prog Tryd.f4 (OpenSpec.ofChange Rows.cpuNearSpec) false w args)
      (Rows.cpuNearSpec.post enc Tryd.prog Tryd.f4 false true false false) := by
  refine returnsInHanded_of_change_and (C := Tryd.checked) (X := fun w _ => laidMetH Tryd.prog Rows.cpuNearRow.laid w) (fun _ _ _ hh h => h.of_heap hh) own started (by kernel_rfl) Tryd.func4
    (ChangeSpec.witness_shaped (enc := enc) (C := Tryd.checked) (os := os) (X := fun w _ => laidMetH Tryd.prog Rows.cpuNearRow.laid w) false (World.doorLaid Tryd.prog 400 os) #[.slice none 0 0, .agg #[.int .i64 0, .int .i64 0, .int .i64 0, .int .i64 0, .int .i64 0, .int .i64 0, .int .i64 0, .int .i64 0, .int .i64 0, .int .i64 0, .int .i64 0]] 8 rfl (World.shaped_of_RefB (by kernel_rfl) (by kernel_rfl)) (by kernel_rfl) (by kernel_rfl) (by kernel_rfl) (door_met os _)) ?_
  intro W base args ds gs before hval0 hW0 _ _ hL _
  have hval : ∀ (j : Nat) t v, Tryd.f4.params[j]? = some t → args[j]? = some v → Value.okWide Tryd.prog W .any base t v := hval0
  have hW : DataW.Whole enc Tryd.prog Tryd.f4.params.toList Rows.cpuNearSpec.vars false W args.toList ds gs before := hW0
  have hw := Abs.hasTabs_of_laid noHandles hL
  clear hval0 hW0 hL
  obtain ⟨⟨la, rfl, hla⟩, hds⟩ := Abs.args_length (n := 2) (by rw [argTypes]; rfl) hW
  obtain ⟨v0, v1, rfl⟩ := cutArgs hla
  obtain ⟨d0, d1, rfl⟩ := cutArgs hds
  obtain ⟨l1, rfl, hl1, hc1⟩ := Abs.arg_struct (hval 1 26 v1 argNo1 rfl) Tryd.underlying26 argCells1 argSize1
  obtain ⟨c0, c1, c2, c3, c4, c5, c6, c7, c8, c9, c10, rfl⟩ := cut11 hl1
  obtain ⟨x0, rfl, g0⟩ := Abs.cell_mid (hc1 0 c0 3 rfl rfl) Tryd.underlying3
  obtain ⟨x1, rfl, g1⟩ := Abs.cell_mid (hc1 1 c1 3 rfl rfl) Tryd.underlying3
  obtain ⟨x2, rfl, g2⟩ := Abs.cell_mid (hc1 2 c2 3 rfl rfl) Tryd.underlying3
  obtain ⟨x3, rfl, g3⟩ := Abs.cell_mid (hc1 3 c3 3 rfl rfl) Tryd.underlying3
  obtain ⟨x4, rfl, g4⟩ := Abs.cell_mid (hc1 4 c4 3 rfl rfl) Tryd.underlying3
  obtain ⟨x5, rfl, g5⟩ := Abs.cell_mid (hc1 5 c5 3 rfl rfl) Tryd.underlying3
  obtain ⟨x6, rfl, g6⟩ := Abs.cell_mid (hc1 6 c6 3 rfl rfl) Tryd.underlying3
  obtain ⟨x7, rfl, g7⟩ := Abs.cell_mid (hc1 7 c7 3 rfl rfl) Tryd.underlying3
  obtain ⟨x8, rfl, g8⟩ := Abs.cell_mid (hc1 8 c8 3 rfl rfl) Tryd.underlying3
  obtain ⟨x9, rfl, g9⟩ := Abs.cell_mid (hc1 9 c9 3 rfl rfl) Tryd.underlying3
  obtain ⟨x10, rfl, g10⟩ := Abs.cell_mid (hc1 10 c10 3 rfl rfl) Tryd.underlying3
  have hc : ∀ j, Abs.In64 (Abs.envOf [0, 0, 0, x0, x1, x2, x3, x4, x5, x6, x7, x8, x9, x10] j) := Abs.envOf_mid (Abs.MidL.all ⟨Abs.mid_zero, Abs.mid_zero, Abs.mid_zero, Abs.mid_of g0, Abs.mid_of g1, Abs.mid_of g2, Abs.mid_of g3, Abs.mid_of g4, Abs.mid_of g5, Abs.mid_of g6, Abs.mid_of g7, Abs.mid_of g8, Abs.mid_of g9, Abs.mid_of g10, trivial⟩)
  have hW1 := hW
  obtain ⟨p, q, hA, _⟩ := hW1
  rw [argTypes] at hA
  obtain ⟨u0, us0, e0, es0, p0, q0, k1, k2, k3, ⟨fuel, t0⟩, r0⟩ := trodAll_cons hA
  cases k1
  have cs := arg_slice (hval 0 23 v0 argNo0 rfl) Tryd.underlying23
  rcases Abs.slice_rows Tryd.underlying23 kinds0 size0 (by decide) t0 with ⟨p, cc, e⟩ | ⟨bb, o, l, cap, row, arr, el, fz, e, z0, z1, z2, z3, z4, z5, z6⟩
  · rw [cs] at e
    cases e
    refine (walkE hw hc).mono fun e W' h => ?_
    exact ⟨_, h.1, Abs.post_true hW rfl laidOut readable resTypes Tryd.underlying4 ⟨rfl, rfl, rfl⟩ h.2⟩
  · rw [cs] at e
    cases e
    refine (walkS hw hc z1 z3 z4 z5 z6 z2 g10).mono fun e W' h => ?_
    exact ⟨_, h.1, Abs.post_true hW rfl laidOut readable resTypes Tryd.underlying4 ⟨rfl, rfl, rfl⟩ h.2⟩

theorem over : Rows.CpuNearSaid :=
  OpenClaim.holds_of_wide 4 Tryd.f4 rfl rfl rfl rfl rfl rfl rfl ⟨rfl, rfl, rfl, rfl, rfl⟩ rfl rfl rfl rfl rfl (by kernel_rfl) Tryd.func4 (by kernel_rfl)
    (of_decide_eq_true (by kernel_rfl)) (by unfold Func.isWrapper; first | (rw [if_pos (by decide +kernel)]; kernel_rfl) | (rw [if_neg (by decide +kernel)]; exact ⟨rfl, rfl⟩))
    (fun os started H enc _ => lifted os started H enc)

/-- The statement: the tied card. -/
theorem proved : Rows.CpuNearCardSaid :=
  Claim7.holds_tied_plain_at .later [] [.widerDeep] true (true, "b266be6e87342516e553df64f1946c29b299cfcbcc99c3a37e6af7d67ac74141") false
    over (fun _ h => by cases h) (by kernel_rfl) (fun _ h => by cases h) cpuNear_row_tie rfl ⟨rfl, rfl⟩ (by kernel_rfl) rfl
    (fun f fn hf hfn => by
      obtain rfl : f = 4 := Option.some.inj ((show Tryd.prog.funcNamed "wherry/wherrylaw13.CpuNear" = some 4 by kernel_rfl).symm.trans hf) |>.symm
      obtain rfl : fn = Tryd.f4 := (Option.some.inj (Tryd.func4.symm.trans hfn)).symm
      exact ⟨by kernel_rfl, fun j t ht => by
        have hm : t ∈ Tryd.f4.params.toList := Array.mem_toList_iff.2 (Array.mem_of_getElem? ht)
        rw [argTypes] at hm
        simp only [List.mem_cons, List.not_mem_nil, or_false] at hm
        rcases hm with rfl | rfl
        · exact (show Tryd.prog.wantsStandIn 23 = false by kernel_rfl)
        · exact (show Tryd.prog.wantsStandIn 26 = false by kernel_rfl)⟩)
    (by kernel_rfl)
end Go.Proofs.YtkcdcnjpafblfaaDoor.cpuNear
